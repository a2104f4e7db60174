/- Watched bytes are what they were. -/
import Derived.Test.YtcaejcbmkiacmaaDoorRi
namespace Go.Proofs.YtcaejcbmkiacmaaDoor
open Go.RowKit

theorem below_step {w w1 w2 : World} (h : Below w.heap.size w w1) (k : Below w1.heap.size w1 w2) : Below w.heap.size w w2 := h.trans (k.mono h.size)
theorem src_left {w : World} {a : Option Addr} {x y : Bs} (h : SrcAt w a (x ++ y)) : SrcAt w a x := by
  intro i c hi
  refine h i c ?_
  rw [List.getElem?_append_left (List.getElem?_eq_some_iff.1 hi).1]
  exact hi
theorem src_right {w : World} {b o : Nat} {x y : Bs} (h : SrcAt w (some ⟨b, o, none⟩) (x ++ y)) : SrcAt w (some ⟨b, o + x.length, none⟩) y := by
  intro i c hi
  obtain ⟨b', o', e1, e2⟩ := h (x.length + i) c (by rw [List.getElem?_append_right (by omega)]; simpa using hi)
  simp only [Option.some.injEq, Addr.mk.injEq, and_true] at e1
  obtain ⟨rfl, rfl⟩ := e1
  exact ⟨b, o + x.length, rfl, by rw [Nat.add_assoc]; exact e2⟩
set_option maxHeartbeats 2000000 in
theorem kept_any (l : Bs) (g o n : Nat) (a : Option Addr) (cap : Nat) (w : World) (hn : n ≤ 65536) (hc : n ≤ cap) (hcm : cap ≤ maxLen) (hl : Hid (l.length = n)) (h1 : Hid (SrcAt w (some ⟨g, o, none⟩) (l ++ tail6))) (h2 : Hid (SrcAt w a l)) :
    Calls Tryd.prog 14 #[.slice (some ⟨g, o, none⟩) n (n + 6), .slice a n cap] w (Said w true) := by
  have hm6 : n + 6 ≤ maxLen := by unfold maxLen; omega
  have HE1 : Hid (∀ w', Below w.heap.size w w' → Calls Tryd.prog 26 #[.slice (some ⟨g, o, none⟩) n (n + 6), .slice a n cap] w' (Said w' true)) := Lib.hid (fun w' hb =>
    eq_true l _ _ n _ _ w' (by omega) (by omega) hc hm6 hcm hl (Lib.hid (src_left (h1.out.below hb))) (Lib.hid (h2.out.below hb)))
  have HE2 : Hid (∀ (w' : World) (A : Option Addr), Below w.heap.size w w' → SrcAt w' A tail6 → Calls Tryd.prog 26 #[.slice (some ⟨g, o + n, none⟩) 6 6, .slice A 6 6] w' (Said w' true)) := Lib.hid (fun w' A hb hA => by
    have h3 := src_right (h1.out.below hb)
    rw [hl.out] at h3
    exact eq_true tail6 _ _ 6 6 6 w' (by decide) (Nat.le_refl _) (Nat.le_refl _) (by decide) (by decide) (Lib.hid rfl) (Lib.hid h3) (Lib.hid hA))
  have q1 : ((n : Int) + 6).toNat = n + 6 := by omega
  have b1 : (0 : Int) ≤ (n : Int) := by omega
  have b2 : (n : Int) ≤ (n : Int) + 6 := by omega
  go_enter Tryd.func14, Tryd.ntmps14
  go_wp2_with fail
  refine (tail_any w).mono ?_
  rintro e w1 ⟨rfl, _, hb1⟩
  have HB1 := Lib.hid hb1
  clear hb1
  go_wp2_with fail
  refine wp_region_held_drew (S := fun w' => Below w.heap.size w w') (by kernel_rfl) (HB1.out.drew) (fun hHeld => ?_)
  refine take_op 0 (some 11) (Op.move ( .tmp 0)) 22 ?_ (by kernel_rfl) (by kernel_rfl) (by kernel_rfl) (by kernel_rfl) (by kernel_rfl) (fun _ _ _ h => h) ?_ (by assumption) ?_
  rotate_left
  · intro w hSw; (try dsimp only at hSw); go_simp; (try (with_reducible rfl))
  try simp only [Act.put, List.setIfInBounds_toArray, List.set_cons_zero, List.set_cons_succ]
  refine take_op 1 (some 12) (Op.move ( .tmp 1)) 22 ?_ (by kernel_rfl) (by kernel_rfl) (by kernel_rfl) (by kernel_rfl) (by kernel_rfl) (fun _ _ _ h => h) ?_ (by assumption) ?_
  rotate_left
  · intro w hSw; (try dsimp only at hSw); go_simp; (try (with_reducible rfl))
  try simp only [Act.put, List.setIfInBounds_toArray, List.set_cons_zero, List.set_cons_succ]
  refine wpAnyH_ready (rs := [2]) (by kernel_rfl) (by simp) ?_ -- slot 13 F26
  refine AllReadyH.cons (o := _) rfl (fun K hK => ?_) AllReadyH.nil
  go_simp
  refine (HE1.out _ (by assumption)).mono ?_; rintro e w' ⟨rfl, hb'⟩
  refine hK.out _ _ ?_ (fun hHeld => ?_)
  · exact below_step (by assumption) hb'
  clear hK K
  try dsimp only
  try simp only [Act.put, List.setIfInBounds_toArray, List.set_cons_zero, List.set_cons_succ]
  refine take_op 3 (some 14) (Op.move ( .tmp 13)) 4 ?_ (by kernel_rfl) (by kernel_rfl) (by kernel_rfl) (by kernel_rfl) (by kernel_rfl) (fun _ _ _ h => h) ?_ (by assumption) ?_
  rotate_left
  · intro w hSw; (try dsimp only at hSw); go_simp; (try (with_reducible rfl))
  try simp only [Act.put, List.setIfInBounds_toArray, List.set_cons_zero, List.set_cons_succ]
  refine take_op 4 (some 15) (Op.move ( .tmp 0)) 22 ?_ (by kernel_rfl) (by kernel_rfl) (by kernel_rfl) (by kernel_rfl) (by kernel_rfl) (fun _ _ _ h => h) ?_ (by assumption) ?_
  rotate_left
  · intro w hSw; (try dsimp only at hSw); go_simp; (try (with_reducible rfl))
  try simp only [Act.put, List.setIfInBounds_toArray, List.set_cons_zero, List.set_cons_succ]
  refine take_op 5 (some 16) (Op.call { callee := Callee.builtin Builtin.cap, args := #[ .tmp 15], argTypes := #[22] }) 3 ?_ (by kernel_rfl) (by kernel_rfl) (by kernel_rfl) (by kernel_rfl) (by kernel_rfl) (fun _ _ _ h => h) ?_ (by assumption) ?_
  rotate_left
  · intro w hSw; (try dsimp only at hSw); go_simp; (try (with_reducible rfl))
  try simp only [Act.put, List.setIfInBounds_toArray, List.set_cons_zero, List.set_cons_succ]
  refine take_op 6 (some 17) (Op.move ( .tmp 5)) 3 ?_ (by kernel_rfl) (by kernel_rfl) (by kernel_rfl) (by kernel_rfl) (by kernel_rfl) (fun _ _ _ h => h) ?_ (by assumption) ?_
  rotate_left
  · intro w hSw; (try dsimp only at hSw); go_simp; (try (with_reducible rfl))
  try simp only [Act.put, List.setIfInBounds_toArray, List.set_cons_zero, List.set_cons_succ]
  refine take_op 7 (some 18) (Op.binOp BinOp.eql 3 ( .tmp 16) ( .tmp 17) 3) 4 ?_ (by kernel_rfl) (by kernel_rfl) (by kernel_rfl) (by kernel_rfl) (by kernel_rfl) (fun _ _ _ h => h) ?_ (by assumption) ?_
  rotate_left
  · intro w hSw; (try dsimp only at hSw); go_simp; (try (with_reducible rfl))
  try simp only [Act.put, List.setIfInBounds_toArray, List.set_cons_zero, List.set_cons_succ]
  refine take_op 8 (some 19) (Op.pick ( .tmp 14) ( .tmp 18) ( .const (Value.bool false))) 4 ?_ (by kernel_rfl) (by kernel_rfl) (by kernel_rfl) (by kernel_rfl) (by kernel_rfl) (fun _ _ _ h => h) ?_ (by assumption) ?_
  rotate_left
  · intro w hSw; (try dsimp only at hSw); go_simp; (try (with_reducible rfl))
  try simp only [Act.put, List.setIfInBounds_toArray, List.set_cons_zero, List.set_cons_succ]
  refine take_op 9 (some 20) (Op.move ( .tmp 19)) 4 ?_ (by kernel_rfl) (by kernel_rfl) (by kernel_rfl) (by kernel_rfl) (by kernel_rfl) (fun _ _ _ h => h) ?_ (by assumption) ?_
  rotate_left
  · intro w hSw; (try dsimp only at hSw); go_simp; (try (with_reducible rfl))
  try simp only [Act.put, List.setIfInBounds_toArray, List.set_cons_zero, List.set_cons_succ]
  refine take_op 10 (some 21) (Op.move ( .tmp 0)) 22 ?_ (by kernel_rfl) (by kernel_rfl) (by kernel_rfl) (by kernel_rfl) (by kernel_rfl) (fun _ _ _ h => h) ?_ (by assumption) ?_
  rotate_left
  · intro w hSw; (try dsimp only at hSw); go_simp; (try (with_reducible rfl))
  try simp only [Act.put, List.setIfInBounds_toArray, List.set_cons_zero, List.set_cons_succ]
  refine take_op 11 (some 22) (Op.move ( .tmp 0)) 22 ?_ (by kernel_rfl) (by kernel_rfl) (by kernel_rfl) (by kernel_rfl) (by kernel_rfl) (fun _ _ _ h => h) ?_ (by assumption) ?_
  rotate_left
  · intro w hSw; (try dsimp only at hSw); go_simp; (try (with_reducible rfl))
  try simp only [Act.put, List.setIfInBounds_toArray, List.set_cons_zero, List.set_cons_succ]
  refine take_op 12 (some 23) (Op.call { callee := Callee.builtin Builtin.len, args := #[ .tmp 22], argTypes := #[22] }) 3 ?_ (by kernel_rfl) (by kernel_rfl) (by kernel_rfl) (by kernel_rfl) (by kernel_rfl) (fun _ _ _ h => h) ?_ (by assumption) ?_
  rotate_left
  · intro w hSw; (try dsimp only at hSw); go_simp; (try (with_reducible rfl))
  try simp only [Act.put, List.setIfInBounds_toArray, List.set_cons_zero, List.set_cons_succ]
  refine take_op 13 (some 24) (Op.move ( .tmp 5)) 3 ?_ (by kernel_rfl) (by kernel_rfl) (by kernel_rfl) (by kernel_rfl) (by kernel_rfl) (fun _ _ _ h => h) ?_ (by assumption) ?_
  rotate_left
  · intro w hSw; (try dsimp only at hSw); go_simp; (try (with_reducible rfl))
  try simp only [Act.put, List.setIfInBounds_toArray, List.set_cons_zero, List.set_cons_succ]
  refine take_op 14 (some 25) (Op.slice 22 ( .tmp 21) (some ( .tmp 23)) (some ( .tmp 24)) none) 22 ?_ (by kernel_rfl) (by kernel_rfl) (by kernel_rfl) (by kernel_rfl) (by kernel_rfl) (fun _ _ _ h => h) ?_ (by assumption) ?_
  rotate_left
  · intro w hSw; (try dsimp only at hSw); go_simp; (try (with_reducible rfl))
  try simp only [Act.put, List.setIfInBounds_toArray, List.set_cons_zero, List.set_cons_succ]
  refine wpAnyH_ready (rs := [15]) (by kernel_rfl) (by simp) ?_ -- slot 26 F21
  refine AllReadyH.cons (o := _) rfl (fun K hK => ?_) AllReadyH.nil
  go_simp
  refine (tail_any _).mono ?_; rintro e w' ⟨rfl, ht', hb'⟩
  refine hK.out _ _ ?_ (fun hHeld => ?_)
  · exact below_step (by assumption) hb'
  clear hK K
  try dsimp only
  try simp only [Act.put, List.setIfInBounds_toArray, List.set_cons_zero, List.set_cons_succ]
  refine wpAnyH_ready (rs := [16]) (by kernel_rfl) (by simp) ?_ -- slot 27 F26
  refine AllReadyH.cons (o := _) rfl (fun K hK => ?_) AllReadyH.nil
  go_simp
  refine (HE2.out _ _ (by assumption) (by assumption)).mono ?_; rintro e w'' ⟨rfl, hb''⟩
  refine hK.out _ _ ?_ (fun hHeld => ?_)
  · exact below_step (by assumption) hb''
  clear hK K
  try dsimp only
  try simp only [Act.put, List.setIfInBounds_toArray, List.set_cons_zero, List.set_cons_succ]
  refine take_op 17 (some 28) (Op.pick ( .tmp 20) ( .tmp 27) ( .const (Value.bool false))) 4 ?_ (by kernel_rfl) (by kernel_rfl) (by kernel_rfl) (by kernel_rfl) (by kernel_rfl) (fun _ _ _ h => h) ?_ (by assumption) ?_
  rotate_left
  · intro w hSw; (try dsimp only at hSw); go_simp; (try (with_reducible rfl))
  try simp only [Act.put, List.setIfInBounds_toArray, List.set_cons_zero, List.set_cons_succ]
  refine take_op 18 (some 4) (Op.assign ( .tmp 28)) 4 ?_ (by kernel_rfl) (by kernel_rfl) (by kernel_rfl) (by kernel_rfl) (by kernel_rfl) (fun _ _ _ h => h) ?_ (by assumption) ?_
  rotate_left
  · intro w hSw; (try dsimp only at hSw); go_simp; (try (with_reducible rfl))
  try simp only [Act.put, List.setIfInBounds_toArray, List.set_cons_zero, List.set_cons_succ]
  refine wpAnyH_done (by kernel_rfl) ?_ _
  go_wp2_with fail
  go_ret
  exact ⟨rfl, hHeld⟩
end Go.Proofs.YtcaejcbmkiacmaaDoor
