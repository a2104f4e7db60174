/- The same bytes, where it is so. -/
import Derived.Test.YtcaejcbmkiacmaaDoorRh
namespace Go.Proofs.YtcaejcbmkiacmaaDoor
open Go.RowKit

def sliceLen : Value → Nat
  | .slice _ n _ => n
  | _ => 0
theorem src_next {w : World} {b off : Nat} {c : UInt8} {r : Bs} {cap : Nat} (h : SrcAt w (some ⟨b, off, none⟩) (c :: r)) (hc : r.length + 1 ≤ cap) :
    SrcAt w (if cap = 1 then some ⟨b, off, none⟩ else some ⟨b, off + 1, none⟩) r := by
  split
  · rename_i h1
    have : r = [] := List.eq_nil_of_length_eq_zero (by omega)
    subst this
    intro i x hi
    simp at hi
  · intro i x hi
    obtain ⟨b', off', e1, e2⟩ := h (i + 1) x (by simpa using hi)
    simp only [Option.some.injEq, Addr.mk.injEq, and_true] at e1
    obtain ⟨rfl, rfl⟩ := e1
    exact ⟨b, off + 1, rfl, by rw [Nat.add_assoc, Nat.add_comm 1 i]; exact e2⟩
theorem src_cell3 {w : World} {b off : Nat} {l : Bs} {i : Nat} {x : UInt8} (h : SrcAt w (some ⟨b, off, none⟩) l) (hi : l[i]? = some x) : w.cell? ⟨b, off + i, none⟩ = some (.int .u8 (x.toNat : Nat)) := by
  obtain ⟨b', off', e1, e2⟩ := h i x hi
  simp only [Option.some.injEq, Addr.mk.injEq, and_true] at e1
  obtain ⟨rfl, rfl⟩ := e1
  exact e2
set_option maxHeartbeats 2000000 in
theorem eq_true (x0 : Bs) (a1 a2 : Option Addr) (n c1 c2 : Nat) (w : World) (hn : n ≤ 1099511627776) (h1c : n ≤ c1) (h2c : n ≤ c2) (h1m : c1 ≤ maxLen) (h2m : c2 ≤ maxLen) (hl : Hid (x0.length = n)) (h1 : Hid (SrcAt w a1 x0)) (h2 : Hid (SrcAt w a2 x0)) :
    Calls Tryd.prog 26 #[.slice a1 n c1, .slice a2 n c2] w (Said w true) := by
  go_enter Tryd.func26, Tryd.ntmps26
  go_wp2_with fail
  go_loopw [0, 1] (fun va vb wr => ∃ (x : Bs) (A1 A2 : Option Addr) (m k1 k2 : Nat), m ≤ 1099511627776 ∧ m ≤ k1 ∧ m ≤ k2 ∧ k1 ≤ maxLen ∧ k2 ≤ maxLen ∧ va = .slice A1 m k1 ∧ vb = .slice A2 m k2 ∧ Hid (x.length = m) ∧ Hid (SrcAt wr A1 x) ∧ Hid (SrcAt wr A2 x) ∧ Hid (Below w.heap.size w wr)) (fun va _ _ => sliceLen va)
  case atStart => exact ⟨x0, a1, a2, n, c1, c2, hn, h1c, h2c, h1m, h2m, rfl, rfl, hl, h1, h2, Lib.hid (Below.refl _ _)⟩
  case round =>
    obtain ⟨x, A1, A2, m, k1, k2, hm, hk1, hk2, hx1, hx2, rfl, rfl, HL, HS1, HS2, HF⟩ := hrel
    cases x with
    | nil =>
      obtain rfl : 0 = m := HL.out
      go_wp2_with fail
      refine wp_region_held_drew (S := fun w' => Below w.heap.size w w') (by kernel_rfl) (HF.out.drew) (fun hHeld => ?_)
      refine take_op 0 (some 5) (Op.move ( .tmp 0)) 22 ?_ (by kernel_rfl) (by kernel_rfl) (by kernel_rfl) (by kernel_rfl) (by kernel_rfl) (fun _ _ _ h => h) ?_ (by assumption) ?_
      rotate_left
      · intro w hSw; (try dsimp only at hSw); go_simp; (try (with_reducible rfl))
      try simp only [Act.put, List.setIfInBounds_toArray, List.set_cons_zero, List.set_cons_succ]
      refine take_op 1 (some 6) (Op.call { callee := Callee.builtin Builtin.len, args := #[ .tmp 5], argTypes := #[22] }) 3 ?_ (by kernel_rfl) (by kernel_rfl) (by kernel_rfl) (by kernel_rfl) (by kernel_rfl) (fun _ _ _ h => h) ?_ (by assumption) ?_
      rotate_left
      · intro w hSw; (try dsimp only at hSw); go_simp; (try (with_reducible rfl))
      try simp only [Act.put, List.setIfInBounds_toArray, List.set_cons_zero, List.set_cons_succ]
      refine take_op 2 (some 7) (Op.binOp BinOp.gtr 3 ( .tmp 6) ( .const (.int .i64 0)) 3) 4 ?_ (by kernel_rfl) (by kernel_rfl) (by kernel_rfl) (by kernel_rfl) (by kernel_rfl) (fun _ _ _ h => h) ?_ (by assumption) ?_
      rotate_left
      · intro w hSw; (try dsimp only at hSw); go_simp; (try (with_reducible rfl))
      try simp only [Act.put, List.setIfInBounds_toArray, List.set_cons_zero, List.set_cons_succ]
      refine take_op 3 (some 8) (Op.move ( .tmp 7)) 4 ?_ (by kernel_rfl) (by kernel_rfl) (by kernel_rfl) (by kernel_rfl) (by kernel_rfl) (fun _ _ _ h => h) ?_ (by assumption) ?_
      rotate_left
      · intro w hSw; (try dsimp only at hSw); go_simp; (try (with_reducible rfl))
      try simp only [Act.put, List.setIfInBounds_toArray, List.set_cons_zero, List.set_cons_succ]
      refine skip_op 4 (some 9) (by kernel_rfl) (by kernel_rfl) (by kernel_rfl) (by kernel_rfl) (by kernel_rfl) (fun _ _ _ h => h) (by assumption) ?_
      try simp only [Act.put, List.setIfInBounds_toArray, List.set_cons_zero, List.set_cons_succ]
      refine skip_op 5 (some 10) (by kernel_rfl) (by kernel_rfl) (by kernel_rfl) (by kernel_rfl) (by kernel_rfl) (fun _ _ _ h => h) (by assumption) ?_
      try simp only [Act.put, List.setIfInBounds_toArray, List.set_cons_zero, List.set_cons_succ]
      refine skip_op 6 (some 11) (by kernel_rfl) (by kernel_rfl) (by kernel_rfl) (by kernel_rfl) (by kernel_rfl) (fun _ _ _ h => h) (by assumption) ?_
      try simp only [Act.put, List.setIfInBounds_toArray, List.set_cons_zero, List.set_cons_succ]
      refine take_op 7 (some 12) (Op.pick ( .tmp 8) ( .tmp 11) ( .const (Value.bool false))) 4 ?_ (by kernel_rfl) (by kernel_rfl) (by kernel_rfl) (by kernel_rfl) (by kernel_rfl) (fun _ _ _ h => h) ?_ (by assumption) ?_
      rotate_left
      · intro w hSw; (try dsimp only at hSw); go_simp; (try (with_reducible rfl))
      try simp only [Act.put, List.setIfInBounds_toArray, List.set_cons_zero, List.set_cons_succ]
      refine take_op 8 (some 13) (Op.move ( .tmp 12)) 4 ?_ (by kernel_rfl) (by kernel_rfl) (by kernel_rfl) (by kernel_rfl) (by kernel_rfl) (fun _ _ _ h => h) ?_ (by assumption) ?_
      rotate_left
      · intro w hSw; (try dsimp only at hSw); go_simp; (try (with_reducible rfl))
      try simp only [Act.put, List.setIfInBounds_toArray, List.set_cons_zero, List.set_cons_succ]
      refine skip_op 9 (some 14) (by kernel_rfl) (by kernel_rfl) (by kernel_rfl) (by kernel_rfl) (by kernel_rfl) (fun _ _ _ h => h) (by assumption) ?_
      try simp only [Act.put, List.setIfInBounds_toArray, List.set_cons_zero, List.set_cons_succ]
      refine skip_op 10 (some 15) (by kernel_rfl) (by kernel_rfl) (by kernel_rfl) (by kernel_rfl) (by kernel_rfl) (fun _ _ _ h => h) (by assumption) ?_
      try simp only [Act.put, List.setIfInBounds_toArray, List.set_cons_zero, List.set_cons_succ]
      refine skip_op 11 (some 16) (by kernel_rfl) (by kernel_rfl) (by kernel_rfl) (by kernel_rfl) (by kernel_rfl) (fun _ _ _ h => h) (by assumption) ?_
      try simp only [Act.put, List.setIfInBounds_toArray, List.set_cons_zero, List.set_cons_succ]
      refine skip_op 12 (some 17) (by kernel_rfl) (by kernel_rfl) (by kernel_rfl) (by kernel_rfl) (by kernel_rfl) (fun _ _ _ h => h) (by assumption) ?_
      try simp only [Act.put, List.setIfInBounds_toArray, List.set_cons_zero, List.set_cons_succ]
      refine skip_op 13 (some 18) (by kernel_rfl) (by kernel_rfl) (by kernel_rfl) (by kernel_rfl) (by kernel_rfl) (fun _ _ _ h => h) (by assumption) ?_
      try simp only [Act.put, List.setIfInBounds_toArray, List.set_cons_zero, List.set_cons_succ]
      refine skip_op 14 (some 19) (by kernel_rfl) (by kernel_rfl) (by kernel_rfl) (by kernel_rfl) (by kernel_rfl) (fun _ _ _ h => h) (by assumption) ?_
      try simp only [Act.put, List.setIfInBounds_toArray, List.set_cons_zero, List.set_cons_succ]
      refine skip_op 15 (some 20) (by kernel_rfl) (by kernel_rfl) (by kernel_rfl) (by kernel_rfl) (by kernel_rfl) (fun _ _ _ h => h) (by assumption) ?_
      try simp only [Act.put, List.setIfInBounds_toArray, List.set_cons_zero, List.set_cons_succ]
      refine take_op 16 (some 21) (Op.pick ( .tmp 13) ( .tmp 20) ( .const (Value.bool false))) 4 ?_ (by kernel_rfl) (by kernel_rfl) (by kernel_rfl) (by kernel_rfl) (by kernel_rfl) (fun _ _ _ h => h) ?_ (by assumption) ?_
      rotate_left
      · intro w hSw; (try dsimp only at hSw); go_simp; (try (with_reducible rfl))
      try simp only [Act.put, List.setIfInBounds_toArray, List.set_cons_zero, List.set_cons_succ]
      refine wpAnyH_done (by kernel_rfl) ?_ _
      rename_i hHeld
      go_wp2_with fail
      go_ret
      exact ⟨rfl, hHeld⟩
    | cons c r =>
      obtain ⟨b1, o1, rfl⟩ := HS1.out.some_of (by simp)
      obtain ⟨b2, o2, rfl⟩ := HS2.out.some_of (by simp)
      have e1 := src_cell3 HS1.out (i := 0) (x := c) rfl
      have e2 := src_cell3 HS2.out (i := 0) (x := c) rfl
      rw [Nat.add_zero] at e1 e2
      have hm1 : r.length + 1 = m := HL.out
      have hm0 : 0 < m := by omega
      have HM1 := Lib.hid hm1
      have N1 := Lib.hid (src_next HS1.out (cap := k1) (by omega))
      have N2 := Lib.hid (src_next HS2.out (cap := k2) (by omega))
      have q0 : decide ((0 : Int) < (m : Int)) = true := by simp only [decide_eq_true_eq]; omega
      clear hm1
      go_wp2_with fail
      go_quiet (fail)
      go_wp2_with fail
      exact ⟨⟨r, _, _, m - 1, k1 - 1, k2 - 1, by omega, by omega, by omega, by omega, by omega, rfl, rfl, Lib.hid (by have := HM1.out; omega), Lib.hid (fun i x hi => N1.out i x hi), Lib.hid (fun i x hi => N2.out i x hi), Lib.hid (below_drew HF.out nq)⟩, by show m - 1 < m; omega⟩
end Go.Proofs.YtcaejcbmkiacmaaDoor
