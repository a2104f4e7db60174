/- Is a row of use behind some? -/
import Derived.Test.YthjecikdkdjlaaaFi
import Derived.Test.YthjecikdkdjlaaaWl
import Derived.Test.YthjecikdkdjlaaaUs
namespace Go.Proofs.Ythjecikdkdjlaaa
open Go.RowKit

theorem enters39 (args : Array Value) (u : World) : Sem.run Try.prog (callFunc 39 args) u = .ok (.enter 39 args) u := by kernel_rfl
theorem RowV.slice {base : Nat} {w : World} {v : Value} {l : List T} (h : RowV base w v l) : ∃ a c, v = .slice a l.length c := by
  obtain ⟨a, c, e, _⟩ := h
  exact ⟨a, c, e⟩
theorem RowsV.slice {base : Nat} {w : World} {v : Value} {l : List (List T)} (h : RowsV base w v l) : ∃ a c, v = .slice a l.length c := by
  obtain ⟨a, c, e, _⟩ := h
  exact ⟨a, c, e⟩
set_option maxHeartbeats 2000000 in
set_option maxRecDepth 100000 in
theorem one_use (base : Nat) (is : List Inf) (gc g1 g2 g3 : Nat) (rows : List (List T)) (q p : T) (r' l : List T) (ar : Option Addr) (nr cr : Nat) (vrow vq : Value) (w : World) (hc : Chk w gc is) (hok : RowsOk rows) (hq : q.kids.length ≤ 1048576) (hp : p.kids.length ≤ 1048576) (hl : r'.length + 1 ≤ 1048576) (hbase : base ≤ w.heap.size)
    (hr : RowsV base w (.slice ar nr cr) rows) (hrow : RowV base w vrow (r'.reverse ++ [p])) (hi : IsT base w q vq) (hinto : into is q (p :: r') = some l)
    (h1 : w.cell? ⟨g1, 0, none⟩ = some (.pointer (some ⟨gc, 0, none⟩))) (h2 : w.cell? ⟨g2, 0, none⟩ = some vrow) (h3 : w.cell? ⟨g3, 0, none⟩ = some (.slice ar nr cr)) (B : Bool)
    (hih : ∀ w' vr v, Fr No w w' → RowsV base w' vr (allInto is q rows) → RowV base w' v l.reverse → Calls Try.prog 23 #[.pointer (some ⟨gc, 0, none⟩), vr, v] w' (SaidT w' B)) :
    Calls Try.prog 39 #[vq, .pointer (some ⟨g1, 0, none⟩), .pointer (some ⟨g2, 0, none⟩), .pointer (some ⟨g3, 0, none⟩)] w (SaidT w B) := by
  obtain ⟨x0, x1, x2, x3, rfl⟩ := is_agg hi
  obtain ⟨kp, sp, np, ap, mp, cp, rfl, rfl, rfl, rfl⟩ := is_cells hi
  obtain ⟨w0, hw0⟩ : ∃ w0, w0 = w.alloc (.cells #[.int .u8 kp, .string sp, .int .i64 np, .slice ap mp cp] 40) := ⟨_, rfl⟩
  obtain ⟨g4, hg4⟩ : ∃ g4, w.heap.size = g4 := ⟨_, rfl⟩
  have r0 : Hid (w0.heap[g4]? = some (.cells #[.int .u8 kp, .string sp, .int .i64 np, .slice ap mp cp] 40 (0, 0))) := Lib.hid (by rw [hw0, ← hg4]; exact new_block w _)
  have HF0 : Hid (Fr No w w0) := Lib.hid (by rw [hw0]; exact Fr.alloc w _)
  obtain ⟨arow, crow, rfl⟩ := hrow.slice
  obtain ⟨nrow, hnrow⟩ : ∃ nrow, (r'.reverse ++ [p]).length = nrow := ⟨_, rfl⟩
  rw [hnrow] at hrow h2
  have HINTO := Lib.hid (into_any base is gc r'.reverse p q (by simpa using hl) hq hp _ _ w0 (hc.no HF0.out) (hrow.no HF0.out) (hi.no HF0.out) (Nat.le_trans hbase HF0.out.size))
  rw [List.reverse_reverse, hinto] at HINTO
  have HALL : Hid (∀ w', Fr No w w' → Calls Try.prog 41 #[.pointer (some ⟨gc, 0, none⟩), .slice ar nr cr, .agg #[.int .u8 kp, .string sp, .int .i64 np, .slice ap mp cp]] w' fun e w2 => Fr No w' w2 ∧ ∃ v, e = .returned v ∧ RowsV base w2 v (allInto is q rows)) :=
    Lib.hid (fun w' hf => all_any base is gc rows q nr cr ar _ w' hok hq (hc.no hf) (hr.no hf) (hi.no hf) (Nat.le_trans hbase hf.size))
  have HIH := Lib.hid hih
  have H1 := Lib.hid h1
  have H3 := Lib.hid h3
  have b1 := HF0.out.cell h1
  have b2 := HF0.out.cell h2
  have b3 := HF0.out.cell h3
  obtain ⟨k0, k1, k2, k3⟩ : cellsP w0 g4 kp sp np ap mp cp := ⟨cell_of r0.out 0, cell_of r0.out 1, cell_of r0.out 2, cell_of r0.out 3⟩
  clear hc hok hr hrow hi hinto h1 h2 h3 hih hnrow
  go_enter Try.func39, Try.ntmps39
  go_upto_region 1 with fail
  rw [← hw0]
  clear hw0 hg4
  go_wp2_with fail
  refine HINTO.out.mono ?_
  rintro e w4 ⟨hf4, vx, rfl, hx⟩
  have HF4 : Hid (Fr No w w4) := Lib.hid (HF0.out.then hf4)
  have HX := Lib.hid hx
  replace b1 := hf4.cell b1
  replace b3 := hf4.cell b3
  replace k0 := hf4.cell k0
  replace k1 := hf4.cell k1
  replace k2 := hf4.cell k2
  replace k3 := hf4.cell k3
  clear hf4 hx b2
  go_upto_region 2 with fail
  refine region_e (fun w' => w'.cell? ⟨g1, 0, none⟩ = some (.pointer (some ⟨gc, 0, none⟩)) ∧ w'.cell? ⟨g3, 0, none⟩ = some (.slice ar nr cr) ∧ w'.cell? ⟨g4, 0, none⟩ = some (.int .u8 kp) ∧ w'.cell? ⟨g4, 1, none⟩ = some (.string sp) ∧ w'.cell? ⟨g4, 2, none⟩ = some (.int .i64 np) ∧ w'.cell? ⟨g4, 3, none⟩ = some (.slice ap mp cp)) [] (by kernel_rfl) ?_ (fun hHeld => ?_)
  · exact ⟨(Fr.drew _).cell b1, (Fr.drew _).cell b3, (Fr.drew _).cell k0, (Fr.drew _).cell k1, (Fr.drew _).cell k2, (Fr.drew _).cell k3⟩
  refine take_op 0 (some 15) (Op.load 53 ( .tmp 1)) 53 ?_ (by kernel_rfl) (by kernel_rfl) (by kernel_rfl) (fun _ _ _ h => h) ?_ (by assumption) ?_
  rotate_left
  · intro w hSw; (try dsimp only at hSw); go_simp; (try (with_reducible rfl))
  try simp only [Act.put, List.setIfInBounds_toArray, List.set_cons_zero, List.set_cons_succ]
  refine take_op 1 (some 16) (Op.load 53 ( .tmp 1)) 53 ?_ (by kernel_rfl) (by kernel_rfl) (by kernel_rfl) (fun _ _ _ h => h) ?_ (by assumption) ?_
  rotate_left
  · intro w hSw; (try dsimp only at hSw); go_simp; (try (with_reducible rfl))
  try simp only [Act.put, List.setIfInBounds_toArray, List.set_cons_zero, List.set_cons_succ]
  refine take_op 2 (some 17) (Op.load 56 ( .tmp 3)) 56 ?_ (by kernel_rfl) (by kernel_rfl) (by kernel_rfl) (fun _ _ _ h => h) ?_ (by assumption) ?_
  rotate_left
  · intro w hSw; (try dsimp only at hSw); go_simp; (try (with_reducible rfl))
  try simp only [Act.put, List.setIfInBounds_toArray, List.set_cons_zero, List.set_cons_succ]
  refine take_op 3 (some 18) (Op.load 40 ( .tmp 4)) 40 ?_ (by kernel_rfl) (by kernel_rfl) (by kernel_rfl) (fun _ _ _ h => h) ?_ (by assumption) ?_
  rotate_left
  · intro w hSw; (try dsimp only at hSw); go_simp; (try (with_reducible rfl))
  try simp only [Act.put, List.setIfInBounds_toArray, List.set_cons_zero, List.set_cons_succ]
  refine take_op 5 (some 20) (Op.move ( .tmp 6)) 58 ?_ (by kernel_rfl) (by kernel_rfl) (by kernel_rfl) (fun _ _ _ h => h) ?_ (by assumption) ?_
  rotate_left
  · intro w hSw; (try dsimp only at hSw); go_simp; (try (with_reducible rfl))
  try simp only [Act.put, List.setIfInBounds_toArray, List.set_cons_zero, List.set_cons_succ]
  refine ready_e (rs := [4]) (by kernel_rfl) (by simp) ?_
  refine do_mid (o := _) rfl (fun K hK => ?_) none_e -- slot 19 F41
  go_simp
  go_at_call 41
  refine (HALL.out _ ((HF4.out).then (Fr.drew _))).mono ?_
  rintro e' w5 ⟨hf5, vr5, rfl, hr5⟩
  have HF5 : Hid (Fr No w4 w5) := Lib.hid ((Fr.drew _).then hf5)
  have HR5 := Lib.hid hr5
  clear hf5 hr5
  refine hK.out _ _ ?_ (fun hHeld => ?_)
  · exact ⟨HF5.out.cell b1, HF5.out.cell b3, HF5.out.cell k0, HF5.out.cell k1, HF5.out.cell k2, HF5.out.cell k3⟩
  clear hK K
  try dsimp only
  try simp only [Act.put, List.setIfInBounds_toArray, List.set_cons_zero, List.set_cons_succ]
  refine ready_e (rs := [6]) (by kernel_rfl) (by simp) ?_
  refine do_mid (o := _) rfl (fun K hK => ?_) none_e -- slot 21 F23
  go_simp
  go_at_call 23
  refine (HIH.out _ _ _ (HF4.out.then HF5.out) HR5.out (HX.out.no HF5.out)).mono ?_
  rintro e' w6 ⟨rfl, hf6⟩
  have HF6 : Hid (Fr No w4 w6) := Lib.hid (HF5.out.then hf6)
  clear hf6
  refine hK.out _ _ ?_ (fun hHeld => ?_)
  · exact ⟨HF6.out.cell b1, HF6.out.cell b3, HF6.out.cell k0, HF6.out.cell k1, HF6.out.cell k2, HF6.out.cell k3⟩
  clear hK K
  try dsimp only
  try simp only [Act.put, List.setIfInBounds_toArray, List.set_cons_zero, List.set_cons_succ]
  refine take_op 7 (some 5) (Op.assign ( .tmp 21)) 4 ?_ (by kernel_rfl) (by kernel_rfl) (by kernel_rfl) (fun _ _ _ h => h) ?_ (by assumption) ?_
  rotate_left
  · intro w hSw; (try dsimp only at hSw); go_simp; (try (with_reducible rfl))
  try simp only [Act.put, List.setIfInBounds_toArray, List.set_cons_zero, List.set_cons_succ]
  refine done_e (by kernel_rfl) ?_ _
  (try simp only [Exit.inBlock, Exit.then])
  go_wp2_with fail
  go_ret
  exact ⟨rfl, HF4.out.then HF6.out⟩
end Go.Proofs.Ythjecikdkdjlaaa
