/- The law TypesNil: the walk. -/
import Derived.Test.YtfjddfcndammdaaWorks
import Derived.Test.YtfjddfcndammdaaVast
namespace Go.Proofs.Ytfjddfcndammdaa
open Go.RowKit

set_option maxHeartbeats 1000000 in
theorem free_nil (v : Value) (hv : ∃ x0 x1 x2 x3, v = .agg #[x0, x1, x2, x3]) (w : World) : Calls Try.prog 18 #[.pointer none, v] w fun e w' => e = .returned (.slice none 0 0) ∧ Fr No w w' := by
  have hv2 := hv
  obtain ⟨x0, x1, x2, x3, rfl⟩ := hv
  have HM := Lib.hid (fun w' => may_nil (.agg #[x0, x1, x2, x3]) hv2 w')
  clear hv2
  go_enter Try.func18, Try.ntmps18
  go_wp2_with fail
  refine (HM.out _).mono ?_
  rintro e w1 ⟨rfl, hf1⟩
  have HF := Lib.hid ((Fr.alloc w _).then hf1)
  clear hf1
  go_wp2_with fail
  go_ret
  exact ⟨rfl, HF.out⟩
theorem zsame : same zeroT zeroT = true := (same_iff _ _).2 rfl
set_option maxHeartbeats 4000000 in
set_option maxRecDepth 100000 in
theorem nil_any (t : T) (hs : Short t) (n : Int) (v : Value) (w : World) (hi : IsT w.heap.size w t v) : Calls Try.prog 6 #[v, .int .i64 n] w (SaidT w true) := by
  have HV := Lib.hid (fun w' (hf : Fr No w w') => vast_any w.heap.size t hs v w' hf.size (hi.no hf))
  obtain ⟨x0, x1, x2, x3, rfl⟩ := is_agg hi
  obtain ⟨k1, s1, n1, aa1, mm1, cc1, rfl, rfl, rfl, rfl⟩ := is_cells hi
  have HAG : Hid (∃ x0 x1 x2 x3, Value.agg #[.int .u8 k1, .string s1, .int .i64 n1, .slice aa1 mm1 cc1] = .agg #[x0, x1, x2, x3]) := Lib.hid ⟨_, _, _, _, rfl⟩
  obtain ⟨w0, hw0⟩ : ∃ w0, w0 = w.alloc (.cells #[.int .u8 k1, .string s1, .int .i64 n1, .slice aa1 mm1 cc1] 24) := ⟨_, rfl⟩
  have R0 : Hid (w0.heap[w.heap.size]? = some (.cells #[.int .u8 k1, .string s1, .int .i64 n1, .slice aa1 mm1 cc1] 24 (0, 0))) := Lib.hid (by rw [hw0]; exact new_block w _)
  have HF0 : Hid (Fr No w w0) := Lib.hid (by rw [hw0]; exact Fr.alloc w _)
  clear hi
  have HZ : Hid (∀ w', Calls Try.prog 13 #[.agg #[.int .u8 0, .string ⟨#[]⟩, .int .i64 0, .slice none 0 0], .agg #[.int .u8 0, .string ⟨#[]⟩, .int .i64 0, .slice none 0 0]] w' (SaidT w' true)) := Lib.hid (fun w' => by
    have h := rsame_any 1 zeroT (by decide) (by decide) zeroT (by decide) 0 (fun _ => True) _ 0 (fun _ => True) _ w' (is_none 0 ⟨#[]⟩ 0) (is_none 0 ⟨#[]⟩ 0)
    rw [zsame] at h
    exact h)
  go_enter Try.func6, Try.ntmps6
  go_wp2_with fail
  rw [← hw0]
  obtain ⟨gt, hg⟩ : ∃ gt, w.heap.size = gt := ⟨_, rfl⟩
  rw [hg] at R0 ⊢
  clear hw0 hg
  refine (HV.out _ HF0.out).mono ?_
  rintro e w1 ⟨rfl, hf1⟩
  have HF1 := Lib.hid (HF0.out.then hf1)
  have R1 := Lib.hid (hf1.keeps R0.out no_one)
  clear hf1
  have c0 : w1.cell? ⟨gt, 0, none⟩ = some (.int .u8 k1) := cell_of R1.out 0
  have c1 : w1.cell? ⟨gt, 1, none⟩ = some (.string s1) := cell_of R1.out 1
  have c2 : w1.cell? ⟨gt, 2, none⟩ = some (.int .i64 n1) := cell_of R1.out 2
  have c3 : w1.cell? ⟨gt, 3, none⟩ = some (.slice aa1 mm1 cc1) := cell_of R1.out 3
  cases hvt : vast t with
  | true =>
    clear hvt
    go_wp2_with fail
    refine (works_any _).mono ?_
    rintro e w2 ⟨rfl, hf2⟩
    have HF2 := Lib.hid (HF1.out.then hf2)
    clear hf2
    go_wp2_with fail
    go_ret
    exact ⟨rfl, HF2.out⟩
  | false =>
    clear hvt
    go_wp2_with fail
    refine (back_nil n _).mono ?_
    rintro e w2 ⟨rfl, hf2⟩
    have HF2 := Lib.hid (HF1.out.then hf2)
    have R2 := Lib.hid (hf2.keeps R1.out no_one)
    clear hf2 c0 c1 c2 c3
    have c0 : w2.cell? ⟨gt, 0, none⟩ = some (.int .u8 k1) := cell_of R2.out 0
    have c1 : w2.cell? ⟨gt, 1, none⟩ = some (.string s1) := cell_of R2.out 1
    have c2 : w2.cell? ⟨gt, 2, none⟩ = some (.int .i64 n1) := cell_of R2.out 2
    have c3 : w2.cell? ⟨gt, 3, none⟩ = some (.slice aa1 mm1 cc1) := cell_of R2.out 3
    go_wp2_with fail
    refine (Unify_nil _ _ HAG.out HAG.out _).mono ?_
    rintro e w3 ⟨rfl, hf3⟩
    have HF3 := Lib.hid (HF2.out.then hf3)
    have R3 := Lib.hid (hf3.keeps R2.out no_one)
    clear hf3 c0 c1 c2 c3
    have c0 : w3.cell? ⟨gt, 0, none⟩ = some (.int .u8 k1) := cell_of R3.out 0
    have c1 : w3.cell? ⟨gt, 1, none⟩ = some (.string s1) := cell_of R3.out 1
    have c2 : w3.cell? ⟨gt, 2, none⟩ = some (.int .i64 n1) := cell_of R3.out 2
    have c3 : w3.cell? ⟨gt, 3, none⟩ = some (.slice aa1 mm1 cc1) := cell_of R3.out 3
    go_wp2_with fail
    refine (fresh_nil _).mono ?_
    rintro e w4 ⟨rfl, hf4⟩
    have HF4 := Lib.hid (HF3.out.then hf4)
    have R4 := Lib.hid (hf4.keeps R3.out no_one)
    clear hf4 c0 c1 c2 c3
    go_wp2_with fail
    refine (HZ.out _).mono ?_
    rintro e w5 ⟨rfl, hf5⟩
    have HF5 := Lib.hid (HF4.out.then hf5)
    have R5 := Lib.hid (hf5.keeps R4.out no_one)
    clear hf5
    have c0 : w5.cell? ⟨gt, 0, none⟩ = some (.int .u8 k1) := cell_of R5.out 0
    have c1 : w5.cell? ⟨gt, 1, none⟩ = some (.string s1) := cell_of R5.out 1
    have c2 : w5.cell? ⟨gt, 2, none⟩ = some (.int .i64 n1) := cell_of R5.out 2
    have c3 : w5.cell? ⟨gt, 3, none⟩ = some (.slice aa1 mm1 cc1) := cell_of R5.out 3
    go_wp2_with fail
    refine (Apply_nil _ HAG.out _).mono ?_
    rintro e w6 ⟨rfl, hf6⟩
    have HF6 := Lib.hid (HF5.out.then hf6)
    have R6 := Lib.hid (hf6.keeps R5.out no_one)
    clear hf6 c0 c1 c2 c3
    go_wp2_with fail
    refine (HZ.out _).mono ?_
    rintro e w7 ⟨rfl, hf7⟩
    have HF7 := Lib.hid (HF6.out.then hf7)
    have R7 := Lib.hid (hf7.keeps R6.out no_one)
    clear hf7
    have c0 : w7.cell? ⟨gt, 0, none⟩ = some (.int .u8 k1) := cell_of R7.out 0
    have c1 : w7.cell? ⟨gt, 1, none⟩ = some (.string s1) := cell_of R7.out 1
    have c2 : w7.cell? ⟨gt, 2, none⟩ = some (.int .i64 n1) := cell_of R7.out 2
    have c3 : w7.cell? ⟨gt, 3, none⟩ = some (.slice aa1 mm1 cc1) := cell_of R7.out 3
    go_wp2_with fail
    refine (free_nil _ HAG.out _).mono ?_
    rintro e w8 ⟨rfl, hf8⟩
    have HF8 := Lib.hid (HF7.out.then hf8)
    clear hf8 c0 c1 c2 c3
    go_wp2_with fail
    refine (mark_nil _).mono ?_
    rintro e w9 ⟨rfl, hf9⟩
    have HF9 := Lib.hid (HF8.out.then hf9)
    clear hf9
    go_wp2_with fail
    refine (works_any _).mono ?_
    rintro e w10 ⟨rfl, hf10⟩
    have HF10 := Lib.hid (HF9.out.then hf10)
    clear hf10
    go_wp2_with fail
    go_ret
    exact ⟨rfl, HF10.out⟩
end Go.Proofs.Ytfjddfcndammdaa
