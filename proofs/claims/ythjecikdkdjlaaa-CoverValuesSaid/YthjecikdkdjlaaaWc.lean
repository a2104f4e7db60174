/- Has a pattern what its kind must have? What does it begin with? -/
import Derived.Test.YthjecikdkdjlaaaWb
namespace Go.Proofs.Ythjecikdkdjlaaa
open Go.RowKit

set_option maxHeartbeats 4000000 in
theorem right_any (base : Nat) (is : List Inf) (gc : Nat) (t : T) (v : Value) (w : World) (hc : Chk w gc is) (hi : IsT base w t v) : Calls Try.prog 30 #[.pointer (some ⟨gc, 0, none⟩), v] w (SaidT w (rightP is t)) := by
  obtain ⟨x0, x1, x2, x3, rfl⟩ := is_agg hi
  obtain ⟨k, s, n, a, m, c, rfl, rfl, rfl, rfl⟩ := is_cells hi
  obtain ⟨l, rfl, hlm, _⟩ := is_mk hi
  have HE : Hid (rightP is (.mk k s n l) = (if k = 1 ∨ k = 2 ∨ k = 3 ∨ k = 4 then decide (m = 0) else if k = 5 then decide (2 ≤ m) else if k = 6 then (decide (m = 0) && !(infoOf is s).has) || (decide (m = 1) && (infoOf is s).has) else false)) := Lib.hid (by subst hlm; rfl)
  have HIN := Lib.hid (fun w' (hf : Fr No w w') => info_any is gc s w' (hc.no hf))
  clear hi hc hlm
  obtain ⟨R, hR⟩ : ∃ R, rightP is (.mk k s n l) = R := ⟨_, rfl⟩
  rw [hR] at HE ⊢
  clear hR
  by_cases h1 : k = 1
  · have HR : Hid (R = decide (m = 0)) := Lib.hid (by rw [HE.out]; simp [h1])
    have hb1 : ((k : Int) == 1) = true := by simp only [beq_iff_eq]; omega
    clear h1 HE
    go_enter Try.func30, Try.ntmps30
    go_wp2_with fail
    go_ret
    refine ⟨?_, Fr.alloc w _⟩
    rw [HR.out]
    show Ending.returned (Value.bool _) = Ending.returned (Value.bool _)
    congr 2
    by_cases hm : m = 0 <;> simp [hm]
  by_cases h2 : k = 2
  · have HR : Hid (R = decide (m = 0)) := Lib.hid (by rw [HE.out]; simp [h2])
    have hb1 : ((k : Int) == 1) = false := by simp only [beq_eq_false_iff_ne, ne_eq]; omega
    have hb2 : ((k : Int) == 2) = true := by simp only [beq_iff_eq]; omega
    clear h2 HE
    go_enter Try.func30, Try.ntmps30
    go_wp2_with fail
    go_ret
    refine ⟨?_, Fr.alloc w _⟩
    rw [HR.out]
    show Ending.returned (Value.bool _) = Ending.returned (Value.bool _)
    congr 2
    by_cases hm : m = 0 <;> simp [hm]
  by_cases h3 : k = 3
  · have HR : Hid (R = decide (m = 0)) := Lib.hid (by rw [HE.out]; simp [h3])
    have hb1 : ((k : Int) == 1) = false := by simp only [beq_eq_false_iff_ne, ne_eq]; omega
    have hb2 : ((k : Int) == 2) = false := by simp only [beq_eq_false_iff_ne, ne_eq]; omega
    have hb3 : ((k : Int) == 3) = true := by simp only [beq_iff_eq]; omega
    clear h3 HE
    go_enter Try.func30, Try.ntmps30
    go_wp2_with fail
    go_ret
    refine ⟨?_, Fr.alloc w _⟩
    rw [HR.out]
    show Ending.returned (Value.bool _) = Ending.returned (Value.bool _)
    congr 2
    by_cases hm : m = 0 <;> simp [hm]
  by_cases h4 : k = 4
  · have HR : Hid (R = decide (m = 0)) := Lib.hid (by rw [HE.out]; simp [h4])
    have hb1 : ((k : Int) == 1) = false := by simp only [beq_eq_false_iff_ne, ne_eq]; omega
    have hb2 : ((k : Int) == 2) = false := by simp only [beq_eq_false_iff_ne, ne_eq]; omega
    have hb3 : ((k : Int) == 3) = false := by simp only [beq_eq_false_iff_ne, ne_eq]; omega
    have hb4 : ((k : Int) == 4) = true := by simp only [beq_iff_eq]; omega
    clear h4 HE
    go_enter Try.func30, Try.ntmps30
    go_wp2_with fail
    go_ret
    refine ⟨?_, Fr.alloc w _⟩
    rw [HR.out]
    show Ending.returned (Value.bool _) = Ending.returned (Value.bool _)
    congr 2
    by_cases hm : m = 0 <;> simp [hm]
  by_cases h5 : k = 5
  · have HR : Hid (R = decide (2 ≤ m)) := Lib.hid (by rw [HE.out]; simp [h5])
    have hb1 : ((k : Int) == 1) = false := by simp only [beq_eq_false_iff_ne, ne_eq]; omega
    have hb2 : ((k : Int) == 2) = false := by simp only [beq_eq_false_iff_ne, ne_eq]; omega
    have hb3 : ((k : Int) == 3) = false := by simp only [beq_eq_false_iff_ne, ne_eq]; omega
    have hb4 : ((k : Int) == 4) = false := by simp only [beq_eq_false_iff_ne, ne_eq]; omega
    have hb5 : ((k : Int) == 5) = true := by simp only [beq_iff_eq]; omega
    clear h5 HE
    go_enter Try.func30, Try.ntmps30
    go_wp2_with fail
    go_ret
    refine ⟨?_, Fr.alloc w _⟩
    rw [HR.out]
    show Ending.returned (Value.bool _) = Ending.returned (Value.bool _)
    congr 2
    by_cases hm : 2 ≤ m <;> simp [hm] <;> omega
  by_cases h6 : k = 6
  · have HR : Hid (R = ((decide (m = 0) && !(infoOf is s).has) || (decide (m = 1) && (infoOf is s).has))) := Lib.hid (by rw [HE.out]; simp [h6])
    have hb1 : ((k : Int) == 1) = false := by simp only [beq_eq_false_iff_ne, ne_eq]; omega
    have hb2 : ((k : Int) == 2) = false := by simp only [beq_eq_false_iff_ne, ne_eq]; omega
    have hb3 : ((k : Int) == 3) = false := by simp only [beq_eq_false_iff_ne, ne_eq]; omega
    have hb4 : ((k : Int) == 4) = false := by simp only [beq_eq_false_iff_ne, ne_eq]; omega
    have hb5 : ((k : Int) == 5) = false := by simp only [beq_eq_false_iff_ne, ne_eq]; omega
    have hb6 : ((k : Int) == 6) = true := by simp only [beq_iff_eq]; omega
    clear h1 h2 h3 h4 h5 h6 HE
    obtain ⟨x, hx⟩ : ∃ x, infoOf is s = x := ⟨_, rfl⟩
    have HIX := Lib.hid (fun w' hf => (HIN.out w' hf).mono (fun e w2 (h : InfoSaid w' is s e w2) => (show e = .returned (.tuple #[infV x, .bool (findI is s).isSome]) ∧ Fr No w' w2 from hx ▸ h)))
    rw [hx] at HR
    obtain ⟨xa, xb, xc, xd, xe⟩ := x
    simp only [infV] at HIX
    clear hx HIN
    have c1 := cell_of (new_block w (.cells #[.int .u8 k, .string s, .int .i64 n, .slice a m c] 40)) 1
    have HM0 : Hid ((((m : Int) == 0) = decide (m = 0)) ∧ (((m : Int) == 1) = decide (m = 1))) := Lib.hid ⟨by by_cases h : m = 0 <;> simp [h], by by_cases h : m = 1 <;> simp [h]; omega⟩
    go_enter Try.func30, Try.ntmps30
    go_wp2_with fail
    refine (HIX.out _ (Fr.alloc w _)).mono ?_
    rintro e w1 ⟨rfl, hf1⟩
    have HF1 := Lib.hid ((Fr.alloc w _).then hf1)
    clear hf1
    by_cases h0 : m = 0
    · have hm0 : ((m : Int) == 0) = true := by simp [h0]
      cases xe with
      | true =>
        have hm1 : ((m : Int) == 1) = false := by simp [h0]
        have HV : Hid (R = false) := Lib.hid (by rw [HR.out]; simp [h0])
        clear h0
        go_wp2_with fail
        go_ret
        exact ⟨by rw [HV.out]; rfl, HF1.out.then (Fr.alloc _ _)⟩
      | false =>
        have HV : Hid (R = true) := Lib.hid (by rw [HR.out]; simp [h0])
        clear h0
        go_wp2_with fail
        go_ret
        exact ⟨by rw [HV.out]; rfl, HF1.out.then (Fr.alloc _ _)⟩
    · have hm0 : ((m : Int) == 0) = false := by simp only [beq_eq_false_iff_ne, ne_eq]; omega
      by_cases h1 : m = 1
      · have hm1 : ((m : Int) == 1) = true := by simp [h1]
        have HV : Hid (R = xe) := Lib.hid (by rw [HR.out]; simp [h1])
        clear h0 h1
        go_wp2_with fail
        go_ret
        exact ⟨by rw [HV.out]; rfl, HF1.out.then (Fr.alloc _ _)⟩
      · have hm1 : ((m : Int) == 1) = false := by simp only [beq_eq_false_iff_ne, ne_eq]; omega
        have HV : Hid (R = false) := Lib.hid (by rw [HR.out]; simp [h0, h1])
        clear h0 h1
        go_wp2_with fail
        go_ret
        exact ⟨by rw [HV.out]; rfl, HF1.out.then (Fr.alloc _ _)⟩
  · have HR : Hid (R = false) := Lib.hid (by rw [HE.out]; simp [h1, h2, h3, h4, h5, h6])
    have hb1 : ((k : Int) == 1) = false := by simp only [beq_eq_false_iff_ne, ne_eq]; omega
    have hb2 : ((k : Int) == 2) = false := by simp only [beq_eq_false_iff_ne, ne_eq]; omega
    have hb3 : ((k : Int) == 3) = false := by simp only [beq_eq_false_iff_ne, ne_eq]; omega
    have hb4 : ((k : Int) == 4) = false := by simp only [beq_eq_false_iff_ne, ne_eq]; omega
    have hb5 : ((k : Int) == 5) = false := by simp only [beq_eq_false_iff_ne, ne_eq]; omega
    have hb6 : ((k : Int) == 6) = false := by simp only [beq_eq_false_iff_ne, ne_eq]; omega
    clear h1 h2 h3 h4 h5 h6 HE
    go_enter Try.func30, Try.ntmps30
    go_wp2_with fail
    go_ret
    refine ⟨?_, Fr.alloc w _⟩
    rw [HR.out]
    rfl
end Go.Proofs.Ythjecikdkdjlaaa
