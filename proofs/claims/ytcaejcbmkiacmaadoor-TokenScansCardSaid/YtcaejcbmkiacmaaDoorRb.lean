/- The document's blanks. -/
import Derived.Test.YtcaejcbmkiacmaaDoorRa
namespace Go.Proofs.YtcaejcbmkiacmaaDoor
open Go.RowKit

theorem ropens_call (l : Bs) (s : ByteArray) (h : Hid (s = mk l)) (n : Nat) (hn : n ≤ 1099511627776) (hs : s.size = n) (w : World) :
    Calls Tryd.prog 40 #[.string s, .string ⟨#[40, 42]⟩] w fun e w' => e = .returned (.bool (opens l)) ∧ w' = w := by
  have := begins_any l [40, 42] s ⟨#[40, 42]⟩ h (Lib.hid rfl) n 2 hn (by decide) hs rfl w
  rw [← prefix_opens]
  exact this
theorem rcloses_call (l : Bs) (s : ByteArray) (h : Hid (s = mk l)) (n : Nat) (hn : n ≤ 1099511627776) (hs : s.size = n) (w : World) :
    Calls Tryd.prog 40 #[.string s, .string ⟨#[42, 41]⟩] w fun e w' => e = .returned (.bool (closes l)) ∧ w' = w := by
  have := begins_any l [42, 41] s ⟨#[42, 41]⟩ h (Lib.hid rfl) n 2 hn (by decide) hs rfl w
  rw [← prefix_closes]
  exact this
def blankI (l : Bs) : Int := match blank l with | some k => (k : Int) | none => -1
theorem white_val (c : UInt8) : white c = true ↔ (c.toNat = 32 ∨ c.toNat = 9 ∨ c.toNat = 10 ∨ c.toNat = 13) := by
  unfold white
  simp only [Bool.or_eq_true, decide_eq_true_eq]
  constructor
  · rintro (((rfl | rfl) | rfl) | rfl) <;> decide
  · intro h
    have e : c = UInt8.ofNat c.toNat := by simp
    rcases h with h | h | h | h <;> rw [h] at e <;> rw [e] <;> decide
set_option maxHeartbeats 2000000 in
theorem rblank_any (c : UInt8) (r : Bs) (s : ByteArray) (hsl : Hid (s = mk (c :: r))) (n : Nat) (hn : n ≤ 1099511627776) (hs : s.size = n) (w : World) :
    Calls Tryd.prog 24 #[.string s] w fun e w' => e = .returned (.int .i64 (blankI (c :: r))) ∧ w' = w := by
  obtain ⟨l, hlr⟩ : ∃ l, c :: r = l := ⟨_, rfl⟩
  have hln : l.length = n := by rw [← hs, hsl.out, mk_size, hlr]
  have hn1 : 1 ≤ n := by rw [← hln, ← hlr]; simp
  have h00 : 0 < s.size := by omega
  have hc0 : s[0] = c := by
    have e := hsl.out
    subst e
    exact Option.some.inj (mk_get (c :: r) 0 h00).symm
  obtain ⟨v, hv⟩ : ∃ v, c.toNat = v := ⟨_, rfl⟩
  have hwv := white_val c
  rw [hv] at hwv
  cases hwh : white c with
  | true =>
    have hres : blankI (c :: r) = 1 := by
      unfold blankI
      rw [show blank (c :: r) = some 1 by simp [blank, hwh]]
      rfl
    rw [hres]
    have h4 := hwv.1 hwh
    clear hwv hwh hlr hln hsl hres
    go_enter Tryd.func24, Tryd.ntmps24
    rcases h4 with rfl | rfl | rfl | rfl
    · go_wp2_with fail
      go_ret
      exact ⟨rfl, rfl⟩
    · go_wp2_with fail
      go_ret
      exact ⟨rfl, rfl⟩
    · go_wp2_with fail
      go_ret
      exact ⟨rfl, rfl⟩
    · go_wp2_with fail
      go_ret
      exact ⟨rfl, rfl⟩
  | false =>
    have h4 : ¬ (v = 32 ∨ v = 9 ∨ v = 10 ∨ v = 13) := fun h => by rw [hwv.2 h] at hwh; cases hwh
    have q1 : ((v : Int) == 32) = false := by simp only [beq_eq_false_iff_ne, ne_eq]; omega
    have q2 : ((v : Int) == 9) = false := by simp only [beq_eq_false_iff_ne, ne_eq]; omega
    have q3 : ((v : Int) == 10) = false := by simp only [beq_eq_false_iff_ne, ne_eq]; omega
    have q4 : ((v : Int) == 13) = false := by simp only [beq_eq_false_iff_ne, ne_eq]; omega
    rw [hlr] at hsl ⊢
    have hbl : blankI l = if opens l then (match cmt l with | some k => (k : Int) | none => -1) else 0 := by
      unfold blankI
      cases ho : opens l
      · rw [← hlr] at ho ⊢
        rw [blank_zero_of hwh ho]
        rfl
      · rw [blank_cmt ho]
        rfl
    have HBL := Lib.hid hbl
    have HLN := Lib.hid hln
    clear hwv hwh hlr hln h4 hbl
    have h0 := Lib.hid (ropens_call l s hsl n hn hs)
    go_enter Tryd.func24, Tryd.ntmps24
    go_wp2_with fail
    refine (h0.out _).mono ?_
    rintro e w1 ⟨rfl, rfl⟩
    cases ho : opens l with
    | false =>
      have HO := Lib.hid ho
      clear ho
      go_wp2_with fail
      go_ret
      rw [HBL.out, HO.out]
      exact ⟨rfl, rfl⟩
    | true =>
      have hn2 : 2 ≤ n := by
        have := opens_len (q := 0) (by simpa using ho)
        rw [HLN.out] at this
        omega
      have HO := Lib.hid ho
      clear ho
      go_wp2_with fail
      go_loopw [3, 4] (fun i j wr => wr = w1 ∧ ∃ o q : Nat, o ≤ q ∧ q ≤ n ∧ i = .int .i64 o ∧ j = .int .i64 q ∧ Hid ((0 < o ∧ CmInv l o q) ∨ (o = 0 ∧ cmt l = some q))) (fun _ j _ => n + 2 - (intOf j).toNat)
      case atStart => exact ⟨rfl, 1, 2, by decide, hn2, rfl, rfl, Lib.hid (.inl ⟨by decide, .inr ⟨by decide, rfl⟩⟩)⟩
      case round =>
        obtain ⟨rfl, o, q, hoq, hq, rfl, rfl, HI⟩ := hrel
        by_cases hqn : q < n
        · by_cases hop : 0 < o
          · have HI2 : Hid (CmInv l o q) := Lib.hid (by
              rcases HI.out with h | h
              · exact h.2
              · omega)
            have HX : Hid (s.extract q n = mk (l.drop q)) := Lib.hid (by rw [hsl.out, mk_drop l q n HLN.out.symm])
            have hxs : (s.extract q n).size = n - q := by rw [HX.out, mk_size, List.length_drop, HLN.out]
            have hc1 := ropens_call (l.drop q) (s.extract q n) HX (n - q) (by omega) hxs wr
            have hc2 := rcloses_call (l.drop q) (s.extract q n) HX (n - q) (by omega) hxs wr
            clear HI
            cases h1 : opens (l.drop q) with
            | true =>
              rw [h1] at hc1
              have hl2 := opens_len h1
              rw [HLN.out] at hl2
              have H1 := Lib.hid h1
              have HC1 := Lib.hid hc1
              clear h1 hc1 hc2
              go_wp2_with fail
              refine HC1.out.mono ?_
              rintro e w2 ⟨rfl, rfl⟩
              go_wp2_with fail
              exact ⟨⟨trivial, o + 1, q + 2, by omega, hl2, by go_num, by go_num, Lib.hid (.inl ⟨by omega, inv_open HI2.out H1.out⟩)⟩, by simp [intOf]; omega⟩
            | false =>
              rw [h1] at hc1
              have H1 := Lib.hid h1
              have HC1 := Lib.hid hc1
              cases h2 : closes (l.drop q) with
              | true =>
                rw [h2] at hc2
                have hl2 := closes_len h2
                rw [HLN.out] at hl2
                have H2 := Lib.hid h2
                have HC2 := Lib.hid hc2
                clear h1 hc1 hc2 h2
                go_wp2_with fail
                refine HC1.out.mono ?_
                rintro e w2 ⟨rfl, rfl⟩
                go_wp2_with fail
                refine HC2.out.mono ?_
                rintro e w3 ⟨rfl, rfl⟩
                go_wp2_with fail
                refine ⟨⟨trivial, o - 1, q + 2, by omega, hl2, ?_, by go_num, Lib.hid ?_⟩, by simp [intOf]; omega⟩
                · congr 1
                  omega
                · by_cases ho1 : o = 1
                  · subst ho1
                    exact .inr ⟨rfl, inv_last HI2.out H2.out⟩
                  · exact .inl ⟨by omega, inv_close HI2.out H2.out (by omega)⟩
              | false =>
                rw [h2] at hc2
                have H2 := Lib.hid h2
                have HC2 := Lib.hid hc2
                clear h1 hc1 hc2 h2
                go_wp2_with fail
                refine HC1.out.mono ?_
                rintro e w2 ⟨rfl, rfl⟩
                go_wp2_with fail
                refine HC2.out.mono ?_
                rintro e w3 ⟨rfl, rfl⟩
                go_wp2_with fail
                exact ⟨⟨trivial, o, q + 1, by omega, by omega, by go_num, by go_num, Lib.hid (.inl ⟨hop, inv_else HI2.out hop H1.out H2.out⟩)⟩, by simp [intOf]; omega⟩
          · have ho0 : o = 0 := by omega
            subst ho0
            go_wp2_with fail
            go_ret
            refine ⟨?_, rfl⟩
            rcases HI.out with h | h
            · omega
            · rw [HBL.out, HO.out, h.2]
              rfl
        · by_cases hop : 0 < o
          · go_wp2_with fail
            go_ret
            refine ⟨?_, rfl⟩
            rcases HI.out with h | h
            · rw [HBL.out, HO.out, inv_end h.2 hop (by rw [HLN.out]; omega)]
              rfl
            · omega
          · have ho0 : o = 0 := by omega
            subst ho0
            go_wp2_with fail
            go_ret
            refine ⟨?_, rfl⟩
            rcases HI.out with h | h
            · omega
            · rw [HBL.out, HO.out, h.2]
              rfl
end Go.Proofs.YtcaejcbmkiacmaaDoor
