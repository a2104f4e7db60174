/- Comments and blanks. -/
import Derived.Test.YtcaejcbmkiacmaaDoorWa
namespace Go.Proofs.YtcaejcbmkiacmaaDoor
open Go.RowKit

theorem prefix_opens (l : Bs) : Lib.hasPrefix l [40, 42] = opens l := by
  match l with
  | [] => rfl
  | [a] => simp [Lib.hasPrefix, opens, List.isPrefixOf]
  | a :: b :: r =>
    show ((40 : UInt8) == a && ((42 : UInt8) == b && true)) = (decide (a = 40) && decide (b = 42))
    rw [Bool.eq_iff_iff]
    simp only [Bool.and_eq_true, beq_iff_eq, decide_eq_true_eq, and_true]
    exact ⟨fun h => ⟨h.1.symm, h.2.symm⟩, fun h => ⟨h.1.symm, h.2.symm⟩⟩
theorem prefix_closes (l : Bs) : Lib.hasPrefix l [42, 41] = closes l := by
  match l with
  | [] => rfl
  | [a] => simp [Lib.hasPrefix, closes, List.isPrefixOf]
  | a :: b :: r =>
    show ((42 : UInt8) == a && ((41 : UInt8) == b && true)) = (decide (a = 42) && decide (b = 41))
    rw [Bool.eq_iff_iff]
    simp only [Bool.and_eq_true, beq_iff_eq, decide_eq_true_eq, and_true]
    exact ⟨fun h => ⟨h.1.symm, h.2.symm⟩, fun h => ⟨h.1.symm, h.2.symm⟩⟩
theorem opens_call (l : Bs) (s : ByteArray) (h : Hid (s = mk l)) (w : World) :
    Calls Tryd.prog 50 #[.string s, .string ⟨#[40, 42]⟩] w fun e w' => e = .returned (.bool (opens l)) ∧ w' = w := by
  have := Tryd.strings_HasPrefix s ⟨#[40, 42]⟩ w
  rw [h.out, mk_data, show (⟨#[40, 42]⟩ : ByteArray).data.toList = [40, 42] from rfl, prefix_opens, ← h.out] at this
  exact this
theorem closes_call (l : Bs) (s : ByteArray) (h : Hid (s = mk l)) (w : World) :
    Calls Tryd.prog 50 #[.string s, .string ⟨#[42, 41]⟩] w fun e w' => e = .returned (.bool (closes l)) ∧ w' = w := by
  have := Tryd.strings_HasPrefix s ⟨#[42, 41]⟩ w
  rw [h.out, mk_data, show (⟨#[42, 41]⟩ : ByteArray).data.toList = [42, 41] from rfl, prefix_closes, ← h.out] at this
  exact this

set_option maxHeartbeats 1000000 in
theorem comment_any (l : Bs) (s : ByteArray) (hsl : Hid (s = mk l)) (n : Nat) (hn : n ≤ 4611686018427387904) (hs : s.size = n) (w : World) :
    Calls Tryd.prog 30 #[.string s] w fun e w' => e = .returned (.int .i64 (comI l)) ∧ w' = w := by
  have h0 := Lib.hid (opens_call l s hsl)
  go_enter Tryd.func30, Tryd.ntmps30
  go_wp2_with fail
  refine (h0.out _).mono ?_
  rintro e w1 ⟨rfl, rfl⟩
  cases ho : opens l
  · have HO := Lib.hid ho
    clear ho
    go_wp2_with fail
    go_ret
    simp [comI, HO.out]
  · have HO := Lib.hid ho
    clear ho
    go_wp2_with fail
    go_loopw [3, 4] (fun i j wr => wr = w1 ∧ ∃ o q : Nat, o ≤ q ∧ q ≤ n ∧ i = .int .i64 o ∧ j = .int .i64 q ∧ Hid (CmInv l o q)) (fun _ j _ => n + 2 - (intOf j).toNat)
    case atStart => exact ⟨rfl, 0, 0, Nat.le_refl _, Nat.zero_le _, rfl, rfl, Lib.hid (.inl ⟨rfl, rfl⟩)⟩
    case round =>
      obtain ⟨rfl, o, q, hoq, hq, rfl, rfl, HI⟩ := hrel
      have hlen : l.length = n := by rw [← hs, hsl.out, mk_size]
      have HX : Hid (s.extract q n = mk (l.drop q)) := Lib.hid (by rw [hsl.out, mk_drop l q n hlen.symm])
      have hc1 := opens_call (l.drop q) (s.extract q n) HX wr
      have hc2 := closes_call (l.drop q) (s.extract q n) HX wr
      cases h1 : opens (l.drop q)
      · have h3 : 0 < o := by
          rcases HI.out with ⟨_, rfl⟩ | ⟨h, _⟩
          · simp only [List.drop_zero] at h1
            rw [HO.out] at h1
            cases h1
          · exact h
        rw [h1] at hc1
        have HC1 := Lib.hid hc1
        have H1 := Lib.hid h1
        clear hc1 h1
        cases h2 : closes (l.drop q)
        · rw [h2] at hc2
          have HC2 := Lib.hid hc2
          have H2 := Lib.hid h2
          have HL := Lib.hid hlen
          clear hc2 h2 hlen
          by_cases hlt : n ≤ q
          · go_wp2_with fail
            refine HC1.out.mono ?_
            rintro e w2 ⟨rfl, rfl⟩
            go_wp2_with fail
            refine HC2.out.mono ?_
            rintro e w2 ⟨rfl, rfl⟩
            go_wp2_with fail
            go_ret
            refine ⟨?_, rfl⟩
            have e := inv_end HI.out h3 (by rw [HL.out]; exact hlt)
            simp [comI, HO.out, e]
          · go_wp2_with fail
            refine HC1.out.mono ?_
            rintro e w2 ⟨rfl, rfl⟩
            go_wp2_with fail
            refine HC2.out.mono ?_
            rintro e w2 ⟨rfl, rfl⟩
            go_wp2_with fail
            refine ⟨⟨trivial, o, q + 1, by omega, by omega, rfl, by go_num, Lib.hid (inv_else HI.out h3 H1.out H2.out)⟩, by simp [intOf]; omega⟩
        · have h4 := closes_len h2
          rw [h2] at hc2
          have HC2 := Lib.hid hc2
          have H2 := Lib.hid h2
          have HL := Lib.hid hlen
          rw [hlen] at h4
          clear hc2 h2 hlen
          by_cases h5 : o = 1
          · subst h5
            go_wp2_with fail
            refine HC1.out.mono ?_
            rintro e w2 ⟨rfl, rfl⟩
            go_wp2_with fail
            refine HC2.out.mono ?_
            rintro e w2 ⟨rfl, rfl⟩
            go_wp2_with fail
            go_ret
            refine ⟨?_, rfl⟩
            have e := inv_last HI.out H2.out
            simp [comI, HO.out, e]
          · go_wp2_with fail
            refine HC1.out.mono ?_
            rintro e w2 ⟨rfl, rfl⟩
            go_wp2_with fail
            refine HC2.out.mono ?_
            rintro e w2 ⟨rfl, rfl⟩
            have h6 : ¬ ((o : Int) - 1 = 0) := by omega
            go_wp2_with fail
            refine ⟨⟨trivial, o - 1, q + 2, by omega, by omega, by go_num, by go_num, Lib.hid (inv_close HI.out H2.out (by omega))⟩, by simp [intOf]; omega⟩
      · have h4 := opens_len h1
        rw [h1] at hc1
        have HC1 := Lib.hid hc1
        have H1 := Lib.hid h1
        rw [hlen] at h4
        have HL := Lib.hid hlen
        clear hc1 h1 hlen hc2
        have h6 : ¬ ((o : Int) + 1 = 0) := by omega
        go_wp2_with fail
        refine HC1.out.mono ?_
        rintro e w2 ⟨rfl, rfl⟩
        go_wp2_with fail
        refine ⟨⟨trivial, o + 1, q + 2, by omega, by omega, by go_num, by go_num, Lib.hid (inv_open HI.out H1.out)⟩, by simp [intOf]; omega⟩

theorem white_call (c : UInt8) (w : World) : ∃ i : Int, (0 ≤ i ↔ white c = true) ∧ Calls Tryd.prog 31 #[.string ⟨#[32, 9, 10, 13]⟩, .int .u8 c.toNat] w fun e w' => e = .returned (.int .i64 i) ∧ w' = w := by
  refine ⟨_, ?_, Tryd.strings_IndexByte ⟨#[32, 9, 10, 13]⟩ c.toNat w⟩
  have e : ((c.toNat : Int).toNat.toUInt8) = c := by simp
  rw [e]
  unfold white
  simp only [Lib.indexByte]
  by_cases h1 : (32 : UInt8) = c
  · subst h1; decide
  by_cases h2 : (9 : UInt8) = c
  · subst h2; decide
  by_cases h3 : (10 : UInt8) = c
  · subst h3; decide
  by_cases h4 : (13 : UInt8) = c
  · subst h4; decide
  simp [h1, h2, h3, h4, Ne.symm h1, Ne.symm h2, Ne.symm h3, Ne.symm h4]
set_option maxHeartbeats 1000000 in
theorem skip_any (l : Bs) (s : ByteArray) (hsl : Hid (s = mk l)) (n : Nat) (hn : n ≤ 2305843009213693952) (hs : s.size = n) (w : World) :
    Calls Tryd.prog 22 #[.string s] w fun e w' => e = .returned (.tuple #[.int .i64 (skipL l).1, .bool (skipL l).2]) ∧ w' = w := by
  go_enter Tryd.func22, Tryd.ntmps22
  go_wp2_with fail
  go_loopw [4] (fun i wr => wr = w ∧ ∃ q : Nat, q ≤ n ∧ i = .int .i64 q ∧ Hid (SkInv l q)) (fun i _ => n - (intOf i).toNat)
  case atStart => exact ⟨rfl, 0, Nat.zero_le _, rfl, Lib.hid (skInv_zero l)⟩
  case round =>
    obtain ⟨rfl, q, hq, rfl, HI⟩ := hrel
    have hlen : l.length = n := by rw [← hs, hsl.out, mk_size]
    by_cases hlt : q < n
    · have HX : Hid (s.extract q n = mk (l.drop q)) := Lib.hid (by rw [hsl.out, mk_drop l q n hlen.symm])
      have hlt2 : q < s.size := by omega
      have HG : Hid (l[q]? = some s[q]) := by
        have e := hsl.out
        subst e
        exact Lib.hid (mk_get l q hlt2)
      have hdrop : l.drop q = s[q] :: l.drop (q + 1) := by
        have h1 : q < l.length := by omega
        rw [List.drop_eq_getElem_cons h1]
        congr 1
        have := HG.out
        rw [List.getElem?_eq_getElem h1] at this
        injection this
      have HD := Lib.hid hdrop
      have hsz : (s.extract q n).size = n - q := by rw [HX.out, mk_size, List.length_drop, hlen]
      have hc1 := comment_any (l.drop q) (s.extract q n) HX (n - q) (by omega) hsz wr
      have HL := Lib.hid hlen
      clear hsz hdrop hlen
      cases ho : opens (l.drop q)
      · have hci : comI (l.drop q) = 0 := by simp [comI, ho]
        rw [hci] at hc1
        have HC1 := Lib.hid hc1
        have HO := Lib.hid ho
        clear ho hci hc1
        obtain ⟨i, hi, hc2⟩ := white_call s[q] wr
        have HC2 := Lib.hid hc2
        have HW := Lib.hid hi
        clear hc2 hi
        have hb : blank (l.drop q) = if white s[q] then some 1 else some 0 := by
          have := HO.out
          rw [HD.out] at this ⊢
          exact blank_no this
        by_cases h0 : 0 ≤ i
        · rw [if_pos (HW.out.1 h0)] at hb
          have HB := Lib.hid hb
          clear hb
          go_wp2_with fail
          refine HC1.out.mono ?_
          rintro e w2 ⟨rfl, rfl⟩
          go_wp2_with fail
          refine HC2.out.mono ?_
          rintro e w2 ⟨rfl, rfl⟩
          go_wp2_with fail
          refine ⟨⟨trivial, q + 1, by omega, by go_num, Lib.hid (skInv_step HI.out HB.out (by omega))⟩, by simp [intOf]; omega⟩
        · rw [if_neg (fun e => h0 (HW.out.2 e))] at hb
          have HB := Lib.hid hb
          clear hb
          have hd : decide (0 ≤ i) = false := by simp; omega
          go_wp2_with fail
          refine HC1.out.mono ?_
          rintro e w2 ⟨rfl, rfl⟩
          go_wp2_with fail
          refine HC2.out.mono ?_
          rintro e w2 ⟨rfl, rfl⟩
          go_wp2_with fail
          go_ret2
          rw [skInv_stop HI.out HB.out]
          exact ⟨rfl, rfl⟩
      · cases hk : cmt (l.drop q) with
        | none =>
          have hci : comI (l.drop q) = -1 := by simp [comI, ho, hk]
          rw [hci] at hc1
          have HC1 := Lib.hid hc1
          have HB := Lib.hid ((blank_cmt ho).trans hk)
          clear ho hci hc1 hk
          go_wp2_with fail
          refine HC1.out.mono ?_
          rintro e w2 ⟨rfl, rfl⟩
          go_wp2_with fail
          go_ret2
          rw [skInv_open HI.out HB.out]
          exact ⟨rfl, rfl⟩
        | some k =>
          have hci : comI (l.drop q) = k := by simp [comI, ho, hk]
          have hk2 := cmt_le hk ho
          rw [List.length_drop, HL.out] at hk2
          obtain ⟨hk3, hk4⟩ := hk2
          rw [hci] at hc1
          have HC1 := Lib.hid hc1
          have HB := Lib.hid ((blank_cmt ho).trans hk)
          clear ho hci hc1 hk
          go_wp2_with fail
          refine HC1.out.mono ?_
          rintro e w2 ⟨rfl, rfl⟩
          go_wp2_with fail
          refine ⟨⟨trivial, q + k, by omega, by go_num, Lib.hid (skInv_step HI.out HB.out (by omega))⟩, by simp [intOf]; omega⟩
    · go_wp2_with fail
      go_ret2
      have e : l.drop q = [] := List.drop_eq_nil_of_le (by omega)
      rw [skInv_stop HI.out (by rw [e]; rfl)]
      exact ⟨rfl, rfl⟩
end Go.Proofs.YtcaejcbmkiacmaaDoor
