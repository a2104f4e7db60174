/- The document's Right and Same. -/
import Derived.Test.YtfjddfcndammdaaWa
namespace Go.Proofs.Ytfjddfcndammdaa
open Go.RowKit

theorem rightL_take : ∀ (l : List T) (k : Nat) (t : T), l[k]? = some t → rightL (l.take k) = true → right t = false → rightL l = false
  | [], k, t, h, _, _ => by simp at h
  | x :: r, 0, t, h, _, hr => by
    simp only [List.getElem?_cons_zero, Option.some.injEq] at h
    subst h
    simp [rightL, hr]
  | x :: r, k + 1, t, h, hp, hr => by
    simp only [List.take_succ_cons, rightL, Bool.and_eq_true] at hp
    have := rightL_take r k t (by simpa using h) hp.2 hr
    simp [rightL, this]
theorem rightL_snoc : ∀ (l : List T) (t : T), rightL (l ++ [t]) = (rightL l && right t)
  | [], t => by simp [rightL]
  | x :: r, t => by simp [rightL, rightL_snoc r t, Bool.and_assoc]
theorem take_snoc {l : List T} {k : Nat} {t : T} (h : l[k]? = some t) : l.take (k + 1) = l.take k ++ [t] := by
  rw [List.take_add_one, h]
  rfl
set_option maxHeartbeats 4000000 in
set_option maxRecDepth 100000 in
theorem rright_any : ∀ (f : Nat) (t : T), parts t ≤ f → f ≤ 1152921504606846976 → ∀ (B0 : Nat) (ok : Nat → Prop) (v : Value) (w : World), Is B0 ok w t v → Calls Try.prog 17 #[v] w (SaidT w (right t))
  | 0, t, h, _, _, _, _, _, _ => by have := parts_pos t; omega
  | f + 1, .mk k s n l, h, hf, B0, ok, v, w, hi => by
    simp only [Is] at hi
    obtain ⟨a, cap, rfl, hrow⟩ := hi
    obtain ⟨m, hm⟩ : ∃ m, l.length = m := ⟨_, rfl⟩
    rw [hm]
    have hml := partsL_len l
    simp only [parts] at h
    rw [hm] at hml
    have HI : Hid (∀ (j : Nat) (t : T) (v : Value) (w' : World), l[j]? = some t → Is B0 ok w' t v → Calls Try.prog 17 #[v] w' (SaidT w' (right t))) := Lib.hid (fun j t v w' hj his => by
      have hk := parts_kid l j t hj
      exact rright_any f t (by omega) (by omega) B0 ok v w' his)
    have hme : ((m : Int) == 0) = l.isEmpty := by
      rw [← hm]
      cases l with
      | nil => rfl
      | cons a r =>
        simp only [List.length_cons, List.isEmpty_cons, beq_eq_false_iff_ne, ne_eq]
        omega
    have HR : Hid (right (.mk k s n l) = if k = 1 then decide (0 ≤ n) && (emptyS s && l.isEmpty)
      else if k = 2 then !emptyS s && (decide (n = 0) && rightL l)
      else if k = 3 then emptyS s && (decide (m = 2) && (decide (n = 0) && rightL l))
      else if k = 4 then emptyS s && (decide (2 ≤ m) && (decide (n = 0) && rightL l))
      else false) := Lib.hid (by rw [right, hm])
    obtain ⟨R, hR⟩ : ∃ R, right (.mk k s n l) = R := ⟨_, rfl⟩
    rw [hR] at HR ⊢
    have HM := Lib.hid hm
    have HROW := Lib.hid hrow
    obtain ⟨le, hle⟩ : ∃ le, l.isEmpty = le := ⟨_, rfl⟩
    rw [hle] at hme HR
    clear hR hrow hm hle
    by_cases h1 : k = 1
    · have h := HR.out
      rw [if_pos h1] at h
      subst h1
      have HE := Lib.hid h
      clear h HR
      go_enter Try.func17, Try.ntmps17
      go_wp2_with fail
      all_goals (go_ret; refine ⟨?_, Fr.alloc _ _⟩; rw [HE.out]; show Ending.returned (Value.bool _) = Ending.returned (Value.bool _); congr 2; simp [emptyS, *]; try omega)
    · have h := HR.out
      rw [if_neg h1] at h
      by_cases h2 : k = 2
      · rw [if_pos h2] at h
        subst h2
        by_cases hemp : s.toList = []
        · have hem2 : s.toList.isEmpty = true := by simp [hemp]
          have HE : Hid (R = false) := Lib.hid (by rw [h]; simp [emptyS, *])
          clear h HR HI
          show Calls Try.prog 17 #[.agg #[.int .u8 2, .string s, .int .i64 n, .slice a m cap]] w _
          go_enter Try.func17, Try.ntmps17
          go_wp2_with fail
          go_ret
          refine ⟨?_, Fr.alloc _ _⟩
          rw [HE.out]
          rfl
        · have hem2 : s.toList.isEmpty = false := by simpa using hemp
          by_cases hnum : n = 0
          · have HE : Hid (R = rightL l) := Lib.hid (by rw [h]; simp [emptyS, *])
            subst hnum
            (try clear hlen)
            clear h HR
            show Calls Try.prog 17 #[.agg #[.int .u8 2, .string s, .int .i64 0, .slice a m cap]] w _
            go_enter Try.func17, Try.ntmps17
            have hbx := new_block w (.cells #[.int .u8 2, .string s, .int .i64 0, .slice a m cap] 24)
            obtain ⟨w0, hw0⟩ : ∃ w0, w0 = w.alloc (.cells #[.int .u8 2, .string s, .int .i64 0, .slice a m cap] 24) := ⟨_, rfl⟩
            have HF0 : Hid (Fr No w w0) := Lib.hid (by rw [hw0]; exact Fr.alloc w _)
            have hc3 : Hid (w0.cell? ⟨w.heap.size, 3, none⟩ = some (.slice a m cap)) := Lib.hid (by rw [hw0]; exact cell_of hbx 3)
            go_wp2_with fail
            rw [← hw0]
            obtain ⟨g, hg⟩ : ∃ g, w.heap.size = g := ⟨_, rfl⟩
            rw [hg] at hc3 ⊢
            clear hw0 hbx hg
            go_loopw [3] (fun i wr => ∃ q : Nat, q ≤ m ∧ i = .int .i64 q ∧ Hid (Fr No w0 wr) ∧ Hid (rightL (l.take q) = true)) (fun i _ => m - (intOf i).toNat)
            case atStart => exact ⟨0, Nat.zero_le _, rfl, Lib.hid (Fr.refl _ _), Lib.hid rfl⟩
            case round =>
              obtain ⟨q, hq, rfl, HF, HT⟩ := hrel
              have e3 := HF.out.cell hc3.out
              by_cases hqm : q = m
              · go_wp2_with fail
                go_ret
                refine ⟨?_, HF0.out.then HF.out⟩
                have h := HT.out
                rw [hqm, ← HM.out, List.take_length] at h
                rw [HE.out, h]
                rfl
              · obtain ⟨t, ht⟩ : ∃ t, l[q]? = some t := ⟨_, List.getElem?_eq_getElem (by rw [HM.out]; omega)⟩
                have hrw := Row.keep (Stays.of_no (HF0.out.then HF.out)) (fun _ h => h) a 0 l HROW.out
                obtain ⟨b, off, x0, x1, x2, x3, rfl, _, _, d0, d1, d2, d3, his⟩ := Row.at_ 0 l hrw q t ht
                rw [Nat.zero_add] at d0 d1 d2 d3
                have HC := Lib.hid (HI.out q t _ wr ht his)
                have HTK := Lib.hid ht
                clear his hrw ht
                cases hr : right t with
                | true =>
                  rw [hr] at HC
                  have HRT := Lib.hid hr
                  clear hr
                  go_wp2_with fail
                  refine HC.out.mono ?_
                  rintro e w2 ⟨rfl, hf2⟩
                  have HF2 := Lib.hid (HF.out.then hf2)
                  clear hf2
                  go_wp2_with fail
                  exact ⟨⟨q + 1, by omega, by go_num, HF2, Lib.hid (by rw [take_snoc HTK.out, rightL_snoc, HT.out, HRT.out]; rfl)⟩, by simp [intOf]; omega⟩
                | false =>
                  rw [hr] at HC
                  have HRT := Lib.hid hr
                  clear hr
                  go_wp2_with fail
                  refine HC.out.mono ?_
                  rintro e w2 ⟨rfl, hf2⟩
                  have HF2 := Lib.hid (HF.out.then hf2)
                  clear hf2
                  go_wp2_with fail
                  go_ret
                  refine ⟨?_, HF0.out.then HF2.out⟩
                  rw [HE.out, rightL_take l q t HTK.out HT.out HRT.out]
                  rfl
          · have hnum2 : (n != 0) = true := by simpa using hnum
            have HE : Hid (R = false) := Lib.hid (by rw [h]; simp [emptyS, *])
            clear h HR HI
            show Calls Try.prog 17 #[.agg #[.int .u8 2, .string s, .int .i64 n, .slice a m cap]] w _
            go_enter Try.func17, Try.ntmps17
            go_wp2_with fail
            go_ret
            refine ⟨?_, Fr.alloc _ _⟩
            rw [HE.out]
            rfl
      · rw [if_neg h2] at h
        by_cases h3 : k = 3
        · rw [if_pos h3] at h
          subst h3
          by_cases hlen : m = 2
          · have hlen2 : ((m : Int) != 2) = false := by simp [hlen]
            by_cases hemp : s.toList = []
            · have hem2 : s.toList.isEmpty = true := by simp [hemp]
              by_cases hnum : n = 0
              · have HE : Hid (R = rightL l) := Lib.hid (by rw [h]; simp [emptyS, *])
                subst hnum
                (try clear hlen)
                clear h HR
                show Calls Try.prog 17 #[.agg #[.int .u8 3, .string s, .int .i64 0, .slice a m cap]] w _
                go_enter Try.func17, Try.ntmps17
                have hbx := new_block w (.cells #[.int .u8 3, .string s, .int .i64 0, .slice a m cap] 24)
                obtain ⟨w0, hw0⟩ : ∃ w0, w0 = w.alloc (.cells #[.int .u8 3, .string s, .int .i64 0, .slice a m cap] 24) := ⟨_, rfl⟩
                have HF0 : Hid (Fr No w w0) := Lib.hid (by rw [hw0]; exact Fr.alloc w _)
                have hc3 : Hid (w0.cell? ⟨w.heap.size, 3, none⟩ = some (.slice a m cap)) := Lib.hid (by rw [hw0]; exact cell_of hbx 3)
                go_wp2_with fail
                rw [← hw0]
                obtain ⟨g, hg⟩ : ∃ g, w.heap.size = g := ⟨_, rfl⟩
                rw [hg] at hc3 ⊢
                clear hw0 hbx hg
                go_loopw [3] (fun i wr => ∃ q : Nat, q ≤ m ∧ i = .int .i64 q ∧ Hid (Fr No w0 wr) ∧ Hid (rightL (l.take q) = true)) (fun i _ => m - (intOf i).toNat)
                case atStart => exact ⟨0, Nat.zero_le _, rfl, Lib.hid (Fr.refl _ _), Lib.hid rfl⟩
                case round =>
                  obtain ⟨q, hq, rfl, HF, HT⟩ := hrel
                  have e3 := HF.out.cell hc3.out
                  by_cases hqm : q = m
                  · go_wp2_with fail
                    go_ret
                    refine ⟨?_, HF0.out.then HF.out⟩
                    have h := HT.out
                    rw [hqm, ← HM.out, List.take_length] at h
                    rw [HE.out, h]
                    rfl
                  · obtain ⟨t, ht⟩ : ∃ t, l[q]? = some t := ⟨_, List.getElem?_eq_getElem (by rw [HM.out]; omega)⟩
                    have hrw := Row.keep (Stays.of_no (HF0.out.then HF.out)) (fun _ h => h) a 0 l HROW.out
                    obtain ⟨b, off, x0, x1, x2, x3, rfl, _, _, d0, d1, d2, d3, his⟩ := Row.at_ 0 l hrw q t ht
                    rw [Nat.zero_add] at d0 d1 d2 d3
                    have HC := Lib.hid (HI.out q t _ wr ht his)
                    have HTK := Lib.hid ht
                    clear his hrw ht
                    cases hr : right t with
                    | true =>
                      rw [hr] at HC
                      have HRT := Lib.hid hr
                      clear hr
                      go_wp2_with fail
                      refine HC.out.mono ?_
                      rintro e w2 ⟨rfl, hf2⟩
                      have HF2 := Lib.hid (HF.out.then hf2)
                      clear hf2
                      go_wp2_with fail
                      exact ⟨⟨q + 1, by omega, by go_num, HF2, Lib.hid (by rw [take_snoc HTK.out, rightL_snoc, HT.out, HRT.out]; rfl)⟩, by simp [intOf]; omega⟩
                    | false =>
                      rw [hr] at HC
                      have HRT := Lib.hid hr
                      clear hr
                      go_wp2_with fail
                      refine HC.out.mono ?_
                      rintro e w2 ⟨rfl, hf2⟩
                      have HF2 := Lib.hid (HF.out.then hf2)
                      clear hf2
                      go_wp2_with fail
                      go_ret
                      refine ⟨?_, HF0.out.then HF2.out⟩
                      rw [HE.out, rightL_take l q t HTK.out HT.out HRT.out]
                      rfl
              · have hnum2 : (n != 0) = true := by simpa using hnum
                have HE : Hid (R = false) := Lib.hid (by rw [h]; simp [emptyS, *])
                clear h HR HI
                show Calls Try.prog 17 #[.agg #[.int .u8 3, .string s, .int .i64 n, .slice a m cap]] w _
                go_enter Try.func17, Try.ntmps17
                go_wp2_with fail
                go_ret
                refine ⟨?_, Fr.alloc _ _⟩
                rw [HE.out]
                rfl
            · have hem2 : s.toList.isEmpty = false := by simpa using hemp
              have HE : Hid (R = false) := Lib.hid (by rw [h]; simp [emptyS, *])
              clear h HR HI
              show Calls Try.prog 17 #[.agg #[.int .u8 3, .string s, .int .i64 n, .slice a m cap]] w _
              go_enter Try.func17, Try.ntmps17
              go_wp2_with fail
              go_ret
              refine ⟨?_, Fr.alloc _ _⟩
              rw [HE.out]
              rfl
          · have hlen2 : ((m : Int) != 2) = true := by simp only [bne_iff_ne, ne_eq]; omega
            have HE : Hid (R = false) := Lib.hid (by rw [h]; simp [emptyS, *])
            clear h HR HI
            show Calls Try.prog 17 #[.agg #[.int .u8 3, .string s, .int .i64 n, .slice a m cap]] w _
            go_enter Try.func17, Try.ntmps17
            go_wp2_with fail
            go_ret
            refine ⟨?_, Fr.alloc _ _⟩
            rw [HE.out]
            rfl
        · rw [if_neg h3] at h
          by_cases h4 : k = 4
          · rw [if_pos h4] at h
            subst h4
            by_cases hlen : 2 ≤ m
            · have hlen2 : decide ((m : Int) < 2) = false := by simp only [decide_eq_false_iff_not]; omega
              by_cases hemp : s.toList = []
              · have hem2 : s.toList.isEmpty = true := by simp [hemp]
                by_cases hnum : n = 0
                · have HE : Hid (R = rightL l) := Lib.hid (by rw [h]; simp [emptyS, *])
                  subst hnum
                  (try clear hlen)
                  clear h HR
                  show Calls Try.prog 17 #[.agg #[.int .u8 4, .string s, .int .i64 0, .slice a m cap]] w _
                  go_enter Try.func17, Try.ntmps17
                  have hbx := new_block w (.cells #[.int .u8 4, .string s, .int .i64 0, .slice a m cap] 24)
                  obtain ⟨w0, hw0⟩ : ∃ w0, w0 = w.alloc (.cells #[.int .u8 4, .string s, .int .i64 0, .slice a m cap] 24) := ⟨_, rfl⟩
                  have HF0 : Hid (Fr No w w0) := Lib.hid (by rw [hw0]; exact Fr.alloc w _)
                  have hc3 : Hid (w0.cell? ⟨w.heap.size, 3, none⟩ = some (.slice a m cap)) := Lib.hid (by rw [hw0]; exact cell_of hbx 3)
                  go_wp2_with fail
                  rw [← hw0]
                  obtain ⟨g, hg⟩ : ∃ g, w.heap.size = g := ⟨_, rfl⟩
                  rw [hg] at hc3 ⊢
                  clear hw0 hbx hg
                  go_loopw [3] (fun i wr => ∃ q : Nat, q ≤ m ∧ i = .int .i64 q ∧ Hid (Fr No w0 wr) ∧ Hid (rightL (l.take q) = true)) (fun i _ => m - (intOf i).toNat)
                  case atStart => exact ⟨0, Nat.zero_le _, rfl, Lib.hid (Fr.refl _ _), Lib.hid rfl⟩
                  case round =>
                    obtain ⟨q, hq, rfl, HF, HT⟩ := hrel
                    have e3 := HF.out.cell hc3.out
                    by_cases hqm : q = m
                    · go_wp2_with fail
                      go_ret
                      refine ⟨?_, HF0.out.then HF.out⟩
                      have h := HT.out
                      rw [hqm, ← HM.out, List.take_length] at h
                      rw [HE.out, h]
                      rfl
                    · obtain ⟨t, ht⟩ : ∃ t, l[q]? = some t := ⟨_, List.getElem?_eq_getElem (by rw [HM.out]; omega)⟩
                      have hrw := Row.keep (Stays.of_no (HF0.out.then HF.out)) (fun _ h => h) a 0 l HROW.out
                      obtain ⟨b, off, x0, x1, x2, x3, rfl, _, _, d0, d1, d2, d3, his⟩ := Row.at_ 0 l hrw q t ht
                      rw [Nat.zero_add] at d0 d1 d2 d3
                      have HC := Lib.hid (HI.out q t _ wr ht his)
                      have HTK := Lib.hid ht
                      clear his hrw ht
                      cases hr : right t with
                      | true =>
                        rw [hr] at HC
                        have HRT := Lib.hid hr
                        clear hr
                        go_wp2_with fail
                        refine HC.out.mono ?_
                        rintro e w2 ⟨rfl, hf2⟩
                        have HF2 := Lib.hid (HF.out.then hf2)
                        clear hf2
                        go_wp2_with fail
                        exact ⟨⟨q + 1, by omega, by go_num, HF2, Lib.hid (by rw [take_snoc HTK.out, rightL_snoc, HT.out, HRT.out]; rfl)⟩, by simp [intOf]; omega⟩
                      | false =>
                        rw [hr] at HC
                        have HRT := Lib.hid hr
                        clear hr
                        go_wp2_with fail
                        refine HC.out.mono ?_
                        rintro e w2 ⟨rfl, hf2⟩
                        have HF2 := Lib.hid (HF.out.then hf2)
                        clear hf2
                        go_wp2_with fail
                        go_ret
                        refine ⟨?_, HF0.out.then HF2.out⟩
                        rw [HE.out, rightL_take l q t HTK.out HT.out HRT.out]
                        rfl
                · have hnum2 : (n != 0) = true := by simpa using hnum
                  have HE : Hid (R = false) := Lib.hid (by rw [h]; simp [emptyS, *])
                  clear h HR HI
                  show Calls Try.prog 17 #[.agg #[.int .u8 4, .string s, .int .i64 n, .slice a m cap]] w _
                  go_enter Try.func17, Try.ntmps17
                  go_wp2_with fail
                  go_ret
                  refine ⟨?_, Fr.alloc _ _⟩
                  rw [HE.out]
                  rfl
              · have hem2 : s.toList.isEmpty = false := by simpa using hemp
                have HE : Hid (R = false) := Lib.hid (by rw [h]; simp [emptyS, *])
                clear h HR HI
                show Calls Try.prog 17 #[.agg #[.int .u8 4, .string s, .int .i64 n, .slice a m cap]] w _
                go_enter Try.func17, Try.ntmps17
                go_wp2_with fail
                go_ret
                refine ⟨?_, Fr.alloc _ _⟩
                rw [HE.out]
                rfl
            · have hlen2 : decide ((m : Int) < 2) = true := by simp only [decide_eq_true_eq]; omega
              have HE : Hid (R = false) := Lib.hid (by rw [h]; simp [emptyS, *])
              clear h HR HI
              show Calls Try.prog 17 #[.agg #[.int .u8 4, .string s, .int .i64 n, .slice a m cap]] w _
              go_enter Try.func17, Try.ntmps17
              go_wp2_with fail
              go_ret
              refine ⟨?_, Fr.alloc _ _⟩
              rw [HE.out]
              rfl
          · rw [if_neg h4] at h
            have HE : Hid (R = false) := Lib.hid h
            clear h HR HI
            go_enter Try.func17, Try.ntmps17
            go_wp2_with fail
            go_ret
            refine ⟨?_, Fr.alloc _ _⟩
            rw [HE.out]
            rfl
end Go.Proofs.Ytfjddfcndammdaa
