/- How many patterns there are; is a constructor among them that no info tells? -/
import Derived.Test.YthjecikdkdjlaaaWd
namespace Go.Proofs.Ythjecikdkdjlaaa
open Go.RowKit

theorem any_any {n : Nat} {l : List T} {q : T → Bool} {p : Nat → Bool} {St : Nat → World → Prop} {w : World} {e : Ending} {w' : World} (hl : l.length = n) (hp : ∀ (j : Nat) (t : T), l[j]? = some t → p j = q t)
    (hst : ∀ j w', St j w' → Fr No w w') (h : AnySaid n p St e w') : e = .returned (.bool (l.any q)) ∧ Fr No w w' := by
  obtain ⟨v, rfl, h⟩ := h
  rcases h with ⟨rfl, h1, h2⟩ | ⟨rfl, j, h1, h2, h3, h4⟩
  · refine ⟨?_, hst _ _ h2⟩
    have : l.any q = false := by
      rw [List.any_eq_false]
      intro t ht
      obtain ⟨j, hj⟩ := List.getElem?_of_mem ht
      have h5 := h1 j (by rw [← hl]; exact (List.getElem?_eq_some_iff.1 hj).1)
      rw [hp j t hj] at h5
      simpa using h5
    rw [this]
  · refine ⟨?_, hst _ _ h4⟩
    have hjl : j < l.length := by rw [hl]; exact h1
    have hg : l[j]? = some l[j] := List.getElem?_eq_getElem hjl
    rw [hp j _ hg] at h2
    have : l.any q = true := by
      rw [List.any_eq_true]
      exact ⟨l[j], List.getElem_mem hjl, h2⟩
    rw [this]
/-- slices.ContainsFunc over patterns: a function that only says something of each -/
theorem any_said (base : Nat) (l : List T) (n cap : Nat) (a : Option Addr) (g : FuncId) (caps : Array Value) (q : T → Bool) (w : World) (hl : l.length = n) (hn : n ≤ 1152921504606846976) (hcf : ∀ (args : Array Value) (u : World), Sem.run Try.prog (callFunc g args) u = .ok (.enter g args) u)
    (hrow : Row base (fun _ => True) w a 0 l) (hg : ∀ (t : T) (v : Value) (w1 : World), t ∈ l → Fr No w w1 → IsT base w1 t v → Calls Try.prog g (#[v] ++ caps) w1 (SaidT w1 (q t))) :
    Calls Try.prog 24 #[.slice a n cap, .func (.func g) #[] caps] w (SaidT w (l.any q)) := by
  have h := contains_any base (fun _ => True) l n cap a g caps (fun j => ((l[j]?).map q).getD false) (fun _ w' => Fr No w w') w hl hn hcf (fun j w1 hst => row_keepNo hrow hst) (fun j t v w1 hj _ hst hi => by
    have h1 := hg t v w1 (List.mem_of_getElem? hj) hst hi
    have he : ((l[j]?).map q).getD false = q t := by rw [hj]; rfl
    exact h1.mono fun e w2 ⟨q1, q2⟩ => ⟨q1.trans (by rw [← he]), Fr.then hst q2⟩) (Fr.refl _ _)
  exact h.mono fun e w' hx => any_any hl (fun j t hj => by rw [hj]; rfl) (fun _ _ h => h) hx
theorem take_snoc {α : Type} {l : List α} {k : Nat} {t : α} (h : l[k]? = some t) : l.take (k + 1) = l.take k ++ [t] := by
  rw [List.take_add_one, h]
  rfl
theorem count_step {l : List T} {q d : Nat} {t : T} (h : l[q]? = some t) (hd : partsL (l.take q) = d) : partsL (l.take (q + 1)) = d + 1 + partsL t.kids := by
  rw [take_snoc h, partsL_append, hd]
  obtain ⟨k, s, n, r⟩ := t
  simp only [partsL, parts]
  show _ = d + 1 + partsL r
  omega
set_option maxHeartbeats 2000000 in
theorem count_any (base : Nat) : ∀ (f : Nat) (l : List T), partsL l ≤ f → f ≤ 1152921504606846976 → ∀ (a : Option Addr) (cap m : Nat) (w : World), l.length = m → Row base (fun _ => True) w a 0 l → Calls Try.prog 20 #[.slice a m cap] w (SaidI w (partsL l))
  | f, l, h, hf, a, cap, m, w, hm, hrow => by
    have hml := partsL_len l
    rw [hm] at hml
    have HI : Hid (∀ (j : Nat) (t : T) (a : Option Addr) (cap m : Nat) (w' : World), l[j]? = some t → t.kids.length = m → Row base (fun _ => True) w' a 0 t.kids → Calls Try.prog 20 #[.slice a m cap] w' (SaidI w' (partsL t.kids))) := Lib.hid (fun j t a cap m w' hj hm hr => by
      have hk := parts_kid l j t hj
      have hlt : partsL t.kids < f := by
        obtain ⟨k, s, n, r⟩ := t
        simp only [parts] at hk
        show partsL r < f
        omega
      exact count_any base (f - 1) t.kids (by omega) (by omega) a cap m w' hm hr)
    have HM := Lib.hid hm
    have HROW := Lib.hid hrow
    have HP : Hid (∀ k, partsL (l.take k) ≤ partsL l) := Lib.hid (fun k => by
      have h := partsL_append (l.take k) (l.drop k)
      rw [List.take_append_drop] at h
      omega)
    clear hm hrow
    go_enter Try.func20, Try.ntmps20
    go_wp2_with fail
    go_loopw [3, 10] (fun x i wr => ∃ q e : Nat, q ≤ m ∧ e ≤ f ∧ x = .int .i64 e ∧ i = .int .i64 q ∧ Hid (Fr No w wr) ∧ Hid (partsL (l.take q) + (m - q) = e)) (fun _ i _ => m - (intOf i).toNat)
    case atStart => exact ⟨0, m, Nat.zero_le _, by omega, rfl, rfl, Lib.hid (Fr.refl _ _), Lib.hid (by simp [partsL])⟩
    case round =>
      obtain ⟨q, e, hq, he, rfl, rfl, HF, HT⟩ := hrel
      by_cases hqm : q = m
      · have HD : Hid (partsL l = e) := Lib.hid (by
          have h := HT.out
          rw [hqm, ← HM.out, List.take_length] at h
          omega)
        go_wp2_with fail
        go_ret
        refine ⟨?_, HF.out⟩
        rw [HD.out]
        rfl
      · obtain ⟨t, ht⟩ : ∃ t, l[q]? = some t := ⟨_, List.getElem?_eq_getElem (by rw [HM.out]; omega)⟩
        obtain ⟨b, off, x0, x1, x2, x3, rfl, _, _, d0, d1, d2, d3, his⟩ := Row.at_ 0 l (row_keepNo HROW.out HF.out) q t ht
        rw [Nat.zero_add] at d0 d1 d2 d3
        obtain ⟨k1, s1, n1, aa1, mm1, cc1, rfl, rfl, rfl, rfl⟩ := is_cells his
        obtain ⟨r1, hre, hr1, hrr⟩ := is_mk his
        have HC : Hid (∀ w', Fr No wr w' → Calls Try.prog 20 #[.slice aa1 mm1 cc1] w' (SaidI w' (partsL t.kids))) := Lib.hid (fun w' hb => HI.out q t aa1 cc1 mm1 w' ht (by rw [hre]; exact hr1) (by rw [hre]; exact row_keepNo hrr hb))
        have hstep := count_step ht rfl
        have hle := HP.out (q + 1)
        have hT := HT.out
        obtain ⟨pk, hpk⟩ : ∃ pk, partsL t.kids = pk := ⟨_, rfl⟩
        rw [hpk] at HC hstep
        have hsum : e + pk ≤ f ∧ partsL (l.take (q + 1)) + (m - (q + 1)) = e + pk := by
          have hn : l.length - q ≤ partsL (l.drop q) := by
            have := partsL_len (l.drop q)
            simpa using this
          have h2 := partsL_append (l.take (q + 1)) (l.drop (q + 1))
          have hn2 := partsL_len (l.drop (q + 1))
          rw [List.take_append_drop] at h2
          simp only [List.length_drop, HM.out] at hn2
          omega
        have HSUM := Lib.hid hsum.2
        have hs1 := hsum.1
        have hltq : (q : Int) < (m : Int) := by omega
        clear his hre hr1 hrr ht hstep hle hT hsum hpk
        go_wp2_with fail
        refine (HC.out _ (Fr.alloc wr _)).mono ?_
        rintro e2 w2 ⟨rfl, hf2⟩
        have HF2 := Lib.hid ((HF.out.then (Fr.alloc wr _)).then hf2)
        clear hf2
        go_wp2_with fail
        exact ⟨⟨q + 1, e + pk, by omega, by omega, by go_num, by go_num, HF2, HSUM⟩, by simp [intOf]; omega⟩
  termination_by f => f
  decreasing_by omega
set_option maxHeartbeats 2000000 in
theorem rcount_any (base : Nat) : ∀ (f : Nat) (l : List T), partsL l ≤ f → f ≤ 1152921504606846976 → ∀ (a : Option Addr) (cap m : Nat) (w : World), l.length = m → Row base (fun _ => True) w a 0 l → Calls Try.prog 17 #[.slice a m cap] w (SaidI w (partsL l))
  | f, l, h, hf, a, cap, m, w, hm, hrow => by
    have hml := partsL_len l
    rw [hm] at hml
    have HI : Hid (∀ (j : Nat) (t : T) (a : Option Addr) (cap m : Nat) (w' : World), l[j]? = some t → t.kids.length = m → Row base (fun _ => True) w' a 0 t.kids → Calls Try.prog 17 #[.slice a m cap] w' (SaidI w' (partsL t.kids))) := Lib.hid (fun j t a cap m w' hj hm hr => by
      have hk := parts_kid l j t hj
      have hlt : partsL t.kids < f := by
        obtain ⟨k, s, n, r⟩ := t
        simp only [parts] at hk
        show partsL r < f
        omega
      exact rcount_any base (f - 1) t.kids (by omega) (by omega) a cap m w' hm hr)
    have HM := Lib.hid hm
    have HROW := Lib.hid hrow
    have HP : Hid (∀ k, partsL (l.take k) ≤ partsL l) := Lib.hid (fun k => by
      have h := partsL_append (l.take k) (l.drop k)
      rw [List.take_append_drop] at h
      omega)
    clear hm hrow
    go_enter Try.func17, Try.ntmps17
    go_wp2_with fail
    go_loopw [3, 4] (fun x i wr => ∃ q e : Nat, q ≤ m ∧ e ≤ f ∧ x = .int .i64 e ∧ i = .int .i64 q ∧ Hid (Fr No w wr) ∧ Hid (partsL (l.take q) + (m - q) = e)) (fun _ i _ => m - (intOf i).toNat)
    case atStart => exact ⟨0, m, Nat.zero_le _, by omega, rfl, rfl, Lib.hid (Fr.refl _ _), Lib.hid (by simp [partsL])⟩
    case round =>
      obtain ⟨q, e, hq, he, rfl, rfl, HF, HT⟩ := hrel
      by_cases hqm : q = m
      · have HD : Hid (partsL l = e) := Lib.hid (by
          have h := HT.out
          rw [hqm, ← HM.out, List.take_length] at h
          omega)
        go_wp2_with fail
        go_ret
        refine ⟨?_, HF.out⟩
        rw [HD.out]
        rfl
      · obtain ⟨t, ht⟩ : ∃ t, l[q]? = some t := ⟨_, List.getElem?_eq_getElem (by rw [HM.out]; omega)⟩
        obtain ⟨b, off, x0, x1, x2, x3, rfl, _, _, d0, d1, d2, d3, his⟩ := Row.at_ 0 l (row_keepNo HROW.out HF.out) q t ht
        rw [Nat.zero_add] at d0 d1 d2 d3
        obtain ⟨k1, s1, n1, aa1, mm1, cc1, rfl, rfl, rfl, rfl⟩ := is_cells his
        obtain ⟨r1, hre, hr1, hrr⟩ := is_mk his
        have HC : Hid (∀ w', Fr No wr w' → Calls Try.prog 17 #[.slice aa1 mm1 cc1] w' (SaidI w' (partsL t.kids))) := Lib.hid (fun w' hb => HI.out q t aa1 cc1 mm1 w' ht (by rw [hre]; exact hr1) (by rw [hre]; exact row_keepNo hrr hb))
        have hstep := count_step ht rfl
        have hle := HP.out (q + 1)
        have hT := HT.out
        obtain ⟨pk, hpk⟩ : ∃ pk, partsL t.kids = pk := ⟨_, rfl⟩
        rw [hpk] at HC hstep
        have hsum : e + pk ≤ f ∧ partsL (l.take (q + 1)) + (m - (q + 1)) = e + pk := by
          have hn : l.length - q ≤ partsL (l.drop q) := by
            have := partsL_len (l.drop q)
            simpa using this
          have h2 := partsL_append (l.take (q + 1)) (l.drop (q + 1))
          have hn2 := partsL_len (l.drop (q + 1))
          rw [List.take_append_drop] at h2
          simp only [List.length_drop, HM.out] at hn2
          omega
        have HSUM := Lib.hid hsum.2
        have hs1 := hsum.1
        have hltq : (q : Int) < (m : Int) := by omega
        clear his hre hr1 hrr ht hstep hle hT hsum hpk
        go_wp2_with fail
        refine (HC.out _ (Fr.refl _ _)).mono ?_
        rintro e2 w2 ⟨rfl, hf2⟩
        have HF2 := Lib.hid (HF.out.then hf2)
        clear hf2
        go_wp2_with fail
        exact ⟨⟨q + 1, e + pk, by omega, by omega, by go_num, by go_num, HF2, HSUM⟩, by simp [intOf]; omega⟩
  termination_by f => f
  decreasing_by omega
end Go.Proofs.Ythjecikdkdjlaaa
