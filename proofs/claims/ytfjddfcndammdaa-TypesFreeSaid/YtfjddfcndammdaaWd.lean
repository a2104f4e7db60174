/- Same. -/
import Derived.Test.YtfjddfcndammdaaWc
namespace Go.Proofs.Ytfjddfcndammdaa
open Go.RowKit

theorem enters24 (args : Array Value) (u : World) : Sem.run Try.prog (callFunc 24 args) u = .ok (.enter 24 args) u := by kernel_rfl
theorem is_cells {B0 : Nat} {ok : Nat → Prop} {w : World} {t : T} {x0 x1 x2 x3 : Value} (h : Is B0 ok w t (.agg #[x0, x1, x2, x3])) : ∃ (k : Nat) (s : ByteArray) (n : Int) (a : Option Addr) (m c : Nat), x0 = .int .u8 k ∧ x1 = .string s ∧ x2 = .int .i64 n ∧ x3 = .slice a m c := by
  cases t with
  | mk k s n l =>
    simp only [Is] at h
    obtain ⟨a, cap, e, _⟩ := h
    simp only [Value.agg.injEq, Array.mk.injEq, List.cons.injEq, and_true] at e
    exact ⟨k, s, n, a, l.length, cap, e⟩
set_option maxHeartbeats 2000000 in
theorem equal_any (l l2 : List T) (m m2 cap cap2 : Nat) (a a2 : Option Addr) (B0 B1 : Nat) (ok ok1 : Nat → Prop) (w : World) (hm : Hid (l.length = m)) (hm2 : Hid (l2.length = m2)) (hmb : m ≤ 1152921504606846976)
    (hrow : Hid (Row B0 ok w a 0 l)) (hrow2 : Hid (Row B1 ok1 w a2 0 l2))
    (HI : Hid (∀ (j : Nat) (t : T) (v : Value) (t2 : T) (v2 : Value) (w' : World), l[j]? = some t → l2[j]? = some t2 → Is B0 ok w' t v → Is B1 ok1 w' t2 v2 → Calls Try.prog 24 #[v, v2] w' (SaidT w' (same t t2)))) :
    Calls Try.prog 43 #[.slice a m cap, .slice a2 m2 cap2, .func (.func 24) #[] #[]] w (SaidT w (sameL l l2)) := by
  have E24 := enters24
  obtain ⟨R, hR⟩ : ∃ R, sameL l l2 = R := ⟨_, rfl⟩
  rw [hR]
  have HR := Lib.hid hR
  clear hR
  go_enter Try.func43, Try.ntmps43
  by_cases hl : m = m2
  case neg =>
    have q1 : ((m : Int) != (m2 : Int)) = true := by simp only [bne_iff_ne, ne_eq]; omega
    have HE : Hid (R = false) := Lib.hid (by rw [← HR.out]; exact sameL_len l l2 (by rw [hm.out, hm2.out]; exact hl))
    go_wp2_with fail
    go_ret
    refine ⟨?_, Fr.refl _ _⟩
    rw [HE.out]
    rfl
  subst hl
  go_wp2_with fail
  go_loopw [17] (fun i wr => ∃ q : Nat, q ≤ m ∧ i = .int .i64 q ∧ Hid (Fr No w wr) ∧ Hid (∀ (j : Nat) (s t : T), j < q → l[j]? = some s → l2[j]? = some t → same s t = true)) (fun i _ => m - (intOf i).toNat)
  case atStart => exact ⟨0, Nat.zero_le _, rfl, Lib.hid (Fr.refl _ _), Lib.hid (fun j s t h => absurd h (Nat.not_lt_zero _))⟩
  case round =>
    obtain ⟨q, hq, rfl, HF, HT⟩ := hrel
    by_cases hqm : q = m
    · go_wp2_with fail
      go_ret
      refine ⟨?_, HF.out⟩
      rw [← HR.out, sameL_all l l2 (by rw [hm.out, hm2.out]) (fun j s t h1 h2 => HT.out j s t (by rw [hqm, ← hm.out]; exact (List.getElem?_eq_some_iff.1 h1).1) h1 h2)]
      rfl
    · obtain ⟨t, ht⟩ : ∃ t, l[q]? = some t := ⟨_, List.getElem?_eq_getElem (by rw [hm.out]; omega)⟩
      obtain ⟨t2, ht2⟩ : ∃ t2, l2[q]? = some t2 := ⟨_, List.getElem?_eq_getElem (by rw [hm2.out]; omega)⟩
      have hrw := Row.keep (Stays.of_no HF.out) (fun _ h => h) a 0 l hrow.out
      have hrw2 := Row.keep (Stays.of_no HF.out) (fun _ h => h) a2 0 l2 hrow2.out
      obtain ⟨b, off, x0, x1, x2, x3, rfl, _, _, d0, d1, d2, d3, his⟩ := Row.at_ 0 l hrw q t ht
      obtain ⟨b2, off2, y0, y1, y2, y3, rfl, _, _, z0, z1, z2, z3, his2⟩ := Row.at_ 0 l2 hrw2 q t2 ht2
      rw [Nat.zero_add] at d0 d1 d2 d3 z0 z1 z2 z3
      have zz : ∀ o, (wr.alloc o).cell? ⟨b2, off2 + q * 4, none⟩ = some y0 ∧ (wr.alloc o).cell? ⟨b2, off2 + q * 4 + 1, none⟩ = some y1 ∧ (wr.alloc o).cell? ⟨b2, off2 + q * 4 + 2, none⟩ = some y2 ∧ (wr.alloc o).cell? ⟨b2, off2 + q * 4 + 3, none⟩ = some y3 := fun o =>
        ⟨(Fr.alloc wr o).cell z0, (Fr.alloc wr o).cell z1, (Fr.alloc wr o).cell z2, (Fr.alloc wr o).cell z3⟩
      have HC : Hid (∀ w', Fr No wr w' → Calls Try.prog 24 #[.agg #[x0, x1, x2, x3], .agg #[y0, y1, y2, y3]] w' (SaidT w' (same t t2))) := Lib.hid (fun w' hb => HI.out q t _ t2 _ w' ht ht2 (his.no hb) (his2.no hb))
      have HTK := Lib.hid (And.intro ht ht2)
      obtain ⟨k1, s1, n1, aa1, mm1, cc1, rfl, rfl, rfl, rfl⟩ := is_cells his
      obtain ⟨k2, s2, n2, aa2, mm2, cc2, rfl, rfl, rfl, rfl⟩ := is_cells his2
      clear his his2 hrw hrw2 ht ht2 z0 z1 z2 z3
      go_wp2_with fail
      refine (HC.out _ ((Fr.alloc wr _).then (Fr.alloc _ _))).mono ?_
      rintro e w2 ⟨rfl, hf2⟩
      have HF2 := Lib.hid ((HF.out.then ((Fr.alloc wr _).then (Fr.alloc _ _))).then hf2)
      clear hf2
      cases hr : same t t2 with
      | true =>
        have HRT := Lib.hid hr
        clear hr
        go_wp2_with fail
        refine ⟨⟨q + 1, by omega, by go_num, HF2, Lib.hid fun j s' t' hj h1 h2 => ?_⟩, by simp [intOf]; omega⟩
        by_cases hjq : j < q
        · exact HT.out j s' t' hjq h1 h2
        · have e : j = q := by omega
          rw [e] at h1 h2
          obtain ⟨h3, h4⟩ := HTK.out
          rw [h3] at h1
          rw [h4] at h2
          injection h1 with h1
          injection h2 with h2
          rw [← h1, ← h2]
          exact HRT.out
      | false =>
        have HRT := Lib.hid hr
        clear hr
        go_wp2_with fail
        go_ret
        refine ⟨?_, HF2.out⟩
        rw [← HR.out, sameL_take l l2 q t t2 HTK.out.1 HTK.out.2 HRT.out]
        rfl
set_option maxHeartbeats 4000000 in
set_option maxRecDepth 100000 in
theorem same_any : ∀ (f : Nat) (t : T), parts t ≤ f → f ≤ 1152921504606846976 → ∀ (t2 : T) (B0 : Nat) (ok : Nat → Prop) (v : Value) (B1 : Nat) (ok1 : Nat → Prop) (v2 : Value) (w : World), Is B0 ok w t v → Is B1 ok1 w t2 v2 →
    Calls Try.prog 24 #[v, v2] w (SaidT w (same t t2))
  | 0, t, h, _, _, _, _, _, _, _, _, _, _, _ => by have := parts_pos t; omega
  | f + 1, .mk k s n l, h, hf, .mk k2 s2 n2 l2, B0, ok, v, B1, ok1, v2, w, hi, hi2 => by
    simp only [Is] at hi hi2
    obtain ⟨a, cap, rfl, hrow⟩ := hi
    obtain ⟨a2, cap2, rfl, hrow2⟩ := hi2
    obtain ⟨m, hm⟩ : ∃ m, l.length = m := ⟨_, rfl⟩
    obtain ⟨m2, hm2⟩ : ∃ m2, l2.length = m2 := ⟨_, rfl⟩
    rw [hm, hm2]
    have hml := partsL_len l
    simp only [parts] at h
    rw [hm] at hml
    have HC : Hid (∀ w', Fr No w w' → Calls Try.prog 43 #[.slice a m cap, .slice a2 m2 cap2, .func (.func 24) #[] #[]] w' (SaidT w' (sameL l l2))) := Lib.hid (fun w' hw' =>
      equal_any l l2 m m2 cap cap2 a a2 B0 B1 ok ok1 w' (Lib.hid hm) (Lib.hid hm2) (by omega) (Lib.hid (Row.keep (Stays.of_no hw') (fun _ h => h) a 0 l hrow)) (Lib.hid (Row.keep (Stays.of_no hw') (fun _ h => h) a2 0 l2 hrow2))
        (Lib.hid (fun j t v t2 v2 w' hj _ his his2 => by
          have hk := parts_kid l j t hj
          exact same_any f t (by omega) (by omega) t2 B0 ok v B1 ok1 v2 w' his his2)))
    have hS : same (.mk k s n l) (.mk k2 s2 n2 l2) = (decide (k = k2) && (decide (s = s2) && (decide (n = n2) && sameL l l2))) := by rw [same]
    obtain ⟨R, hR⟩ : ∃ R, same (.mk k s n l) (.mk k2 s2 n2 l2) = R := ⟨_, rfl⟩
    rw [hR] at hS ⊢
    have HS := Lib.hid hS
    have hss : (s.toList == s2.toList) = decide (s = s2) := by
      rw [ByteArray.toList_eq, ByteArray.toList_eq]
      by_cases e : s = s2
      · simp [e]
      · have : s.data.toList ≠ s2.data.toList := fun h => e (by
          cases s
          cases s2
          simp only [ByteArray.mk.injEq]
          exact Array.toList_inj.1 h)
        rw [decide_eq_false e]
        exact beq_eq_false_iff_ne.2 this
    clear hR hS hrow hrow2 hm hm2
    by_cases hk : k = k2
    case neg =>
      have q1 : ((k : Int) == (k2 : Int)) = false := by simp only [beq_eq_false_iff_ne, ne_eq]; omega
      have HE : Hid (R = false) := Lib.hid (by rw [HS.out]; simp [hk])
      clear HS hss HC
      go_enter Try.func24, Try.ntmps24
      go_wp2_with fail
      go_ret
      refine ⟨?_, (Fr.alloc w _).then (Fr.alloc _ _)⟩
      rw [HE.out]
      rfl
    by_cases hst : s = s2
    case neg =>
      have hd : decide (s = s2) = false := by simpa using hst
      rw [hd] at hss
      have HE : Hid (R = false) := Lib.hid (by rw [HS.out]; simp [hst])
      clear HS HC hd hst
      subst hk
      go_enter Try.func24, Try.ntmps24
      go_wp2_with fail
      go_ret
      refine ⟨?_, (Fr.alloc w _).then (Fr.alloc _ _)⟩
      rw [HE.out]
      rfl
    by_cases hn : n = n2
    case neg =>
      have q1 : (n == n2) = false := by simp only [beq_eq_false_iff_ne, ne_eq]; exact hn
      have HE : Hid (R = false) := Lib.hid (by rw [HS.out]; simp [hn])
      clear HS hss HC
      subst hk hst
      go_enter Try.func24, Try.ntmps24
      go_wp2_with fail
      go_ret
      refine ⟨?_, (Fr.alloc w _).then (Fr.alloc _ _)⟩
      rw [HE.out]
      rfl
    subst hk hst hn
    have HE : Hid (R = sameL l l2) := Lib.hid (by rw [HS.out]; simp)
    clear HS hss
    go_enter Try.func24, Try.ntmps24
    go_wp2_with fail
    refine (HC.out _ ((Fr.alloc w _).then (Fr.alloc _ _))).mono ?_
    rintro e w2 ⟨rfl, hf2⟩
    go_wp2_with fail
    go_ret
    refine ⟨?_, ((Fr.alloc w _).then (Fr.alloc _ _)).then hf2⟩
    rw [HE.out]
    rfl
end Go.Proofs.Ytfjddfcndammdaa
