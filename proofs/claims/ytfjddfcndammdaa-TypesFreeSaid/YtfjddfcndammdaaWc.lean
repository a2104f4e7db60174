/- The document's Same; Same. -/
import Derived.Test.YtfjddfcndammdaaWb
import Derived.StillTailTactics
namespace Go.Proofs.Ytfjddfcndammdaa
open Go.RowKit

theorem sameL_take : ∀ (l m : List T) (k : Nat) (s t : T), l[k]? = some s → m[k]? = some t → same s t = false → sameL l m = false
  | [], _, k, s, t, h, _, _ => by simp at h
  | x :: r, [], k, s, t, _, h, _ => by simp at h
  | x :: r, y :: u, 0, s, t, h1, h2, h3 => by
    simp only [List.getElem?_cons_zero, Option.some.injEq] at h1 h2
    subst h1 h2
    simp [sameL, h3]
  | x :: r, y :: u, k + 1, s, t, h1, h2, h3 => by
    have := sameL_take r u k s t (by simpa using h1) (by simpa using h2) h3
    simp [sameL, this]
theorem sameL_all : ∀ (l m : List T), l.length = m.length → (∀ (k : Nat) (s t : T), l[k]? = some s → m[k]? = some t → same s t = true) → sameL l m = true
  | [], [], _, _ => rfl
  | [], _ :: _, h, _ => by simp at h
  | _ :: _, [], h, _ => by simp at h
  | x :: r, y :: u, h, hh => by
    simp only [sameL, Bool.and_eq_true]
    exact ⟨hh 0 x y rfl rfl, sameL_all r u (by simpa using h) fun k s t h1 h2 => hh (k + 1) s t (by simpa using h1) (by simpa using h2)⟩
theorem sameL_len : ∀ (l m : List T), l.length ≠ m.length → sameL l m = false
  | [], [], h => absurd rfl h
  | [], _ :: _, _ => rfl
  | _ :: _, [], _ => rfl
  | x :: r, y :: u, h => by simp [sameL, sameL_len r u (by simpa using h)]
set_option maxHeartbeats 4000000 in
set_option maxRecDepth 100000 in
theorem rsame_any : ∀ (f : Nat) (t : T), parts t ≤ f → f ≤ 1152921504606846976 → ∀ (t2 : T), parts t2 ≤ 1152921504606846976 → ∀ (B0 : Nat) (ok : Nat → Prop) (v : Value) (B1 : Nat) (ok1 : Nat → Prop) (v2 : Value) (w : World), Is B0 ok w t v → Is B1 ok1 w t2 v2 →
    Calls Try.prog 13 #[v, v2] w (SaidT w (same t t2))
  | 0, t, h, _, _, _, _, _, _, _, _, _, _, _, _ => by have := parts_pos t; omega
  | f + 1, .mk k s n l, h, hf, .mk k2 s2 n2 l2, hp2, B0, ok, v, B1, ok1, v2, w, hi, hi2 => by
    simp only [Is] at hi hi2
    obtain ⟨a, cap, rfl, hrow⟩ := hi
    obtain ⟨a2, cap2, rfl, hrow2⟩ := hi2
    obtain ⟨m, hm⟩ : ∃ m, l.length = m := ⟨_, rfl⟩
    obtain ⟨m2, hm2⟩ : ∃ m2, l2.length = m2 := ⟨_, rfl⟩
    rw [hm, hm2]
    have hml := partsL_len l
    simp only [parts] at h hp2
    rw [hm] at hml
    have hml2 := partsL_len l2
    rw [hm2] at hml2
    have HI : Hid (∀ (j : Nat) (t : T) (v : Value) (t2 : T) (v2 : Value) (w' : World), l[j]? = some t → l2[j]? = some t2 → Is B0 ok w' t v → Is B1 ok1 w' t2 v2 → Calls Try.prog 13 #[v, v2] w' (SaidT w' (same t t2))) := Lib.hid (fun j t v t2 v2 w' hj hj2 his his2 => by
      have hk := parts_kid l j t hj
      have hk2 := parts_kid l2 j t2 hj2
      exact rsame_any f t (by omega) (by omega) t2 (by omega) B0 ok v B1 ok1 v2 w' his his2)
    have HM := Lib.hid hm
    have HM2 := Lib.hid hm2
    have HROW := Lib.hid hrow
    have HROW2 := Lib.hid hrow2
    have hS : same (.mk k s n l) (.mk k2 s2 n2 l2) = (decide (k = k2) && (decide (s = s2) && (decide (n = n2) && sameL l l2))) := by rw [same]
    obtain ⟨R, hR⟩ : ∃ R, same (.mk k s n l) (.mk k2 s2 n2 l2) = R := ⟨_, rfl⟩
    rw [hR] at hS ⊢
    have HS := Lib.hid hS
    have hss : (s.toList == s2.toList) = decide (s = s2) := by
      rw [ByteArray.toList_eq, ByteArray.toList_eq]
      by_cases e : s = s2
      · simp [e]
      · have : s.data.toList ≠ s2.data.toList := fun h => e (by
          cases s
          cases s2
          simp only [ByteArray.mk.injEq]
          exact Array.toList_inj.1 h)
        rw [decide_eq_false e]
        exact beq_eq_false_iff_ne.2 this
    have hss2 : (s.toList != s2.toList) = !decide (s = s2) := by rw [bne, hss]
    clear hR hS hrow hrow2 hm hm2
    by_cases hk : k = k2
    case neg =>
      have q1 : ((k : Int) != (k2 : Int)) = true := by simp only [bne_iff_ne, ne_eq]; omega
      have HE : Hid (R = false) := Lib.hid (by rw [HS.out]; simp [hk])
      clear HS hss hss2 HI
      go_enter Try.func13, Try.ntmps13
      go_wp2_with fail
      go_ret
      refine ⟨?_, (Fr.alloc w _).then (Fr.alloc _ _)⟩
      rw [HE.out]
      rfl
    by_cases hst : s = s2
    case neg =>
      have hd : decide (s = s2) = false := by simpa using hst
      have hss3 : (s.toList != s2.toList) = true := by rw [hss2, hd]; rfl
      have hss4 : ¬ s.toList = s2.toList := by simpa using hss3
      clear hss2
      have HE : Hid (R = false) := Lib.hid (by rw [HS.out]; simp [hst])
      clear HS hss HI hd hst
      subst hk
      go_enter Try.func13, Try.ntmps13
      go_wp2_with fail
      go_ret
      refine ⟨?_, (Fr.alloc w _).then (Fr.alloc _ _)⟩
      rw [HE.out]
      rfl
    by_cases hn : n = n2
    case neg =>
      have q1 : (n != n2) = true := by simp only [bne_iff_ne, ne_eq]; exact hn
      have HE : Hid (R = false) := Lib.hid (by rw [HS.out]; simp [hn])
      clear HS hss hss2 HI
      subst hk hst
      go_enter Try.func13, Try.ntmps13
      go_wp2_with fail
      go_ret
      refine ⟨?_, (Fr.alloc w _).then (Fr.alloc _ _)⟩
      rw [HE.out]
      rfl
    by_cases hl : m = m2
    case neg =>
      have q1 : ((m : Int) != (m2 : Int)) = true := by simp only [bne_iff_ne, ne_eq]; omega
      have HE : Hid (R = false) := Lib.hid (by rw [HS.out, sameL_len l l2 (by rw [HM.out, HM2.out]; exact hl)]; simp)
      clear HS hss hss2 HI
      subst hk hst hn
      go_enter Try.func13, Try.ntmps13
      go_wp2_with fail
      go_ret
      refine ⟨?_, (Fr.alloc w _).then (Fr.alloc _ _)⟩
      rw [HE.out]
      rfl
    subst hk hst hn hl
    have HE : Hid (R = sameL l l2) := Lib.hid (by rw [HS.out]; simp)
    clear HS hss hss2
    have hbx := new_block w (.cells #[.int .u8 k, .string s, .int .i64 n, .slice a m cap] 24)
    have hby := new_block (w.alloc (.cells #[.int .u8 k, .string s, .int .i64 n, .slice a m cap] 24)) (.cells #[.int .u8 k, .string s, .int .i64 n, .slice a2 m cap2] 24)
    obtain ⟨w0, hw0⟩ : ∃ w0, w0 = (w.alloc (.cells #[.int .u8 k, .string s, .int .i64 n, .slice a m cap] 24)).alloc (.cells #[.int .u8 k, .string s, .int .i64 n, .slice a2 m cap2] 24) := ⟨_, rfl⟩
    have HF0 : Hid (Fr No w w0) := Lib.hid (by rw [hw0]; exact (Fr.alloc w _).then (Fr.alloc _ _))
    have hc3 : Hid (w0.cell? ⟨w.heap.size, 3, none⟩ = some (.slice a m cap)) := Lib.hid (by rw [hw0]; exact (Fr.alloc _ _).cell (cell_of hbx 3))
    have hd3 : Hid (w0.cell? ⟨w.heap.size + 1, 3, none⟩ = some (.slice a2 m cap2)) := Lib.hid (by rw [hw0, ← size_alloc w (.cells #[.int .u8 k, .string s, .int .i64 n, .slice a m cap] 24)]; exact cell_of hby 3)
    go_enter Try.func13, Try.ntmps13
    go_wp2_with fail
    rw [← hw0]
    obtain ⟨g', hg'⟩ : ∃ g', w.heap.size + 1 = g' := ⟨_, rfl⟩
    rw [hg'] at hd3 ⊢
    obtain ⟨g, hg⟩ : ∃ g, w.heap.size = g := ⟨_, rfl⟩
    rw [hg] at hc3 ⊢
    clear hw0 hbx hby hg' hg
    go_loopw [5] (fun i wr => ∃ q : Nat, q ≤ m ∧ i = .int .i64 q ∧ Hid (Fr No w0 wr) ∧ Hid (∀ (j : Nat) (s t : T), j < q → l[j]? = some s → l2[j]? = some t → same s t = true)) (fun i _ => m - (intOf i).toNat)
    case atStart => exact ⟨0, Nat.zero_le _, rfl, Lib.hid (Fr.refl _ _), Lib.hid (fun j s t h => absurd h (Nat.not_lt_zero _))⟩
    case round =>
      obtain ⟨q, hq, rfl, HF, HT⟩ := hrel
      have e3 := HF.out.cell hc3.out
      have e4 := HF.out.cell hd3.out
      by_cases hqm : q = m
      · go_wp2_with fail
        go_ret
        refine ⟨?_, HF0.out.then HF.out⟩
        rw [HE.out, sameL_all l l2 (by rw [HM.out, HM2.out]) (fun j s t h1 h2 => HT.out j s t (by rw [hqm, ← HM.out]; exact (List.getElem?_eq_some_iff.1 h1).1) h1 h2)]
        rfl
      · obtain ⟨t, ht⟩ : ∃ t, l[q]? = some t := ⟨_, List.getElem?_eq_getElem (by rw [HM.out]; omega)⟩
        obtain ⟨t2, ht2⟩ : ∃ t2, l2[q]? = some t2 := ⟨_, List.getElem?_eq_getElem (by rw [HM2.out]; omega)⟩
        have hrw := Row.keep (Stays.of_no (HF0.out.then HF.out)) (fun _ h => h) a 0 l HROW.out
        have hrw2 := Row.keep (Stays.of_no (HF0.out.then HF.out)) (fun _ h => h) a2 0 l2 HROW2.out
        obtain ⟨b, off, x0, x1, x2, x3, rfl, _, _, d0, d1, d2, d3, his⟩ := Row.at_ 0 l hrw q t ht
        obtain ⟨b2, off2, y0, y1, y2, y3, rfl, _, _, z0, z1, z2, z3, his2⟩ := Row.at_ 0 l2 hrw2 q t2 ht2
        rw [Nat.zero_add] at d0 d1 d2 d3 z0 z1 z2 z3
        have HC : Hid (∀ w', Fr No wr w' → Calls Try.prog 13 #[.agg #[x0, x1, x2, x3], .agg #[y0, y1, y2, y3]] w' (SaidT w' (same t t2))) := Lib.hid (fun w' hb => HI.out q t _ t2 _ w' ht ht2 (his.no hb) (his2.no hb))
        have HTK := Lib.hid (And.intro ht ht2)
        have k0 : (0 : Int) ≤ (q : Int) := by omega
        have k1 : (q : Int) < (m : Int) := by omega
        clear his his2 hrw hrw2 ht ht2
        go_wp2_with fail
        go_still_tail 10, (by kernel_rfl)
        go_wp2_with fail
        refine (HC.out _ (Fr.drew wr)).mono ?_
        rintro e w2 ⟨rfl, hf2⟩
        have HF2 := Lib.hid ((HF.out.then (Fr.drew wr)).then hf2)
        clear hf2
        cases hr : same t t2 with
        | true =>
          have HRT := Lib.hid hr
          clear hr
          go_wp2_with fail
          refine ⟨⟨q + 1, by omega, by go_num, HF2, Lib.hid fun j s' t' hj h1 h2 => ?_⟩, by simp [intOf]; omega⟩
          by_cases hjq : j < q
          · exact HT.out j s' t' hjq h1 h2
          · have e : j = q := by omega
            rw [e] at h1 h2
            obtain ⟨h3, h4⟩ := HTK.out
            rw [h3] at h1
            rw [h4] at h2
            injection h1 with h1
            injection h2 with h2
            rw [← h1, ← h2]
            exact HRT.out
        | false =>
          have HRT := Lib.hid hr
          clear hr
          go_wp2_with fail
          go_ret
          refine ⟨?_, HF0.out.then HF2.out⟩
          rw [HE.out, sameL_take l l2 q t t2 HTK.out.1 HTK.out.2 HRT.out]
          rfl
end Go.Proofs.Ytfjddfcndammdaa
