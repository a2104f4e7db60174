/- Does an unknown stand in a type; the method Free. -/
import Derived.Test.YtfjddfcndammdaaUnk
namespace Go.Proofs.Ytfjddfcndammdaa
open Go.RowKit

set_option maxHeartbeats 2000000 in
theorem stands_any (x : Int) : ∀ (f : Nat) (t : T), parts t ≤ f → f ≤ 1048576 → ∀ (B0 : Nat) (ok : Nat → Prop) (v : Value) (w : World), Is B0 ok w t v → Calls Try.prog 19 #[v, .int .i64 x] w (SaidT w (occ x t))
  | 0, t, h, _, _, _, _, _, _ => by have := parts_pos t; omega
  | f + 1, .mk k s n l, h, hf, B0, ok, v, w, hi => by
    simp only [Is] at hi
    obtain ⟨a, cap, rfl, hrow⟩ := hi
    obtain ⟨m, hm⟩ : ∃ m, l.length = m := ⟨_, rfl⟩
    rw [hm]
    have hml := partsL_len l
    simp only [parts] at h
    rw [hm] at hml
    have HI : Hid (∀ (j : Nat) (t : T) (v : Value) (w' : World), l[j]? = some t → Is B0 ok w' t v → Calls Try.prog 19 #[v, .int .i64 x] w' (SaidT w' (occ x t))) := Lib.hid (fun j t v w' hj his => by
      have hk := parts_kid l j t hj
      exact stands_any x f t (by omega) (by omega) B0 ok v w' his)
    have HM := Lib.hid hm
    have HROW := Lib.hid hrow
    obtain ⟨w0, hw0⟩ : ∃ w0, w0 = w.alloc (.cells #[.int .u8 k, .string s, .int .i64 n, .slice a m cap] 24) := ⟨_, rfl⟩
    have r0 : Hid (w0.heap[w.heap.size]? = some (.cells #[.int .u8 k, .string s, .int .i64 n, .slice a m cap] 24 (0, 0))) := Lib.hid (by rw [hw0]; exact new_block w _)
    have HF0 : Hid (Fr No w w0) := Lib.hid (by rw [hw0]; exact Fr.alloc w _)
    clear hm hrow
    go_enter Try.func19, Try.ntmps19
    go_upto_region 1 with fail
    rw [← hw0]
    obtain ⟨g, hg⟩ : ∃ g, w.heap.size = g := ⟨_, rfl⟩
    rw [hg] at r0 ⊢
    clear hw0 hg
    have c0 : w0.cell? ⟨g, 0, none⟩ = some (.int .u8 k) := cell_of r0.out 0
    by_cases hk : k = 1
    · have HE : Hid (occ x (.mk k s n l) = decide (n = x)) := Lib.hid (by rw [occ, if_pos hk])
      have hkb : ((k : Int) == 1) = true := by simp [hk]
      have c2 : w0.cell? ⟨g, 2, none⟩ = some (.int .i64 n) := cell_of r0.out 2
      clear hk
      go_wp2_with fail
      go_ret
      refine ⟨?_, HF0.out⟩
      rw [HE.out]
      show Ending.returned (.bool (n == x)) = _
      by_cases e : n = x <;> simp [e]
    · have HE : Hid (occ x (.mk k s n l) = occL x l) := Lib.hid (by rw [occ, if_neg hk])
      have hkb : ((k : Int) == 1) = false := by simp only [beq_eq_false_iff_ne, ne_eq]; omega
      clear hk
      go_wp2_with fail
      go_loopw [5] (fun i wr => ∃ q : Nat, q ≤ m ∧ i = .int .i64 q ∧ Hid (Fr No w0 wr) ∧ Hid (∀ j y, j < q → l[j]? = some y → occ x y = false)) (fun i _ => m - (intOf i).toNat)
      case atStart => exact ⟨0, Nat.zero_le _, rfl, Lib.hid (Fr.refl _ _), Lib.hid (fun j y hj => by omega)⟩
      case round =>
        obtain ⟨q, hq, rfl, HF, HT⟩ := hrel
        have e3 : wr.cell? ⟨g, 3, none⟩ = some (.slice a m cap) := HF.out.cell (cell_of r0.out 3)
        by_cases hqm : q = m
        · have HR : Hid (occL x l = false) := Lib.hid (by
            rw [occL_any]
            refine Bool.eq_false_iff.2 fun h => ?_
            obtain ⟨y, hy, hy2⟩ := List.any_eq_true.1 h
            obtain ⟨j, hj⟩ := List.getElem?_of_mem hy
            have := HT.out j y (by have := (List.getElem?_eq_some_iff.1 hj).1; have := HM.out; omega) hj
            rw [this] at hy2
            cases hy2)
          go_wp2_with fail
          go_ret
          refine ⟨?_, HF0.out.then HF.out⟩
          rw [HE.out, HR.out]
          rfl
        · obtain ⟨t, ht⟩ : ∃ t, l[q]? = some t := ⟨_, List.getElem?_eq_getElem (by rw [HM.out]; omega)⟩
          have hrw := Row.keep (Stays.of_no (HF0.out.then HF.out)) (fun _ h => h) a 0 l HROW.out
          obtain ⟨b, off, x0, x1, x2, x3, rfl, _, _, d0, d1, d2, d3, his⟩ := Row.at_ 0 l hrw q t ht
          rw [Nat.zero_add] at d0 d1 d2 d3
          have HC := Lib.hid (HI.out q t (.agg #[x0, x1, x2, x3]) wr ht his)
          obtain ⟨k1, s1, n1, aa1, mm1, cc1, rfl, rfl, rfl, rfl⟩ := is_cells his
          have HTK := Lib.hid ht
          have hltq : (q : Int) < (m : Int) := by omega
          clear his hrw ht
          go_wp2_with fail
          refine HC.out.mono ?_
          rintro e w2 ⟨rfl, hf2⟩
          have HF2 := Lib.hid (HF.out.then hf2)
          clear hf2
          cases ho : occ x t with
          | true =>
            have HR : Hid (occL x l = true) := Lib.hid (by
              rw [occL_any]
              exact List.any_eq_true.2 ⟨t, List.mem_of_getElem? HTK.out, ho⟩)
            clear ho
            go_wp2_with fail
            go_ret
            refine ⟨?_, HF0.out.then HF2.out⟩
            rw [HE.out, HR.out]
            rfl
          | false =>
            have HT2 : Hid (∀ j y, j < q + 1 → l[j]? = some y → occ x y = false) := Lib.hid (fun j y hj hy => by
              rcases Nat.lt_or_ge j q with h | h
              · exact HT.out j y h hy
              · rw [show j = q by omega, HTK.out] at hy
                simp only [Option.some.injEq] at hy
                rw [← hy]
                exact ho)
            clear ho
            go_wp2_with fail
            exact ⟨⟨q + 1, by omega, by go_num, HF2, HT2⟩, by simp [intOf]; omega⟩
/-- what Free comes to -/
def Freed (many : Nat) (l : Bs) (t : T) (ns : List Int) : Prop :=
  (may many t = false ∧ ns = []) ∨ (Good many t ∧ ∃ F x, ap l F t = some x ∧ ((greatT x = true ∧ ns = []) ∨ (greatT x = false ∧ parts x ≤ 1048576 ∧ ns = unkT x [])))
def FreeSaid (w : World) (ns : List Int) (e : Ending) (w' : World) : Prop := ∃ v', e = .returned v' ∧ Nums w.heap.size w' v' ns ∧ Fr No w w'
set_option maxHeartbeats 4000000 in
theorem Free_any (base N g many : Nat) (l : Bs) (hw : Fine many l) (t : T) (ns : List Int) (hpt : parts t ≤ 1048576) (hu : Freed many l t ns) (v : Value) (w : World) (hbk : BkR base w g many l N) (hN : N ≤ w.heap.size) (hi : IsT base w t v) :
    Calls Try.prog 18 #[.pointer (some ⟨g, 0, none⟩), v] w (FreeSaid w ns) := by
  have HM := Lib.hid (fun w' (hf : Fr No w w') => may_any g many base t hpt v w' (hi.no hf) (hf.cell hbk.cell0))
  have HU := Lib.hid hu
  have HX := Lib.hid (And.intro hbk hi)
  have HFI := Lib.hid hw
  obtain ⟨x0, x1, x2, x3, rfl⟩ := is_agg hi
  obtain ⟨k1, s1, n1, aa1, mm1, cc1, rfl, rfl, rfl, rfl⟩ := is_cells hi
  obtain ⟨w0, hw0⟩ : ∃ w0, w0 = w.alloc (.cells #[.int .u8 k1, .string s1, .int .i64 n1, .slice aa1 mm1 cc1] 24) := ⟨_, rfl⟩
  have r0 : Hid (w0.heap[w.heap.size]? = some (.cells #[.int .u8 k1, .string s1, .int .i64 n1, .slice aa1 mm1 cc1] 24 (0, 0))) := Lib.hid (by rw [hw0]; exact new_block w _)
  have HF0 : Hid (Fr No w w0) := Lib.hid (by rw [hw0]; exact Fr.alloc _ _)
  clear hi hbk hu hw
  go_enter Try.func18, Try.ntmps18
  go_upto_region 1 with fail
  rw [← hw0]
  obtain ⟨gt, hg⟩ : ∃ gt, w.heap.size = gt := ⟨_, rfl⟩
  rw [hg] at r0 ⊢
  have HSZ := Lib.hid hg
  clear hg hw0
  have HCS : Hid (∀ w', Fr No w0 w' → (w'.cell? ⟨gt, 0, none⟩ = some (.int .u8 k1) ∧ w'.cell? ⟨gt, 1, none⟩ = some (.string s1) ∧ w'.cell? ⟨gt, 2, none⟩ = some (.int .i64 n1) ∧ w'.cell? ⟨gt, 3, none⟩ = some (.slice aa1 mm1 cc1))) := Lib.hid (fun w' hf => ⟨cell_of (hf.keeps r0.out no_one) 0, cell_of (hf.keeps r0.out no_one) 1, cell_of (hf.keeps r0.out no_one) 2, cell_of (hf.keeps r0.out no_one) 3⟩)
  obtain ⟨p0, p1, p2, p3⟩ := HCS.out _ (Fr.refl No w0)
  go_wp2_with fail
  refine (HM.out _ HF0.out).mono ?_
  rintro e w1 ⟨rfl, hf1⟩
  have HF1 : Hid (Fr No w0 w1) := Lib.hid hf1
  clear p0 p1 p2 p3 hf1
  obtain ⟨p0, p1, p2, p3⟩ := HCS.out _ HF1.out
  cases hm : may many t with
  | false =>
    have hu := HU.out
    rcases hu with ⟨_, rfl⟩ | ⟨h, _⟩
    case inr => rw [may_good.2 h] at hm; cases hm
    clear hm HU
    go_wp2_with fail
    go_ret
    exact ⟨_, rfl, Nums.nil _ _, HF0.out.then HF1.out⟩
  | true =>
  rcases HU.out with ⟨hm', _⟩ | ⟨hgood, F, x, hx, hrest⟩
  · rw [hm'] at hm
    cases hm
  have HG := Lib.hid (great_any base N g many l HFI.out F t x hx hgood hpt _ w1 (HX.out.1.no (HF0.out.then HF1.out)) (Nat.le_trans hN (HF0.out.then HF1.out).size) (HX.out.2.no (HF0.out.then HF1.out)))
  have HA := Lib.hid (fun w' (hf : Fr No w w') => apply_any base N g many l HFI.out F t x hgood hpt hx (.agg #[.int .u8 k1, .string s1, .int .i64 n1, .slice aa1 mm1 cc1]) w' (HX.out.1.no hf) (HX.out.2.no hf))
  have HR := Lib.hid hrest
  clear hm hgood hx hrest HU HM
  go_wp2_with fail
  refine HG.out.mono ?_
  rintro e w2 ⟨rfl, hf2⟩
  have HF2 : Hid (Fr No w0 w2) := Lib.hid (HF1.out.then hf2)
  clear p0 p1 p2 p3 hf2
  obtain ⟨p0, p1, p2, p3⟩ := HCS.out _ HF2.out
  cases hgx : greatT x with
  | true =>
    have hr := HR.out
    rw [hgx] at hr
    rcases hr with ⟨_, rfl⟩ | ⟨h, _⟩
    case inr => cases h
    clear hgx HR
    go_wp2_with fail
    go_ret
    exact ⟨_, rfl, Nums.nil _ _, HF0.out.then HF2.out⟩
  | false =>
    have hr := HR.out
    rw [hgx] at hr
    rcases hr with ⟨h, _⟩ | ⟨_, hpx, rfl⟩
    case inl => cases h
    clear hgx HR
    go_wp2_with fail
    refine (HA.out _ (HF0.out.then HF2.out)).mono ?_
    rintro e w3 ⟨v3, rfl, his3, hf3⟩
    have HIS3 := Lib.hid his3
    have HF3 : Hid (Fr No w0 w3) := Lib.hid (HF2.out.then hf3)
    clear his3 hf3 p0 p1 p2 p3
    go_wp2_with fail
    refine (unk_any gt (parts x) x (Nat.le_refl _) hpx [] (by simp; omega) _ _ w3 (IsT.of0 HIS3.out) (Nums.nil _ _) (by rw [← HSZ.out]; exact (HF0.out.then HF3.out).size)).mono ?_
    rintro e w4 ⟨v4, rfl, hn4, hf4⟩
    have HN4 := Lib.hid hn4
    have HF4 : Hid (Fr No w w4) := Lib.hid ((HF0.out.then HF3.out).own hf4 (fun i h => by rw [HSZ.out]; exact h.1))
    clear hn4 hf4
    go_wp2_with fail
    go_ret
    exact ⟨_, rfl, by rw [HSZ.out]; exact HN4.out, HF4.out⟩
end Go.Proofs.Ytfjddfcndammdaa
