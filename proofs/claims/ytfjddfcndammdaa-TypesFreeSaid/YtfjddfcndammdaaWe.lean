/- How deep types are. -/
import Derived.Test.YtfjddfcndammdaaWd
namespace Go.Proofs.Ytfjddfcndammdaa
open Go.RowKit

def SaidI (w : World) (x : Int) (e : Ending) (w' : World) : Prop := e = .returned (.int .i64 x) ∧ Fr No w w'
theorem depthL_snoc : ∀ (l : List T) (t : T), depthL (l ++ [t]) = max (depthL l) (depthT t)
  | [], t => by simp [depthL]
  | x :: r, t => by simp [depthL, depthL_snoc r t, Nat.max_assoc]
mutual
theorem depthT_le : ∀ t : T, depthT t ≤ parts t
  | .mk _ _ _ l => by
    have := depthL_le l
    simp only [depthT, parts]
    omega
theorem depthL_le : ∀ l : List T, depthL l ≤ partsL l
  | [] => Nat.le_refl _
  | t :: r => by
    have h1 := depthT_le t
    have h2 := depthL_le r
    simp only [depthL, partsL]
    omega
end
theorem partsL_take : ∀ (l : List T) (k : Nat), partsL (l.take k) ≤ partsL l
  | [], k => by simp [partsL]
  | t :: r, 0 => by simp [partsL]
  | t :: r, k + 1 => by
    have := partsL_take r k
    simp only [List.take_succ_cons, partsL]
    omega
set_option maxHeartbeats 2000000 in
set_option maxRecDepth 100000 in
theorem rdeep_any : ∀ (f : Nat) (t : T), parts t ≤ f → f ≤ 1152921504606846976 → ∀ (B0 : Nat) (ok : Nat → Prop) (v : Value) (w : World), Is B0 ok w t v → Calls Try.prog 45 #[v] w (SaidI w (depthT t))
  | 0, t, h, _, _, _, _, _, _ => by have := parts_pos t; omega
  | f + 1, .mk k s n l, h, hf, B0, ok, v, w, hi => by
    simp only [Is] at hi
    obtain ⟨a, cap, rfl, hrow⟩ := hi
    obtain ⟨m, hm⟩ : ∃ m, l.length = m := ⟨_, rfl⟩
    rw [hm]
    have hml := partsL_len l
    simp only [parts] at h
    rw [hm] at hml
    have HI : Hid (∀ (j : Nat) (t : T) (v : Value) (w' : World), l[j]? = some t → Is B0 ok w' t v → Calls Try.prog 45 #[v] w' (SaidI w' (depthT t))) := Lib.hid (fun j t v w' hj his => by
      have hk := parts_kid l j t hj
      exact rdeep_any f t (by omega) (by omega) B0 ok v w' his)
    have HM := Lib.hid hm
    have HROW := Lib.hid hrow
    have hbx := new_block w (.cells #[.int .u8 k, .string s, .int .i64 n, .slice a m cap] 24)
    obtain ⟨w0, hw0⟩ : ∃ w0, w0 = w.alloc (.cells #[.int .u8 k, .string s, .int .i64 n, .slice a m cap] 24) := ⟨_, rfl⟩
    have HF0 : Hid (Fr No w w0) := Lib.hid (by rw [hw0]; exact Fr.alloc w _)
    have hc3 : Hid (w0.cell? ⟨w.heap.size, 3, none⟩ = some (.slice a m cap)) := Lib.hid (by rw [hw0]; exact cell_of hbx 3)
    clear hm hrow
    go_enter Try.func45, Try.ntmps45
    go_wp2_with fail
    rw [← hw0]
    obtain ⟨g, hg⟩ : ∃ g, w.heap.size = g := ⟨_, rfl⟩
    rw [hg] at hc3 ⊢
    clear hw0 hbx hg
    go_loopw [3, 4] (fun x i wr => ∃ q d : Nat, q ≤ m ∧ d ≤ f ∧ x = .int .i64 d ∧ i = .int .i64 q ∧ Hid (Fr No w0 wr) ∧ Hid (depthL (l.take q) = d)) (fun _ i _ => m - (intOf i).toNat)
    case atStart => exact ⟨0, 0, Nat.zero_le _, Nat.zero_le _, rfl, rfl, Lib.hid (Fr.refl _ _), Lib.hid rfl⟩
    case round =>
      obtain ⟨q, d, hq, hd, rfl, rfl, HF, HT⟩ := hrel
      have e3 := HF.out.cell hc3.out
      by_cases hqm : q = m
      · have HD : Hid (depthT (.mk k s n l) = d + 1) := Lib.hid (by
          have h := HT.out
          rw [hqm, ← HM.out, List.take_length] at h
          rw [depthT, h])
        go_wp2_with fail
        go_ret
        refine ⟨?_, HF0.out.then HF.out⟩
        rw [HD.out]
        rfl
      · obtain ⟨t, ht⟩ : ∃ t, l[q]? = some t := ⟨_, List.getElem?_eq_getElem (by rw [HM.out]; omega)⟩
        have hrw := Row.keep (Stays.of_no (HF0.out.then HF.out)) (fun _ h => h) a 0 l HROW.out
        obtain ⟨b, off, x0, x1, x2, x3, rfl, _, _, d0, d1, d2, d3, his⟩ := Row.at_ 0 l hrw q t ht
        rw [Nat.zero_add] at d0 d1 d2 d3
        have HC := Lib.hid (HI.out q t _ wr ht his)
        have hdt := Nat.le_trans (depthT_le t) (parts_kid l q t ht)
        obtain ⟨dt, hdt2⟩ : ∃ dt, depthT t = dt := ⟨_, rfl⟩
        rw [hdt2] at HC hdt
        have HTK := Lib.hid (And.intro ht hdt2)
        clear his hrw ht hdt2
        go_wp2_with fail
        refine HC.out.mono ?_
        rintro e w2 ⟨rfl, hf2⟩
        have HF2 := Lib.hid (HF.out.then hf2)
        clear hf2
        go_wp2_with fail
        have hmx : (if d < dt then (dt : Int) else (d : Int)) = ((max d dt : Nat) : Int) := by split <;> omega
        rw [hmx]
        refine ⟨⟨q + 1, max d dt, by omega, by omega, rfl, by go_num, HF2, Lib.hid ?_⟩, by simp [intOf]; omega⟩
        rw [take_snoc HTK.out.1, depthL_snoc, HT.out, HTK.out.2]
set_option maxHeartbeats 2000000 in
set_option maxRecDepth 100000 in
theorem depth_any : ∀ (f : Nat) (t : T), parts t ≤ f → f ≤ 1152921504606846976 → ∀ (B0 : Nat) (ok : Nat → Prop) (v : Value) (w : World), Is B0 ok w t v → Calls Try.prog 44 #[v] w (SaidI w (depthT t))
  | 0, t, h, _, _, _, _, _, _ => by have := parts_pos t; omega
  | f + 1, .mk k s n l, h, hf, B0, ok, v, w, hi => by
    simp only [Is] at hi
    obtain ⟨a, cap, rfl, hrow⟩ := hi
    obtain ⟨m, hm⟩ : ∃ m, l.length = m := ⟨_, rfl⟩
    rw [hm]
    have hml := partsL_len l
    simp only [parts] at h
    rw [hm] at hml
    have HI : Hid (∀ (j : Nat) (t : T) (v : Value) (w' : World), l[j]? = some t → Is B0 ok w' t v → Calls Try.prog 44 #[v] w' (SaidI w' (depthT t))) := Lib.hid (fun j t v w' hj his => by
      have hk := parts_kid l j t hj
      exact depth_any f t (by omega) (by omega) B0 ok v w' his)
    have HM := Lib.hid hm
    have HROW := Lib.hid hrow
    have hbx := new_block w (.cells #[.int .u8 k, .string s, .int .i64 n, .slice a m cap] 24)
    obtain ⟨w0, hw0⟩ : ∃ w0, w0 = w.alloc (.cells #[.int .u8 k, .string s, .int .i64 n, .slice a m cap] 24) := ⟨_, rfl⟩
    have HF0 : Hid (Fr No w w0) := Lib.hid (by rw [hw0]; exact Fr.alloc w _)
    have hc3 : Hid (w0.cell? ⟨w.heap.size, 3, none⟩ = some (.slice a m cap)) := Lib.hid (by rw [hw0]; exact cell_of hbx 3)
    clear hm hrow
    go_enter Try.func44, Try.ntmps44
    go_wp2_with fail
    rw [← hw0]
    obtain ⟨g, hg⟩ : ∃ g, w.heap.size = g := ⟨_, rfl⟩
    rw [hg] at hc3 ⊢
    clear hw0 hbx hg
    go_loopw [3, 9] (fun x i wr => ∃ q d : Nat, q ≤ m ∧ d ≤ f ∧ x = .int .i64 d ∧ i = .int .i64 q ∧ Hid (Fr No w0 wr) ∧ Hid (depthL (l.take q) = d)) (fun _ i _ => m - (intOf i).toNat)
    case atStart => exact ⟨0, 0, Nat.zero_le _, Nat.zero_le _, rfl, rfl, Lib.hid (Fr.refl _ _), Lib.hid rfl⟩
    case round =>
      obtain ⟨q, d, hq, hd, rfl, rfl, HF, HT⟩ := hrel
      have e3 := HF.out.cell hc3.out
      by_cases hqm : q = m
      · have HD : Hid (depthT (.mk k s n l) = d + 1) := Lib.hid (by
          have h := HT.out
          rw [hqm, ← HM.out, List.take_length] at h
          rw [depthT, h])
        go_wp2_with fail
        go_ret
        refine ⟨?_, HF0.out.then HF.out⟩
        rw [HD.out]
        rfl
      · obtain ⟨t, ht⟩ : ∃ t, l[q]? = some t := ⟨_, List.getElem?_eq_getElem (by rw [HM.out]; omega)⟩
        have hrw := Row.keep (Stays.of_no (HF0.out.then HF.out)) (fun _ h => h) a 0 l HROW.out
        obtain ⟨b, off, x0, x1, x2, x3, rfl, _, _, d0, d1, d2, d3, his⟩ := Row.at_ 0 l hrw q t ht
        rw [Nat.zero_add] at d0 d1 d2 d3
        have HC : Hid (∀ w', Fr No wr w' → Calls Try.prog 44 #[.agg #[x0, x1, x2, x3]] w' (SaidI w' (depthT t))) := Lib.hid (fun w' hb => HI.out q t _ w' ht (his.no hb))
        obtain ⟨k1, s1, n1, aa1, mm1, cc1, rfl, rfl, rfl, rfl⟩ := is_cells his
        have hdt := Nat.le_trans (depthT_le t) (parts_kid l q t ht)
        obtain ⟨dt, hdt2⟩ : ∃ dt, depthT t = dt := ⟨_, rfl⟩
        rw [hdt2] at HC hdt
        have HTK := Lib.hid (And.intro ht hdt2)
        clear his hrw ht hdt2
        go_wp2_with fail
        refine (HC.out _ (Fr.alloc wr _)).mono ?_
        rintro e w2 ⟨rfl, hf2⟩
        have HF2 := Lib.hid ((HF.out.then (Fr.alloc wr _)).then hf2)
        clear hf2
        go_wp2_with fail
        have hmx : (if d < dt then (dt : Int) else (d : Int)) = ((max d dt : Nat) : Int) := by split <;> omega
        rw [hmx]
        refine ⟨⟨q + 1, max d dt, by omega, by omega, rfl, by go_num, HF2, Lib.hid ?_⟩, by simp [intOf]; omega⟩
        rw [take_snoc HTK.out.1, depthL_snoc, HT.out, HTK.out.2]
def deepOf (t : T) : Int := if right t then (depthT t : Int) else 0
set_option maxHeartbeats 1000000 in
theorem Depth_any (t : T) (ht : parts t ≤ 1152921504606846976) (B0 : Nat) (ok : Nat → Prop) (v : Value) (w : World) (hi : Is B0 ok w t v) : Calls Try.prog 25 #[v] w (SaidI w (deepOf t)) := by
  have H1 := Lib.hid (fun w' (hb : Fr No w w') => right_any (parts t) t (Nat.le_refl _) ht B0 ok v w' (hi.no hb))
  have H2 := Lib.hid (fun w' (hb : Fr No w w') => depth_any (parts t) t (Nat.le_refl _) ht B0 ok v w' (hi.no hb))
  obtain ⟨x0, x1, x2, x3, rfl⟩ := is_agg hi
  obtain ⟨k1, s1, n1, aa1, mm1, cc1, rfl, rfl, rfl, rfl⟩ := is_cells hi
  obtain ⟨V, hV⟩ : ∃ V, deepOf t = V := ⟨_, rfl⟩
  rw [hV]
  have HV := Lib.hid hV
  clear hi hV
  have hbx := new_block w (.cells #[.int .u8 k1, .string s1, .int .i64 n1, .slice aa1 mm1 cc1] 24)
  have hc := fun (w' : World) (hf : Fr No (w.alloc (.cells #[.int .u8 k1, .string s1, .int .i64 n1, .slice aa1 mm1 cc1] 24)) w') => (show w'.cell? ⟨w.heap.size, 0, none⟩ = some (.int .u8 k1) ∧ w'.cell? ⟨w.heap.size, 1, none⟩ = some (.string s1) ∧ w'.cell? ⟨w.heap.size, 2, none⟩ = some (.int .i64 n1) ∧ w'.cell? ⟨w.heap.size, 3, none⟩ = some (.slice aa1 mm1 cc1) from ⟨hf.cell (cell_of hbx 0), hf.cell (cell_of hbx 1), hf.cell (cell_of hbx 2), hf.cell (cell_of hbx 3)⟩)
  have HC := Lib.hid hc
  clear hc hbx
  go_enter Try.func25, Try.ntmps25
  go_wp2_with fail
  refine (H1.out _ (Fr.alloc w _)).mono ?_
  rintro e w1 ⟨rfl, hf1⟩
  obtain ⟨c0, c1, c2, c3⟩ := HC.out w1 hf1
  have HF1 := Lib.hid ((Fr.alloc w _).then hf1)
  clear hf1
  cases hr : right t with
  | true =>
    have HRT := Lib.hid hr
    clear hr
    go_wp2_with fail
    refine (H2.out _ HF1.out).mono ?_
    rintro e w2 ⟨rfl, hf2⟩
    have HF2 := Lib.hid (HF1.out.then hf2)
    clear hf2
    go_wp2_with fail
    go_ret
    refine ⟨?_, HF2.out⟩
    rw [← HV.out, deepOf, HRT.out]
    rfl
  | false =>
    have HRT := Lib.hid hr
    clear hr
    go_wp2_with fail
    go_ret
    refine ⟨?_, HF1.out⟩
    rw [← HV.out, deepOf, HRT.out]
    rfl
set_option maxHeartbeats 1000000 in
theorem rDepth_any (t : T) (ht : parts t ≤ 1152921504606846976) (B0 : Nat) (ok : Nat → Prop) (v : Value) (w : World) (hi : Is B0 ok w t v) : Calls Try.prog 26 #[v] w (SaidI w (deepOf t)) := by
  have H1 := Lib.hid (fun w' (hb : Fr No w w') => rright_any (parts t) t (Nat.le_refl _) ht B0 ok v w' (hi.no hb))
  have H2 := Lib.hid (fun w' (hb : Fr No w w') => rdeep_any (parts t) t (Nat.le_refl _) ht B0 ok v w' (hi.no hb))
  obtain ⟨x0, x1, x2, x3, rfl⟩ := is_agg hi
  obtain ⟨k1, s1, n1, aa1, mm1, cc1, rfl, rfl, rfl, rfl⟩ := is_cells hi
  obtain ⟨V, hV⟩ : ∃ V, deepOf t = V := ⟨_, rfl⟩
  rw [hV]
  have HV := Lib.hid hV
  clear hi hV
  have hbx := new_block w (.cells #[.int .u8 k1, .string s1, .int .i64 n1, .slice aa1 mm1 cc1] 24)
  have hc := fun (w' : World) (hf : Fr No (w.alloc (.cells #[.int .u8 k1, .string s1, .int .i64 n1, .slice aa1 mm1 cc1] 24)) w') => (show w'.cell? ⟨w.heap.size, 0, none⟩ = some (.int .u8 k1) ∧ w'.cell? ⟨w.heap.size, 1, none⟩ = some (.string s1) ∧ w'.cell? ⟨w.heap.size, 2, none⟩ = some (.int .i64 n1) ∧ w'.cell? ⟨w.heap.size, 3, none⟩ = some (.slice aa1 mm1 cc1) from ⟨hf.cell (cell_of hbx 0), hf.cell (cell_of hbx 1), hf.cell (cell_of hbx 2), hf.cell (cell_of hbx 3)⟩)
  have HC := Lib.hid hc
  clear hc hbx
  go_enter Try.func26, Try.ntmps26
  go_wp2_with fail
  refine (H1.out _ (Fr.alloc w _)).mono ?_
  rintro e w1 ⟨rfl, hf1⟩
  obtain ⟨c0, c1, c2, c3⟩ := HC.out w1 hf1
  have HF1 := Lib.hid ((Fr.alloc w _).then hf1)
  clear hf1
  cases hr : right t with
  | true =>
    have HRT := Lib.hid hr
    clear hr
    go_wp2_with fail
    refine (H2.out _ HF1.out).mono ?_
    rintro e w2 ⟨rfl, hf2⟩
    have HF2 := Lib.hid (HF1.out.then hf2)
    clear hf2
    go_wp2_with fail
    go_ret
    refine ⟨?_, HF2.out⟩
    rw [← HV.out, deepOf, HRT.out]
    rfl
  | false =>
    have HRT := Lib.hid hr
    clear hr
    go_wp2_with fail
    go_ret
    refine ⟨?_, HF1.out⟩
    rw [← HV.out, deepOf, HRT.out]
    rfl
end Go.Proofs.Ytfjddfcndammdaa
