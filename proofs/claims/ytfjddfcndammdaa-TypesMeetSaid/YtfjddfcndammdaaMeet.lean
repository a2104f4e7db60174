/- The law TypesMeet: the walk. -/
import Derived.Test.YtfjddfcndammdaaBooks
import Derived.Test.YtfjddfcndammdaaMgr
import Derived.Test.YtfjddfcndammdaaVast
import Derived.Deep.CutRange
namespace Go.Proofs.Ytfjddfcndammdaa
open Go.RowKit

set_option maxHeartbeats 8000000 in
set_option maxRecDepth 100000 in
theorem meet_any (n : Nat) (hn : n < 256) (s : T) (hss : Short s) (t : T) (hst : Short t) (l : List T) (hsl : ShortL l) (m : Nat) (hml : l.length = m) (a : Option Addr) (cap : Nat) (vs vt : Value) (w : World) (his : IsT w.heap.size w s vs) (hit : IsT w.heap.size w t vt) (hrow : Row w.heap.size (fun _ => True) w a 0 l) :
    Calls Try.prog 3 #[.int .u8 n, vs, vt, .slice a m cap] w (SaidT w true) := by
  have HSV := Lib.hid (fun w' (hf : Fr No w w') => vast_any w.heap.size s hss vs w' hf.size (his.no hf))
  have HTV := Lib.hid (fun w' (hf : Fr No w w') => vast_any w.heap.size t hst vt w' hf.size (hit.no hf))
  have HLV := Lib.hid (fun (j : Nat) (x : T) (hx : l[j]? = some x) v w' (hf : Fr No w w') (hi : IsT w.heap.size w' x v) => vast_any w.heap.size x (shortL_at l hsl j x hx) v w' hf.size hi)
  have HROW := Lib.hid (fun w' (hf : Fr No w w') => Row.keep (Stays.of_no hf) (fun _ h => h) a 0 l hrow)
  have HM := Lib.hid hml
  obtain ⟨x0, x1, x2, x3, rfl⟩ := is_agg his
  obtain ⟨k1, s1, n1, aa1, mm1, cc1, rfl, rfl, rfl, rfl⟩ := is_cells his
  obtain ⟨x0, x1, x2, x3, rfl⟩ := is_agg hit
  obtain ⟨k2, s2, n2, aa2, mm2, cc2, rfl, rfl, rfl, rfl⟩ := is_cells hit
  have HIS := Lib.hid (fun B w' (hB : w.heap.size ≤ B) (hf : Fr No w w') => is_base hB s _ (his.no hf))
  have HIT := Lib.hid (fun B w' (hB : w.heap.size ≤ B) (hf : Fr No w w') => is_base hB t _ (hit.no hf))
  obtain ⟨w0, hw0⟩ : ∃ w0, w0 = (w.alloc (.cells #[.int .u8 k1, .string s1, .int .i64 n1, .slice aa1 mm1 cc1] 24)).alloc (.cells #[.int .u8 k2, .string s2, .int .i64 n2, .slice aa2 mm2 cc2] 24) := ⟨_, rfl⟩
  have hR0 : w0.heap[w.heap.size]? = some (.cells #[.int .u8 k1, .string s1, .int .i64 n1, .slice aa1 mm1 cc1] 24 (0, 0)) := by rw [hw0]; exact keep_alloc (new_block w _) _
  have hR1 : w0.heap[w.heap.size + 1]? = some (.cells #[.int .u8 k2, .string s2, .int .i64 n2, .slice aa2 mm2 cc2] 24 (0, 0)) := by
    have h := new_block (w.alloc (.cells #[.int .u8 k1, .string s1, .int .i64 n1, .slice aa1 mm1 cc1] 24)) (.cells #[.int .u8 k2, .string s2, .int .i64 n2, .slice aa2 mm2 cc2] 24)
    rw [size_alloc] at h
    rw [hw0]
    exact h
  have HF0 : Hid (Fr No w w0) := Lib.hid (by rw [hw0]; exact (Fr.alloc _ _).then (Fr.alloc _ _))
  clear his hit hrow hss hst hsl
  go_enter Try.func3, Try.ntmps3
  go_upto_region 1 with fail
  rw [← hw0]
  obtain ⟨gs, hgs⟩ : ∃ gs, w.heap.size = gs := ⟨_, rfl⟩
  obtain ⟨gt, hgt⟩ : ∃ gt, gs + 1 = gt := ⟨_, rfl⟩
  have HGS := Lib.hid hgs
  rw [hgs] at hR0 hR1 ⊢
  rw [hgt] at hR1 ⊢
  have HCS : Hid (∀ w', Fr No w0 w' → (w'.cell? ⟨gs, 0, none⟩ = some (.int .u8 k1) ∧ w'.cell? ⟨gs, 1, none⟩ = some (.string s1) ∧ w'.cell? ⟨gs, 2, none⟩ = some (.int .i64 n1) ∧ w'.cell? ⟨gs, 3, none⟩ = some (.slice aa1 mm1 cc1))) := Lib.hid (fun w' hf => ⟨cell_of (hf.keeps hR0 no_one) 0, cell_of (hf.keeps hR0 no_one) 1, cell_of (hf.keeps hR0 no_one) 2, cell_of (hf.keeps hR0 no_one) 3⟩)
  have HCT : Hid (∀ w', Fr No w0 w' → (w'.cell? ⟨gt, 0, none⟩ = some (.int .u8 k2) ∧ w'.cell? ⟨gt, 1, none⟩ = some (.string s2) ∧ w'.cell? ⟨gt, 2, none⟩ = some (.int .i64 n2) ∧ w'.cell? ⟨gt, 3, none⟩ = some (.slice aa2 mm2 cc2))) := Lib.hid (fun w' hf => ⟨cell_of (hf.keeps hR1 no_one) 0, cell_of (hf.keeps hR1 no_one) 1, cell_of (hf.keeps hR1 no_one) 2, cell_of (hf.keeps hR1 no_one) 3⟩)
  clear hw0 hgs hgt hR0 hR1
  obtain ⟨c0, c1, c2, c3⟩ := HCS.out _ (Fr.refl No w0)
  go_wp2_with fail
  refine (HSV.out _ HF0.out).mono ?_
  rintro e w1 ⟨rfl, hf1⟩
  have HF1 : Hid (Fr No w0 w1) := Lib.hid hf1
  clear hf1 c0 c1 c2 c3
  obtain ⟨d0, d1, d2, d3⟩ := HCT.out _ HF1.out
  cases hvs : vast s with
  | true =>
    clear hvs
    go_wp2_with fail
    refine (works_any _).mono ?_
    rintro e w9 ⟨rfl, hf9⟩
    go_wp2_with fail
    go_ret
    exact ⟨rfl, (HF0.out.then HF1.out).then hf9⟩
  | false =>
  have HVS := Lib.hid hvs
  clear hvs
  go_wp2_with fail
  refine (HTV.out _ (HF0.out.then HF1.out)).mono ?_
  rintro e w2 ⟨rfl, hf2⟩
  have HF2 : Hid (Fr No w0 w2) := Lib.hid (HF1.out.then hf2)
  clear hf2 d0 d1 d2 d3
  cases hvt : vast t with
  | true =>
    clear hvt
    go_wp2_with fail
    refine (works_any _).mono ?_
    rintro e w9 ⟨rfl, hf9⟩
    go_wp2_with fail
    go_ret
    exact ⟨rfl, (HF0.out.then HF2.out).then hf9⟩
  | false =>
  have HVT := Lib.hid hvt
  clear hvt
  by_cases hlen : (12 : Int) < (m : Int)
  · go_wp2_with fail
    refine (works_any _).mono ?_
    rintro e w9 ⟨rfl, hf9⟩
    go_wp2_with fail
    go_ret
    exact ⟨rfl, (HF0.out.then HF2.out).then hf9⟩
  go_wp2_with fail
  go_loopw [9] (fun i wr => ∃ q : Nat, q ≤ m ∧ i = .int .i64 q ∧ Hid (Fr No w0 wr) ∧ Hid (∀ j x, j < q → l[j]? = some x → vast x = false)) (fun i _ => m - (intOf i).toNat)
  case atStart => exact ⟨0, Nat.zero_le _, rfl, HF2, Lib.hid (fun j x hj => by omega)⟩
  case round =>
    obtain ⟨q, hq, rfl, HF, HVL⟩ := hrel
    by_cases hqm : q = m
    · subst hqm
      have HVA : Hid (∀ x ∈ l, vast x = false) := Lib.hid (fun x hx => by
        obtain ⟨j, hj⟩ := List.getElem?_of_mem hx
        exact HVL.out j x (by have := (List.getElem?_eq_some_iff.1 hj).1; have := HM.out; omega) hj)
      go_wp2_with fail
      refine (books_any n (n % 12) rfl hn _).mono ?_
      rintro e w4 ⟨g, gr, rfl, hbk, hf4⟩
      obtain ⟨bs, hbs⟩ : ∃ bs, wr.heap.size = bs := ⟨_, rfl⟩
      obtain ⟨many, hmany⟩ : ∃ many, n % 12 = many := ⟨_, rfl⟩
      rw [hbs, hmany] at hbk
      have hm12 : many < 12 := by omega
      have HMANY := Lib.hid hmany
      have HB4 := Lib.hid hbk
      have HF4 : Hid (Fr No w0 w4) := Lib.hid (HF.out.then hf4)
      have HBS : Hid (w.heap.size ≤ bs ∧ w0.heap.size ≤ bs) := Lib.hid (by have := HF0.out.size; have := HF.out.size; omega)
      have HSM : Hid ((parts s ≤ 400 ∧ depthT s ≤ 60) ∧ (parts t ≤ 400 ∧ depthT t ≤ 60)) := Lib.hid ⟨vast_small HVS.out, vast_small HVT.out⟩
      have HLP : Hid (∀ x ∈ l, parts x ≤ 400) := Lib.hid (fun x hx => (vast_small (HVA.out x hx)).1)
      have HIA : Hid (∀ w', Fr No w0 w' → IsT bs w' s (.agg #[.int .u8 k1, .string s1, .int .i64 n1, .slice aa1 mm1 cc1]) ∧ IsT bs w' t (.agg #[.int .u8 k2, .string s2, .int .i64 n2, .slice aa2 mm2 cc2])) := Lib.hid (fun w' hf => ⟨HIS.out bs w' HBS.out.1 (HF0.out.then hf), HIT.out bs w' HBS.out.1 (HF0.out.then hf)⟩)
      have HRA : Hid (∀ w', Fr No w0 w' → Row bs (fun _ => True) w' a 0 l) := Lib.hid (fun w' hf => row_base HBS.out.1 a 0 l (HROW.out w' (HF0.out.then hf)))
      obtain ⟨e, l', hU, hBd, hne⟩ := unif_ex (bd_nil (many := many) (by omega)) (s := s) (t := t) (by have := HSM.out.1.1; omega) (by have := HSM.out.2.1; omega)
      have HU := Lib.hid hU
      have HBD := Lib.hid hBd
      have HNE := Lib.hid hne
      clear hbk hf4 hbs hmany hU hBd hne
      obtain ⟨c0, c1, c2, c3⟩ := HCS.out _ HF4.out
      obtain ⟨d0, d1, d2, d3⟩ := HCT.out _ HF4.out
      go_wp2_with fail
      refine (Unify_any bs g many [] l' (wfB_nil (by omega)) s t (by have := HSM.out.1.1; omega) (by have := HSM.out.2.1; omega) e HU.out _ _ w4 HB4.out (HIA.out _ HF4.out).1 (HIA.out _ HF4.out).2).mono ?_
      rintro e' w5 ⟨rfl, hb5, hf5⟩
      have HB5 := Lib.hid hb5
      have HF5 : Hid (Fr No w0 w5) := Lib.hid (HF4.out.own hf5 (fun i h => Nat.le_trans HBS.out.2 h.1))
      clear hb5 hf5 c0 c1 c2 c3 d0 d1 d2 d3
      by_cases he : e = 0
      · subst he
        obtain ⟨⟨u, hup, hau, hbu⟩, hv1, hv2⟩ := meet_ok (many := many) (by omega) (by have := HSM.out.1.1; omega) (by have := HSM.out.2.1; omega) HU.out
        have HMO := Lib.hid (And.intro (And.intro hup (And.intro hau hbu)) (And.intro hv1 hv2))
        clear hup hau hbu hv1 hv2
        go_wp2_with fail
        refine (markN bs g many l' HBD.out _ HB5.out).mono ?_
        rintro e' w6 ⟨rfl, hf6⟩
        have HB6 := Lib.hid (HB5.out.no hf6)
        have HF6 := Lib.hid (HF5.out.then hf6)
        clear hf6
        go_upto_region 17 with fail
        refine region_e (fun w' => (w'.cell? ⟨gs, 0, none⟩ = some (.int .u8 k1) ∧ w'.cell? ⟨gs, 1, none⟩ = some (.string s1) ∧ w'.cell? ⟨gs, 2, none⟩ = some (.int .i64 n1) ∧ w'.cell? ⟨gs, 3, none⟩ = some (.slice aa1 mm1 cc1)) ∧ (w'.cell? ⟨gt, 0, none⟩ = some (.int .u8 k2) ∧ w'.cell? ⟨gt, 1, none⟩ = some (.string s2) ∧ w'.cell? ⟨gt, 2, none⟩ = some (.int .i64 n2) ∧ w'.cell? ⟨gt, 3, none⟩ = some (.slice aa2 mm2 cc2))) [] (by kernel_rfl) ?_ (fun hHeld => ?_)
        · exact ⟨HCS.out _ (HF6.out.then (Fr.drew _)), HCT.out _ (HF6.out.then (Fr.drew _))⟩
        refine take_op 0 (some 82) (Op.move ( .tmp 10)) 27 ?_ (by kernel_rfl) (by kernel_rfl) (by kernel_rfl) (fun _ _ _ h => h) ?_ (by assumption) ?_
        rotate_left
        · intro w hSw; (try dsimp only at hSw); go_simp; (try (with_reducible rfl))
        try simp only [Act.put, List.setIfInBounds_toArray, List.set_cons_zero, List.set_cons_succ]
        refine take_op 1 (some 83) (Op.load 24 ( .tmp 5)) 24 ?_ (by kernel_rfl) (by kernel_rfl) (by kernel_rfl) (fun _ _ _ h => h) ?_ (by assumption) ?_
        rotate_left
        · intro w hSw; (try dsimp only at hSw); go_simp; (try (with_reducible rfl))
        try simp only [Act.put, List.setIfInBounds_toArray, List.set_cons_zero, List.set_cons_succ]
        refine take_op 3 (some 85) (Op.move ( .tmp 10)) 27 ?_ (by kernel_rfl) (by kernel_rfl) (by kernel_rfl) (fun _ _ _ h => h) ?_ (by assumption) ?_
        rotate_left
        · intro w hSw; (try dsimp only at hSw); go_simp; (try (with_reducible rfl))
        try simp only [Act.put, List.setIfInBounds_toArray, List.set_cons_zero, List.set_cons_succ]
        refine take_op 4 (some 86) (Op.load 24 ( .tmp 6)) 24 ?_ (by kernel_rfl) (by kernel_rfl) (by kernel_rfl) (fun _ _ _ h => h) ?_ (by assumption) ?_
        rotate_left
        · intro w hSw; (try dsimp only at hSw); go_simp; (try (with_reducible rfl))
        try simp only [Act.put, List.setIfInBounds_toArray, List.set_cons_zero, List.set_cons_succ]
        refine ready_e (rs := [2]) (by kernel_rfl) (by simp) ?_
        refine do_mid (o := _) rfl (fun K hK => ?_) none_e -- slot 84 F14
        go_simp
        go_at_call 14
        refine (Apply_any bs _ g many l' HBD.out.wf.fine s u (by have := HSM.out.1.1; omega) HMO.out.1.2.1 _ _ (HB6.out.no (Fr.drew _)).reads (Nat.le_refl _) (HIA.out _ (HF6.out.then (Fr.drew _))).1).mono ?_
        rintro e' wb ⟨v1, rfl, hi1, hfb⟩
        obtain ⟨x0, x1, x2, x3, rfl⟩ := is_agg hi1
        obtain ⟨kk5, ss5, nn5, ab5, mb5, cb5, rfl, rfl, rfl, rfl⟩ := is_cells hi1
        have HI5 := Lib.hid hi1
        have HGB : Hid (Fr No w6 wb) := Lib.hid ((Fr.drew w6).then hfb)
        clear hi1 hfb
        refine hK.out _ _ ?_ (fun hHeld => ?_)
        · exact ⟨HCS.out _ (HF6.out.then HGB.out), HCT.out _ (HF6.out.then HGB.out)⟩
        clear hK K
        try dsimp only
        try simp only [Act.put, List.setIfInBounds_toArray, List.set_cons_zero, List.set_cons_succ]
        refine ready_e (rs := [5]) (by kernel_rfl) (by simp) ?_
        refine do_mid (o := _) rfl (fun K hK => ?_) none_e -- slot 87 F14
        go_simp
        go_at_call 14
        refine (Apply_any bs _ g many l' HBD.out.wf.fine t u (by have := HSM.out.2.1; omega) HMO.out.1.2.2 _ _ (HB6.out.no HGB.out).reads (Nat.le_refl _) (HIA.out _ (HF6.out.then HGB.out)).2).mono ?_
        rintro e' wc ⟨v2, rfl, hi2, hfc⟩
        obtain ⟨x0, x1, x2, x3, rfl⟩ := is_agg hi2
        obtain ⟨kk6, ss6, nn6, ab6, mb6, cb6, rfl, rfl, rfl, rfl⟩ := is_cells hi2
        have HI6 := Lib.hid hi2
        have HI7 := Lib.hid (HI5.out.no hfc)
        have HGC := Lib.hid (HGB.out.then hfc)
        clear hi2 hfc
        refine hK.out _ _ ?_ (fun hHeld => ?_)
        · exact ⟨HCS.out _ (HF6.out.then HGC.out), HCT.out _ (HF6.out.then HGC.out)⟩
        clear hK K
        try dsimp only
        try simp only [Act.put, List.setIfInBounds_toArray, List.set_cons_zero, List.set_cons_succ]
        refine ready_e (rs := [6]) (by kernel_rfl) (by simp) ?_
        refine do_mid (o := _) rfl (fun K hK => ?_) none_e -- slot 88 F13
        go_simp
        go_at_call 13
        refine (rsame_ok u u HMO.out.1.1 HMO.out.1.1 _ _ _ _ _ _ _ HI7.out HI6.out).mono ?_
        rintro e' wd ⟨rfl, hfd⟩
        have HGD := Lib.hid (HGC.out.then hfd)
        have HSS := Lib.hid (same_self u)
        rw [HSS.out]
        clear hfd
        refine hK.out _ _ ?_ (fun hHeld => ?_)
        · exact ⟨HCS.out _ (HF6.out.then HGD.out), HCT.out _ (HF6.out.then HGD.out)⟩
        clear hK K
        try dsimp only
        try simp only [Act.put, List.setIfInBounds_toArray, List.set_cons_zero, List.set_cons_succ]
        refine take_op 7 (some 89) (Op.unOp UnOp.not 4 ( .tmp 88)) 4 ?_ (by kernel_rfl) (by kernel_rfl) (by kernel_rfl) (fun _ _ _ h => h) ?_ (by assumption) ?_
        rotate_left
        · intro w hSw; (try dsimp only at hSw); go_simp; (try (with_reducible rfl))
        try simp only [Act.put, List.setIfInBounds_toArray, List.set_cons_zero, List.set_cons_succ]
        refine take_op 8 (some 90) (Op.move ( .tmp 89)) 4 ?_ (by kernel_rfl) (by kernel_rfl) (by kernel_rfl) (fun _ _ _ h => h) ?_ (by assumption) ?_
        rotate_left
        · intro w hSw; (try dsimp only at hSw); go_simp; (try (with_reducible rfl))
        try simp only [Act.put, List.setIfInBounds_toArray, List.set_cons_zero, List.set_cons_succ]
        refine take_op 9 (some 91) (Op.move ( .tmp 10)) 27 ?_ (by kernel_rfl) (by kernel_rfl) (by kernel_rfl) (fun _ _ _ h => h) ?_ (by assumption) ?_
        rotate_left
        · intro w hSw; (try dsimp only at hSw); go_simp; (try (with_reducible rfl))
        try simp only [Act.put, List.setIfInBounds_toArray, List.set_cons_zero, List.set_cons_succ]
        refine take_op 10 (some 92) (Op.load 24 ( .tmp 5)) 24 ?_ (by kernel_rfl) (by kernel_rfl) (by kernel_rfl) (fun _ _ _ h => h) ?_ (by assumption) ?_
        rotate_left
        · intro w hSw; (try dsimp only at hSw); go_simp; (try (with_reducible rfl))
        try simp only [Act.put, List.setIfInBounds_toArray, List.set_cons_zero, List.set_cons_succ]
        refine take_op 11 (some 93) (Op.load 24 ( .tmp 6)) 24 ?_ (by kernel_rfl) (by kernel_rfl) (by kernel_rfl) (fun _ _ _ h => h) ?_ (by assumption) ?_
        rotate_left
        · intro w hSw; (try dsimp only at hSw); go_simp; (try (with_reducible rfl))
        try simp only [Act.put, List.setIfInBounds_toArray, List.set_cons_zero, List.set_cons_succ]
        refine ready_e (rs := [12]) (by kernel_rfl) (by simp) ?_
        refine do_mid (o := _) rfl (fun K hK => ?_) none_e -- slot 94 F11
        go_simp
        go_at_call 11
        refine (Unify_any bs g many l' l' HBD.out.wf s t (by have := HSM.out.1.1; omega) (by have := HSM.out.2.1; omega) 0 HMO.out.2.1 _ _ _ (HB6.out.no HGD.out) (HIA.out _ (HF6.out.then HGD.out)).1 (HIA.out _ (HF6.out.then HGD.out)).2).mono ?_
        rintro e' we ⟨rfl, hb7, hf7⟩
        have HB7 := Lib.hid hb7
        have HF7 : Hid (Fr No w0 we) := Lib.hid ((HF6.out.then HGD.out).own hf7 (fun i h => Nat.le_trans HBS.out.2 h.1))
        clear hb7 hf7
        refine hK.out _ _ ?_ (fun hHeld => ?_)
        · exact ⟨HCS.out _ HF7.out, HCT.out _ HF7.out⟩
        clear hK K
        try dsimp only
        try simp only [Act.put, List.setIfInBounds_toArray, List.set_cons_zero, List.set_cons_succ]
        refine take_op 13 (some 95) (Op.binOp BinOp.neq 31 ( .tmp 94) ( .const (.int .i64 0)) 31) 4 ?_ (by kernel_rfl) (by kernel_rfl) (by kernel_rfl) (fun _ _ _ h => h) ?_ (by assumption) ?_
        rotate_left
        · intro w hSw; (try dsimp only at hSw); go_simp; (try (with_reducible rfl))
        try simp only [Act.put, List.setIfInBounds_toArray, List.set_cons_zero, List.set_cons_succ]
        refine take_op 14 (some 96) (Op.pick ( .tmp 90) ( .const (Value.bool true)) ( .tmp 95)) 4 ?_ (by kernel_rfl) (by kernel_rfl) (by kernel_rfl) (fun _ _ _ h => h) ?_ (by assumption) ?_
        rotate_left
        · intro w hSw; (try dsimp only at hSw); go_simp; (try (with_reducible rfl))
        try simp only [Act.put, List.setIfInBounds_toArray, List.set_cons_zero, List.set_cons_succ]
        refine take_op 15 (some 97) (Op.move ( .tmp 96)) 4 ?_ (by kernel_rfl) (by kernel_rfl) (by kernel_rfl) (fun _ _ _ h => h) ?_ (by assumption) ?_
        rotate_left
        · intro w hSw; (try dsimp only at hSw); go_simp; (try (with_reducible rfl))
        try simp only [Act.put, List.setIfInBounds_toArray, List.set_cons_zero, List.set_cons_succ]
        refine take_op 16 (some 98) (Op.move ( .tmp 10)) 27 ?_ (by kernel_rfl) (by kernel_rfl) (by kernel_rfl) (fun _ _ _ h => h) ?_ (by assumption) ?_
        rotate_left
        · intro w hSw; (try dsimp only at hSw); go_simp; (try (with_reducible rfl))
        try simp only [Act.put, List.setIfInBounds_toArray, List.set_cons_zero, List.set_cons_succ]
        refine take_op 18 (some 100) (Op.move ( .tmp 13)) 3 ?_ (by kernel_rfl) (by kernel_rfl) (by kernel_rfl) (fun _ _ _ h => h) ?_ (by assumption) ?_
        rotate_left
        · intro w hSw; (try dsimp only at hSw); go_simp; (try (with_reducible rfl))
        try simp only [Act.put, List.setIfInBounds_toArray, List.set_cons_zero, List.set_cons_succ]
        refine ready_e (rs := [17]) (by kernel_rfl) (by simp) ?_
        refine do_mid (o := _) rfl (fun K hK => ?_) none_e -- slot 99 F12
        go_simp
        go_at_call 12
        refine (markN bs g many l' HBD.out _ HB7.out).mono ?_
        rintro e' wf ⟨rfl, hff⟩
        have HB8 := Lib.hid (HB7.out.no hff)
        have HF8 := Lib.hid (HF7.out.then hff)
        clear hff
        refine hK.out _ _ ?_ (fun hHeld => ?_)
        · exact ⟨HCS.out _ HF8.out, HCT.out _ HF8.out⟩
        clear hK K
        try dsimp only
        try simp only [Act.put, List.setIfInBounds_toArray, List.set_cons_zero, List.set_cons_succ]
        refine take_op 19 (some 101) (Op.binOp BinOp.neq 3 ( .tmp 99) ( .tmp 100) 3) 4 ?_ (by kernel_rfl) (by kernel_rfl) (by kernel_rfl) (fun _ _ _ h => h) ?_ (by assumption) ?_
        rotate_left
        · intro w hSw; (try dsimp only at hSw); go_simp; (try (with_reducible rfl))
        try simp only [Act.put, List.setIfInBounds_toArray, List.set_cons_zero, List.set_cons_succ]
        refine take_op 20 (some 102) (Op.pick ( .tmp 97) ( .const (Value.bool true)) ( .tmp 101)) 4 ?_ (by kernel_rfl) (by kernel_rfl) (by kernel_rfl) (fun _ _ _ h => h) ?_ (by assumption) ?_
        rotate_left
        · intro w hSw; (try dsimp only at hSw); go_simp; (try (with_reducible rfl))
        try simp only [Act.put, List.setIfInBounds_toArray, List.set_cons_zero, List.set_cons_succ]
        refine done_e (by kernel_rfl) ?_ _
        obtain ⟨c0, c1, c2, c3⟩ := HCS.out _ HF8.out
        obtain ⟨d0, d1, d2, d3⟩ := HCT.out _ HF8.out
        go_wp2_with fail
        refine (Unify_any bs g many l' l' HBD.out.wf t s (by have := HSM.out.2.1; omega) (by have := HSM.out.1.1; omega) 0 HMO.out.2.2 _ _ _ HB8.out (HIA.out _ HF8.out).2 (HIA.out _ HF8.out).1).mono ?_
        rintro e' wg ⟨rfl, hb9, hf9⟩
        have HB9 := Lib.hid hb9
        have HF9 : Hid (Fr No w0 wg) := Lib.hid (HF8.out.own hf9 (fun i h => Nat.le_trans HBS.out.2 h.1))
        clear hb9 hf9 c0 c1 c2 c3 d0 d1 d2 d3
        go_wp2_with fail
        refine (markN bs g many l' HBD.out _ HB9.out).mono ?_
        rintro e' wh ⟨rfl, hfh⟩
        have HF10 := Lib.hid (HF9.out.then hfh)
        clear hfh
        go_wp2_with fail
        refine (works_any _).mono ?_
        rintro e w9 ⟨rfl, hf9⟩
        go_wp2_with fail
        go_ret
        exact ⟨rfl, (HF0.out.then HF10.out).then hf9⟩
      · have hl' : l' = [] := HNE.out he
        subst hl'
        go_upto_region 11 with fail
        refine region_e (fun w' => (w'.cell? ⟨gs, 0, none⟩ = some (.int .u8 k1) ∧ w'.cell? ⟨gs, 1, none⟩ = some (.string s1) ∧ w'.cell? ⟨gs, 2, none⟩ = some (.int .i64 n1) ∧ w'.cell? ⟨gs, 3, none⟩ = some (.slice aa1 mm1 cc1)) ∧ (w'.cell? ⟨gt, 0, none⟩ = some (.int .u8 k2) ∧ w'.cell? ⟨gt, 1, none⟩ = some (.string s2) ∧ w'.cell? ⟨gt, 2, none⟩ = some (.int .i64 n2) ∧ w'.cell? ⟨gt, 3, none⟩ = some (.slice aa2 mm2 cc2))) [] (by kernel_rfl) ?_ (fun hHeld => ?_)
        · exact ⟨HCS.out _ (HF5.out.then (Fr.drew _)), HCT.out _ (HF5.out.then (Fr.drew _))⟩
        refine take_op 0 (some 49) (Op.move ( .tmp 10)) 27 ?_ (by kernel_rfl) (by kernel_rfl) (by kernel_rfl) (fun _ _ _ h => h) ?_ (by assumption) ?_
        rotate_left
        · intro w hSw; (try dsimp only at hSw); go_simp; (try (with_reducible rfl))
        try simp only [Act.put, List.setIfInBounds_toArray, List.set_cons_zero, List.set_cons_succ]
        refine ready_e (rs := [1]) (by kernel_rfl) (by simp) ?_
        refine do_mid (o := _) rfl (fun K hK => ?_) none_e -- slot 50 F12
        go_simp
        go_at_call 12
        refine (mark0 bs g many _ (HB5.out.no (Fr.drew _))).mono ?_
        rintro e' wa ⟨rfl, hfa⟩
        have HFA := Lib.hid ((Fr.drew w5).then hfa)
        clear hfa
        refine hK.out _ _ ?_ (fun hHeld => ?_)
        · exact ⟨HCS.out _ (HF5.out.then HFA.out), HCT.out _ (HF5.out.then HFA.out)⟩
        clear hK K
        try dsimp only
        try simp only [Act.put, List.setIfInBounds_toArray, List.set_cons_zero, List.set_cons_succ]
        refine take_op 2 (some 51) (Op.binOp BinOp.neq 3 ( .tmp 50) ( .const (.int .i64 0)) 3) 4 ?_ (by kernel_rfl) (by kernel_rfl) (by kernel_rfl) (fun _ _ _ h => h) ?_ (by assumption) ?_
        rotate_left
        · intro w hSw; (try dsimp only at hSw); go_simp; (try (with_reducible rfl))
        try simp only [Act.put, List.setIfInBounds_toArray, List.set_cons_zero, List.set_cons_succ]
        refine take_op 3 (some 52) (Op.move ( .tmp 51)) 4 ?_ (by kernel_rfl) (by kernel_rfl) (by kernel_rfl) (fun _ _ _ h => h) ?_ (by assumption) ?_
        rotate_left
        · intro w hSw; (try dsimp only at hSw); go_simp; (try (with_reducible rfl))
        try simp only [Act.put, List.setIfInBounds_toArray, List.set_cons_zero, List.set_cons_succ]
        refine take_op 4 (some 53) (Op.move ( .tmp 10)) 27 ?_ (by kernel_rfl) (by kernel_rfl) (by kernel_rfl) (fun _ _ _ h => h) ?_ (by assumption) ?_
        rotate_left
        · intro w hSw; (try dsimp only at hSw); go_simp; (try (with_reducible rfl))
        try simp only [Act.put, List.setIfInBounds_toArray, List.set_cons_zero, List.set_cons_succ]
        refine take_op 5 (some 54) (Op.load 24 ( .tmp 5)) 24 ?_ (by kernel_rfl) (by kernel_rfl) (by kernel_rfl) (fun _ _ _ h => h) ?_ (by assumption) ?_
        rotate_left
        · intro w hSw; (try dsimp only at hSw); go_simp; (try (with_reducible rfl))
        try simp only [Act.put, List.setIfInBounds_toArray, List.set_cons_zero, List.set_cons_succ]
        refine take_op 7 (some 56) (Op.load 24 ( .tmp 5)) 24 ?_ (by kernel_rfl) (by kernel_rfl) (by kernel_rfl) (fun _ _ _ h => h) ?_ (by assumption) ?_
        rotate_left
        · intro w hSw; (try dsimp only at hSw); go_simp; (try (with_reducible rfl))
        try simp only [Act.put, List.setIfInBounds_toArray, List.set_cons_zero, List.set_cons_succ]
        refine ready_e (rs := [6]) (by kernel_rfl) (by simp) ?_
        refine do_mid (o := _) rfl (fun K hK => ?_) none_e -- slot 55 F14
        go_simp
        go_at_call 14
        refine (Apply_any bs _ g many [] (wfB_nil (by omega)).fine s s (by have := HSM.out.1.1; omega) (applied_nil many (by have := HSM.out.1.1; omega) (by have := HSM.out.1.2; omega)) _ _ (HB5.out.no HFA.out).reads (Nat.le_refl _) (HIA.out _ (HF5.out.then HFA.out)).1).mono ?_
        rintro e' wb ⟨v1, rfl, hi1, hfb⟩
        obtain ⟨x0, x1, x2, x3, rfl⟩ := is_agg hi1
        obtain ⟨kk5, ss5, nn5, ab5, mb5, cb5, rfl, rfl, rfl, rfl⟩ := is_cells hi1
        have HI5 := Lib.hid hi1
        have HFB := Lib.hid (HFA.out.then hfb)
        clear hi1 hfb
        refine hK.out _ _ ?_ (fun hHeld => ?_)
        · exact ⟨HCS.out _ (HF5.out.then HFB.out), HCT.out _ (HF5.out.then HFB.out)⟩
        clear hK K
        try dsimp only
        try simp only [Act.put, List.setIfInBounds_toArray, List.set_cons_zero, List.set_cons_succ]
        refine ready_e (rs := [8]) (by kernel_rfl) (by simp) ?_
        refine do_mid (o := _) rfl (fun K hK => ?_) none_e -- slot 57 F13
        go_simp
        go_at_call 13
        refine (rsame_ok s s (by have := HSM.out.1.1; omega) (by have := HSM.out.1.1; omega) _ _ _ _ _ _ _ HI5.out (HIA.out _ (HF5.out.then HFB.out)).1).mono ?_
        rintro e' wc ⟨rfl, hfc⟩
        have HFC := Lib.hid (HFB.out.then hfc)
        have HSS := Lib.hid (same_self s)
        rw [HSS.out]
        clear hfc
        refine hK.out _ _ ?_ (fun hHeld => ?_)
        · exact ⟨HCS.out _ (HF5.out.then HFC.out), HCT.out _ (HF5.out.then HFC.out)⟩
        clear hK K
        try dsimp only
        try simp only [Act.put, List.setIfInBounds_toArray, List.set_cons_zero, List.set_cons_succ]
        refine take_op 9 (some 58) (Op.unOp UnOp.not 4 ( .tmp 57)) 4 ?_ (by kernel_rfl) (by kernel_rfl) (by kernel_rfl) (fun _ _ _ h => h) ?_ (by assumption) ?_
        rotate_left
        · intro w hSw; (try dsimp only at hSw); go_simp; (try (with_reducible rfl))
        try simp only [Act.put, List.setIfInBounds_toArray, List.set_cons_zero, List.set_cons_succ]
        refine take_op 10 (some 59) (Op.pick ( .tmp 52) ( .const (Value.bool true)) ( .tmp 58)) 4 ?_ (by kernel_rfl) (by kernel_rfl) (by kernel_rfl) (fun _ _ _ h => h) ?_ (by assumption) ?_
        rotate_left
        · intro w hSw; (try dsimp only at hSw); go_simp; (try (with_reducible rfl))
        try simp only [Act.put, List.setIfInBounds_toArray, List.set_cons_zero, List.set_cons_succ]
        refine done_e (by kernel_rfl) ?_ _
        have HF6 := Lib.hid (HF5.out.then HFC.out)
        clear HFA HFB HI5 HSS
        by_cases h13 : e = 13
        · subst h13
          have hrem : ((n : Int)).tmod 12 = (many : Int) := by rw [Int.tmod_eq_emod_of_nonneg (by omega)]; have := HMANY.out; omega
          have hwr : IntKind.i64.wrap (n : Int) = n := by rw [IntKind.wrap_i64]; omega
          by_cases hlm : (many : Int) ≤ (q : Int)
          · have hdec : decide ((IntKind.i64.wrap (n : Int)).tmod 12 ≤ (q : Int)) = true := decide_eq_true (by rw [hwr, hrem]; exact hlm)
            have HPP : Hid (parts (putT l s) ≤ 1048576 ∧ parts (putT l t) ≤ 1048576) := Lib.hid (by
              have h1 := put_parts (c := 400) (by decide) HLP.out s
              have h2 := put_parts (c := 400) (by decide) HLP.out t
              have h3 := Nat.mul_le_mul_left 400 HSM.out.1.1
              have h4 := Nat.mul_le_mul_left 400 HSM.out.2.1
              omega)
            have HPD : Hid (same (putT l s) (putT l t) = false) := Lib.hid (by
              cases h : same (putT l s) (putT l t) with
              | false => rfl
              | true => exact absurd rfl (unif_sat (many := many) (by omega) (by have := HM.out; omega) (by have := HSM.out.1.1; omega) (by have := HSM.out.2.1; omega) ((same_iff _ _).1 h) HU.out).1)
            go_upto_region 13 with fail
            refine region_e (fun w' => (w'.cell? ⟨gs, 0, none⟩ = some (.int .u8 k1) ∧ w'.cell? ⟨gs, 1, none⟩ = some (.string s1) ∧ w'.cell? ⟨gs, 2, none⟩ = some (.int .i64 n1) ∧ w'.cell? ⟨gs, 3, none⟩ = some (.slice aa1 mm1 cc1)) ∧ (w'.cell? ⟨gt, 0, none⟩ = some (.int .u8 k2) ∧ w'.cell? ⟨gt, 1, none⟩ = some (.string s2) ∧ w'.cell? ⟨gt, 2, none⟩ = some (.int .i64 n2) ∧ w'.cell? ⟨gt, 3, none⟩ = some (.slice aa2 mm2 cc2))) [] (by kernel_rfl) ?_ (fun hHeld => ?_)
            · exact ⟨HCS.out _ (HF6.out.then (Fr.drew _)), HCT.out _ (HF6.out.then (Fr.drew _))⟩
            refine take_op 0 (some 60) (Op.move ( .tmp 12)) 31 ?_ (by kernel_rfl) (by kernel_rfl) (by kernel_rfl) (fun _ _ _ h => h) ?_ (by assumption) ?_
            rotate_left
            · intro w hSw; (try dsimp only at hSw); go_simp; (try (with_reducible rfl))
            try simp only [Act.put, List.setIfInBounds_toArray, List.set_cons_zero, List.set_cons_succ]
            refine take_op 1 (some 61) (Op.binOp BinOp.eql 31 ( .tmp 60) ( .const (.int .i64 13)) 31) 4 ?_ (by kernel_rfl) (by kernel_rfl) (by kernel_rfl) (fun _ _ _ h => h) ?_ (by assumption) ?_
            rotate_left
            · intro w hSw; (try dsimp only at hSw); go_simp; (try (with_reducible rfl))
            try simp only [Act.put, List.setIfInBounds_toArray, List.set_cons_zero, List.set_cons_succ]
            refine take_op 2 (some 62) (Op.move ( .tmp 61)) 4 ?_ (by kernel_rfl) (by kernel_rfl) (by kernel_rfl) (fun _ _ _ h => h) ?_ (by assumption) ?_
            rotate_left
            · intro w hSw; (try dsimp only at hSw); go_simp; (try (with_reducible rfl))
            try simp only [Act.put, List.setIfInBounds_toArray, List.set_cons_zero, List.set_cons_succ]
            refine take_op 3 (some 63) (Op.move ( .tmp 3)) 22 ?_ (by kernel_rfl) (by kernel_rfl) (by kernel_rfl) (fun _ _ _ h => h) ?_ (by assumption) ?_
            rotate_left
            · intro w hSw; (try dsimp only at hSw); go_simp; (try (with_reducible rfl))
            try simp only [Act.put, List.setIfInBounds_toArray, List.set_cons_zero, List.set_cons_succ]
            refine take_op 4 (some 64) (Op.call { callee := Callee.builtin Builtin.len, args := #[ .tmp 63], argTypes := #[22] }) 3 ?_ (by kernel_rfl) (by kernel_rfl) (by kernel_rfl) (fun _ _ _ h => h) ?_ (by assumption) ?_
            rotate_left
            · intro w hSw; (try dsimp only at hSw); go_simp; (try (with_reducible rfl))
            try simp only [Act.put, List.setIfInBounds_toArray, List.set_cons_zero, List.set_cons_succ]
            refine take_op 5 (some 65) (Op.move ( .tmp 0)) 5 ?_ (by kernel_rfl) (by kernel_rfl) (by kernel_rfl) (fun _ _ _ h => h) ?_ (by assumption) ?_
            rotate_left
            · intro w hSw; (try dsimp only at hSw); go_simp; (try (with_reducible rfl))
            try simp only [Act.put, List.setIfInBounds_toArray, List.set_cons_zero, List.set_cons_succ]
            refine take_op 6 (some 66) (Op.convert 5 3 ( .tmp 65)) 3 ?_ (by kernel_rfl) (by kernel_rfl) (by kernel_rfl) (fun _ _ _ h => h) ?_ (by assumption) ?_
            rotate_left
            · intro w hSw; (try dsimp only at hSw); go_simp; (try (with_reducible rfl))
            try simp only [Act.put, List.setIfInBounds_toArray, List.set_cons_zero, List.set_cons_succ]
            refine take_op 7 (some 67) (Op.binOp BinOp.rem 3 ( .tmp 66) ( .const (.int .i64 12)) 3) 3 ?_ (by kernel_rfl) (by kernel_rfl) (by kernel_rfl) (fun _ _ _ h => h) ?_ (by assumption) ?_
            rotate_left
            · intro w hSw; (try dsimp only at hSw); go_simp; (try (with_reducible rfl))
            try simp only [Act.put, List.setIfInBounds_toArray, List.set_cons_zero, List.set_cons_succ]
            refine take_op 8 (some 68) (Op.binOp BinOp.geq 3 ( .tmp 64) ( .tmp 67) 3) 4 ?_ (by kernel_rfl) (by kernel_rfl) (by kernel_rfl) (fun _ _ _ h => h) ?_ (by assumption) ?_
            rotate_left
            · intro w hSw; (try dsimp only at hSw); go_simp; (try (with_reducible rfl))
            try simp only [Act.put, List.setIfInBounds_toArray, List.set_cons_zero, List.set_cons_succ]
            try rw [hdec]
            refine take_op 9 (some 69) (Op.pick ( .tmp 62) ( .tmp 68) ( .const (Value.bool false))) 4 ?_ (by kernel_rfl) (by kernel_rfl) (by kernel_rfl) (fun _ _ _ h => h) ?_ (by assumption) ?_
            rotate_left
            · intro w hSw; (try dsimp only at hSw); go_simp; (try (with_reducible rfl))
            try simp only [Act.put, List.setIfInBounds_toArray, List.set_cons_zero, List.set_cons_succ]
            refine take_op 10 (some 70) (Op.move ( .tmp 69)) 4 ?_ (by kernel_rfl) (by kernel_rfl) (by kernel_rfl) (fun _ _ _ h => h) ?_ (by assumption) ?_
            rotate_left
            · intro w hSw; (try dsimp only at hSw); go_simp; (try (with_reducible rfl))
            try simp only [Act.put, List.setIfInBounds_toArray, List.set_cons_zero, List.set_cons_succ]
            refine take_op 11 (some 71) (Op.load 24 ( .tmp 5)) 24 ?_ (by kernel_rfl) (by kernel_rfl) (by kernel_rfl) (fun _ _ _ h => h) ?_ (by assumption) ?_
            rotate_left
            · intro w hSw; (try dsimp only at hSw); go_simp; (try (with_reducible rfl))
            try simp only [Act.put, List.setIfInBounds_toArray, List.set_cons_zero, List.set_cons_succ]
            refine take_op 12 (some 72) (Op.move ( .tmp 3)) 22 ?_ (by kernel_rfl) (by kernel_rfl) (by kernel_rfl) (fun _ _ _ h => h) ?_ (by assumption) ?_
            rotate_left
            · intro w hSw; (try dsimp only at hSw); go_simp; (try (with_reducible rfl))
            try simp only [Act.put, List.setIfInBounds_toArray, List.set_cons_zero, List.set_cons_succ]
            refine take_op 14 (some 74) (Op.load 24 ( .tmp 6)) 24 ?_ (by kernel_rfl) (by kernel_rfl) (by kernel_rfl) (fun _ _ _ h => h) ?_ (by assumption) ?_
            rotate_left
            · intro w hSw; (try dsimp only at hSw); go_simp; (try (with_reducible rfl))
            try simp only [Act.put, List.setIfInBounds_toArray, List.set_cons_zero, List.set_cons_succ]
            refine take_op 15 (some 75) (Op.move ( .tmp 3)) 22 ?_ (by kernel_rfl) (by kernel_rfl) (by kernel_rfl) (fun _ _ _ h => h) ?_ (by assumption) ?_
            rotate_left
            · intro w hSw; (try dsimp only at hSw); go_simp; (try (with_reducible rfl))
            try simp only [Act.put, List.setIfInBounds_toArray, List.set_cons_zero, List.set_cons_succ]
            refine ready_e (rs := [13]) (by kernel_rfl) (by simp) ?_
            refine do_mid (o := _) rfl (fun K hK => ?_) none_e -- slot 73 F15
            go_simp
            go_at_call 15
            refine (rput_ok bs _ l q cap a HM.out (by omega) s (by have := HSM.out.1.1; omega) _ _ (HIA.out _ (HF6.out.then (Fr.drew _))).1 (HRA.out _ (HF6.out.then (Fr.drew _)))).mono ?_
            rintro e' wd ⟨v1, rfl, hi1, hfd⟩
            obtain ⟨x0, x1, x2, x3, rfl⟩ := is_agg hi1
            obtain ⟨kk5, ss5, nn5, ab5, mb5, cb5, rfl, rfl, rfl, rfl⟩ := is_cells hi1
            have HI5 := Lib.hid hi1
            have HFD := Lib.hid (HF6.out.then ((Fr.drew wc).then hfd))
            clear hi1 hfd
            refine hK.out _ _ ?_ (fun hHeld => ?_)
            · exact ⟨HCS.out _ HFD.out, HCT.out _ HFD.out⟩
            clear hK K
            try dsimp only
            try simp only [Act.put, List.setIfInBounds_toArray, List.set_cons_zero, List.set_cons_succ]
            refine ready_e (rs := [16]) (by kernel_rfl) (by simp) ?_
            refine do_mid (o := _) rfl (fun K hK => ?_) none_e -- slot 76 F15
            go_simp
            go_at_call 15
            refine (rput_ok bs _ l q cap a HM.out (by omega) t (by have := HSM.out.2.1; omega) _ _ (HIA.out _ HFD.out).2 (HRA.out _ HFD.out)).mono ?_
            rintro e' we ⟨v2, rfl, hi2, hfe⟩
            obtain ⟨x0, x1, x2, x3, rfl⟩ := is_agg hi2
            obtain ⟨kk6, ss6, nn6, ab6, mb6, cb6, rfl, rfl, rfl, rfl⟩ := is_cells hi2
            have HI6 := Lib.hid hi2
            have HI7 := Lib.hid (HI5.out.no hfe)
            have HFE := Lib.hid (HFD.out.then hfe)
            clear hi2 hfe
            refine hK.out _ _ ?_ (fun hHeld => ?_)
            · exact ⟨HCS.out _ HFE.out, HCT.out _ HFE.out⟩
            clear hK K
            try dsimp only
            try simp only [Act.put, List.setIfInBounds_toArray, List.set_cons_zero, List.set_cons_succ]
            refine ready_e (rs := [17]) (by kernel_rfl) (by simp) ?_
            refine do_mid (o := _) rfl (fun K hK => ?_) none_e -- slot 77 F13
            go_simp
            go_at_call 13
            refine (rsame_ok (putT l s) (putT l t) HPP.out.1 HPP.out.2 _ _ _ _ _ _ _ HI7.out HI6.out).mono ?_
            rintro e' wf ⟨rfl, hff⟩
            have HFF := Lib.hid (HFE.out.then hff)
            rw [HPD.out]
            clear hff
            refine hK.out _ _ ?_ (fun hHeld => ?_)
            · exact ⟨HCS.out _ HFF.out, HCT.out _ HFF.out⟩
            clear hK K
            try dsimp only
            try simp only [Act.put, List.setIfInBounds_toArray, List.set_cons_zero, List.set_cons_succ]
            refine take_op 18 (some 78) (Op.pick ( .tmp 70) ( .tmp 77) ( .const (Value.bool false))) 4 ?_ (by kernel_rfl) (by kernel_rfl) (by kernel_rfl) (fun _ _ _ h => h) ?_ (by assumption) ?_
            rotate_left
            · intro w hSw; (try dsimp only at hSw); go_simp; (try (with_reducible rfl))
            try simp only [Act.put, List.setIfInBounds_toArray, List.set_cons_zero, List.set_cons_succ]
            refine done_e (by kernel_rfl) ?_ _
            go_wp2_with fail
            refine (works_any _).mono ?_
            rintro e w9 ⟨rfl, hf9⟩
            go_wp2_with fail
            go_ret
            exact ⟨rfl, (HF0.out.then HFF.out).then hf9⟩
          · have hdec : decide ((IntKind.i64.wrap (n : Int)).tmod 12 ≤ (q : Int)) = false := decide_eq_false (by rw [hwr, hrem]; exact hlm)
            go_upto_region 13 with fail
            refine region_e (fun w' => (w'.cell? ⟨gs, 0, none⟩ = some (.int .u8 k1) ∧ w'.cell? ⟨gs, 1, none⟩ = some (.string s1) ∧ w'.cell? ⟨gs, 2, none⟩ = some (.int .i64 n1) ∧ w'.cell? ⟨gs, 3, none⟩ = some (.slice aa1 mm1 cc1)) ∧ (w'.cell? ⟨gt, 0, none⟩ = some (.int .u8 k2) ∧ w'.cell? ⟨gt, 1, none⟩ = some (.string s2) ∧ w'.cell? ⟨gt, 2, none⟩ = some (.int .i64 n2) ∧ w'.cell? ⟨gt, 3, none⟩ = some (.slice aa2 mm2 cc2))) [] (by kernel_rfl) ?_ (fun hHeld => ?_)
            · exact ⟨HCS.out _ (HF6.out.then (Fr.drew _)), HCT.out _ (HF6.out.then (Fr.drew _))⟩
            refine take_op 0 (some 60) (Op.move ( .tmp 12)) 31 ?_ (by kernel_rfl) (by kernel_rfl) (by kernel_rfl) (fun _ _ _ h => h) ?_ (by assumption) ?_
            rotate_left
            · intro w hSw; (try dsimp only at hSw); go_simp; (try (with_reducible rfl))
            try simp only [Act.put, List.setIfInBounds_toArray, List.set_cons_zero, List.set_cons_succ]
            refine take_op 1 (some 61) (Op.binOp BinOp.eql 31 ( .tmp 60) ( .const (.int .i64 13)) 31) 4 ?_ (by kernel_rfl) (by kernel_rfl) (by kernel_rfl) (fun _ _ _ h => h) ?_ (by assumption) ?_
            rotate_left
            · intro w hSw; (try dsimp only at hSw); go_simp; (try (with_reducible rfl))
            try simp only [Act.put, List.setIfInBounds_toArray, List.set_cons_zero, List.set_cons_succ]
            refine take_op 2 (some 62) (Op.move ( .tmp 61)) 4 ?_ (by kernel_rfl) (by kernel_rfl) (by kernel_rfl) (fun _ _ _ h => h) ?_ (by assumption) ?_
            rotate_left
            · intro w hSw; (try dsimp only at hSw); go_simp; (try (with_reducible rfl))
            try simp only [Act.put, List.setIfInBounds_toArray, List.set_cons_zero, List.set_cons_succ]
            refine take_op 3 (some 63) (Op.move ( .tmp 3)) 22 ?_ (by kernel_rfl) (by kernel_rfl) (by kernel_rfl) (fun _ _ _ h => h) ?_ (by assumption) ?_
            rotate_left
            · intro w hSw; (try dsimp only at hSw); go_simp; (try (with_reducible rfl))
            try simp only [Act.put, List.setIfInBounds_toArray, List.set_cons_zero, List.set_cons_succ]
            refine take_op 4 (some 64) (Op.call { callee := Callee.builtin Builtin.len, args := #[ .tmp 63], argTypes := #[22] }) 3 ?_ (by kernel_rfl) (by kernel_rfl) (by kernel_rfl) (fun _ _ _ h => h) ?_ (by assumption) ?_
            rotate_left
            · intro w hSw; (try dsimp only at hSw); go_simp; (try (with_reducible rfl))
            try simp only [Act.put, List.setIfInBounds_toArray, List.set_cons_zero, List.set_cons_succ]
            refine take_op 5 (some 65) (Op.move ( .tmp 0)) 5 ?_ (by kernel_rfl) (by kernel_rfl) (by kernel_rfl) (fun _ _ _ h => h) ?_ (by assumption) ?_
            rotate_left
            · intro w hSw; (try dsimp only at hSw); go_simp; (try (with_reducible rfl))
            try simp only [Act.put, List.setIfInBounds_toArray, List.set_cons_zero, List.set_cons_succ]
            refine take_op 6 (some 66) (Op.convert 5 3 ( .tmp 65)) 3 ?_ (by kernel_rfl) (by kernel_rfl) (by kernel_rfl) (fun _ _ _ h => h) ?_ (by assumption) ?_
            rotate_left
            · intro w hSw; (try dsimp only at hSw); go_simp; (try (with_reducible rfl))
            try simp only [Act.put, List.setIfInBounds_toArray, List.set_cons_zero, List.set_cons_succ]
            refine take_op 7 (some 67) (Op.binOp BinOp.rem 3 ( .tmp 66) ( .const (.int .i64 12)) 3) 3 ?_ (by kernel_rfl) (by kernel_rfl) (by kernel_rfl) (fun _ _ _ h => h) ?_ (by assumption) ?_
            rotate_left
            · intro w hSw; (try dsimp only at hSw); go_simp; (try (with_reducible rfl))
            try simp only [Act.put, List.setIfInBounds_toArray, List.set_cons_zero, List.set_cons_succ]
            refine take_op 8 (some 68) (Op.binOp BinOp.geq 3 ( .tmp 64) ( .tmp 67) 3) 4 ?_ (by kernel_rfl) (by kernel_rfl) (by kernel_rfl) (fun _ _ _ h => h) ?_ (by assumption) ?_
            rotate_left
            · intro w hSw; (try dsimp only at hSw); go_simp; (try (with_reducible rfl))
            try simp only [Act.put, List.setIfInBounds_toArray, List.set_cons_zero, List.set_cons_succ]
            try rw [hdec]
            refine take_op 9 (some 69) (Op.pick ( .tmp 62) ( .tmp 68) ( .const (Value.bool false))) 4 ?_ (by kernel_rfl) (by kernel_rfl) (by kernel_rfl) (fun _ _ _ h => h) ?_ (by assumption) ?_
            rotate_left
            · intro w hSw; (try dsimp only at hSw); go_simp; (try (with_reducible rfl))
            try simp only [Act.put, List.setIfInBounds_toArray, List.set_cons_zero, List.set_cons_succ]
            refine take_op 10 (some 70) (Op.move ( .tmp 69)) 4 ?_ (by kernel_rfl) (by kernel_rfl) (by kernel_rfl) (fun _ _ _ h => h) ?_ (by assumption) ?_
            rotate_left
            · intro w hSw; (try dsimp only at hSw); go_simp; (try (with_reducible rfl))
            try simp only [Act.put, List.setIfInBounds_toArray, List.set_cons_zero, List.set_cons_succ]
            refine skip_op 11 (some 71) (by kernel_rfl) (by kernel_rfl) (by kernel_rfl) (fun _ _ _ h => h) (by assumption) ?_
            try simp only [Act.put, List.setIfInBounds_toArray, List.set_cons_zero, List.set_cons_succ]
            refine skip_op 12 (some 72) (by kernel_rfl) (by kernel_rfl) (by kernel_rfl) (fun _ _ _ h => h) (by assumption) ?_
            try simp only [Act.put, List.setIfInBounds_toArray, List.set_cons_zero, List.set_cons_succ]
            refine skip_op 13 (some 73) (by kernel_rfl) (by kernel_rfl) (by kernel_rfl) (fun _ _ _ h => h) (by assumption) ?_
            try simp only [Act.put, List.setIfInBounds_toArray, List.set_cons_zero, List.set_cons_succ]
            refine skip_op 14 (some 74) (by kernel_rfl) (by kernel_rfl) (by kernel_rfl) (fun _ _ _ h => h) (by assumption) ?_
            try simp only [Act.put, List.setIfInBounds_toArray, List.set_cons_zero, List.set_cons_succ]
            refine skip_op 15 (some 75) (by kernel_rfl) (by kernel_rfl) (by kernel_rfl) (fun _ _ _ h => h) (by assumption) ?_
            try simp only [Act.put, List.setIfInBounds_toArray, List.set_cons_zero, List.set_cons_succ]
            refine skip_op 16 (some 76) (by kernel_rfl) (by kernel_rfl) (by kernel_rfl) (fun _ _ _ h => h) (by assumption) ?_
            try simp only [Act.put, List.setIfInBounds_toArray, List.set_cons_zero, List.set_cons_succ]
            refine skip_op 17 (some 77) (by kernel_rfl) (by kernel_rfl) (by kernel_rfl) (fun _ _ _ h => h) (by assumption) ?_
            try simp only [Act.put, List.setIfInBounds_toArray, List.set_cons_zero, List.set_cons_succ]
            refine take_op 18 (some 78) (Op.pick ( .tmp 70) ( .tmp 77) ( .const (Value.bool false))) 4 ?_ (by kernel_rfl) (by kernel_rfl) (by kernel_rfl) (fun _ _ _ h => h) ?_ (by assumption) ?_
            rotate_left
            · intro w hSw; (try dsimp only at hSw); go_simp; (try (with_reducible rfl))
            try simp only [Act.put, List.setIfInBounds_toArray, List.set_cons_zero, List.set_cons_succ]
            refine done_e (by kernel_rfl) ?_ _
            go_wp2_with fail
            refine (works_any _).mono ?_
            rintro e w9 ⟨rfl, hf9⟩
            go_wp2_with fail
            go_ret
            exact ⟨rfl, ((HF0.out.then HF6.out).then (Fr.drew _)).then hf9⟩
        · have hb13 : (e == 13) = false := by simpa using h13
          go_upto_region 13 with fail
          refine region_e (fun w' => (w'.cell? ⟨gs, 0, none⟩ = some (.int .u8 k1) ∧ w'.cell? ⟨gs, 1, none⟩ = some (.string s1) ∧ w'.cell? ⟨gs, 2, none⟩ = some (.int .i64 n1) ∧ w'.cell? ⟨gs, 3, none⟩ = some (.slice aa1 mm1 cc1)) ∧ (w'.cell? ⟨gt, 0, none⟩ = some (.int .u8 k2) ∧ w'.cell? ⟨gt, 1, none⟩ = some (.string s2) ∧ w'.cell? ⟨gt, 2, none⟩ = some (.int .i64 n2) ∧ w'.cell? ⟨gt, 3, none⟩ = some (.slice aa2 mm2 cc2))) [] (by kernel_rfl) ?_ (fun hHeld => ?_)
          · exact ⟨HCS.out _ (HF6.out.then (Fr.drew _)), HCT.out _ (HF6.out.then (Fr.drew _))⟩
          refine take_op 0 (some 60) (Op.move ( .tmp 12)) 31 ?_ (by kernel_rfl) (by kernel_rfl) (by kernel_rfl) (fun _ _ _ h => h) ?_ (by assumption) ?_
          rotate_left
          · intro w hSw; (try dsimp only at hSw); go_simp; (try (with_reducible rfl))
          try simp only [Act.put, List.setIfInBounds_toArray, List.set_cons_zero, List.set_cons_succ]
          refine take_op 1 (some 61) (Op.binOp BinOp.eql 31 ( .tmp 60) ( .const (.int .i64 13)) 31) 4 ?_ (by kernel_rfl) (by kernel_rfl) (by kernel_rfl) (fun _ _ _ h => h) ?_ (by assumption) ?_
          rotate_left
          · intro w hSw; (try dsimp only at hSw); go_simp; (try (with_reducible rfl))
          try simp only [Act.put, List.setIfInBounds_toArray, List.set_cons_zero, List.set_cons_succ]
          refine take_op 2 (some 62) (Op.move ( .tmp 61)) 4 ?_ (by kernel_rfl) (by kernel_rfl) (by kernel_rfl) (fun _ _ _ h => h) ?_ (by assumption) ?_
          rotate_left
          · intro w hSw; (try dsimp only at hSw); go_simp; (try (with_reducible rfl))
          try simp only [Act.put, List.setIfInBounds_toArray, List.set_cons_zero, List.set_cons_succ]
          refine skip_op 3 (some 63) (by kernel_rfl) (by kernel_rfl) (by kernel_rfl) (fun _ _ _ h => h) (by assumption) ?_
          try simp only [Act.put, List.setIfInBounds_toArray, List.set_cons_zero, List.set_cons_succ]
          refine skip_op 4 (some 64) (by kernel_rfl) (by kernel_rfl) (by kernel_rfl) (fun _ _ _ h => h) (by assumption) ?_
          try simp only [Act.put, List.setIfInBounds_toArray, List.set_cons_zero, List.set_cons_succ]
          refine skip_op 5 (some 65) (by kernel_rfl) (by kernel_rfl) (by kernel_rfl) (fun _ _ _ h => h) (by assumption) ?_
          try simp only [Act.put, List.setIfInBounds_toArray, List.set_cons_zero, List.set_cons_succ]
          refine skip_op 6 (some 66) (by kernel_rfl) (by kernel_rfl) (by kernel_rfl) (fun _ _ _ h => h) (by assumption) ?_
          try simp only [Act.put, List.setIfInBounds_toArray, List.set_cons_zero, List.set_cons_succ]
          refine skip_op 7 (some 67) (by kernel_rfl) (by kernel_rfl) (by kernel_rfl) (fun _ _ _ h => h) (by assumption) ?_
          try simp only [Act.put, List.setIfInBounds_toArray, List.set_cons_zero, List.set_cons_succ]
          refine skip_op 8 (some 68) (by kernel_rfl) (by kernel_rfl) (by kernel_rfl) (fun _ _ _ h => h) (by assumption) ?_
          try simp only [Act.put, List.setIfInBounds_toArray, List.set_cons_zero, List.set_cons_succ]
          refine take_op 9 (some 69) (Op.pick ( .tmp 62) ( .tmp 68) ( .const (Value.bool false))) 4 ?_ (by kernel_rfl) (by kernel_rfl) (by kernel_rfl) (fun _ _ _ h => h) ?_ (by assumption) ?_
          rotate_left
          · intro w hSw; (try dsimp only at hSw); go_simp; (try (with_reducible rfl))
          try simp only [Act.put, List.setIfInBounds_toArray, List.set_cons_zero, List.set_cons_succ]
          refine take_op 10 (some 70) (Op.move ( .tmp 69)) 4 ?_ (by kernel_rfl) (by kernel_rfl) (by kernel_rfl) (fun _ _ _ h => h) ?_ (by assumption) ?_
          rotate_left
          · intro w hSw; (try dsimp only at hSw); go_simp; (try (with_reducible rfl))
          try simp only [Act.put, List.setIfInBounds_toArray, List.set_cons_zero, List.set_cons_succ]
          refine skip_op 11 (some 71) (by kernel_rfl) (by kernel_rfl) (by kernel_rfl) (fun _ _ _ h => h) (by assumption) ?_
          try simp only [Act.put, List.setIfInBounds_toArray, List.set_cons_zero, List.set_cons_succ]
          refine skip_op 12 (some 72) (by kernel_rfl) (by kernel_rfl) (by kernel_rfl) (fun _ _ _ h => h) (by assumption) ?_
          try simp only [Act.put, List.setIfInBounds_toArray, List.set_cons_zero, List.set_cons_succ]
          refine skip_op 13 (some 73) (by kernel_rfl) (by kernel_rfl) (by kernel_rfl) (fun _ _ _ h => h) (by assumption) ?_
          try simp only [Act.put, List.setIfInBounds_toArray, List.set_cons_zero, List.set_cons_succ]
          refine skip_op 14 (some 74) (by kernel_rfl) (by kernel_rfl) (by kernel_rfl) (fun _ _ _ h => h) (by assumption) ?_
          try simp only [Act.put, List.setIfInBounds_toArray, List.set_cons_zero, List.set_cons_succ]
          refine skip_op 15 (some 75) (by kernel_rfl) (by kernel_rfl) (by kernel_rfl) (fun _ _ _ h => h) (by assumption) ?_
          try simp only [Act.put, List.setIfInBounds_toArray, List.set_cons_zero, List.set_cons_succ]
          refine skip_op 16 (some 76) (by kernel_rfl) (by kernel_rfl) (by kernel_rfl) (fun _ _ _ h => h) (by assumption) ?_
          try simp only [Act.put, List.setIfInBounds_toArray, List.set_cons_zero, List.set_cons_succ]
          refine skip_op 17 (some 77) (by kernel_rfl) (by kernel_rfl) (by kernel_rfl) (fun _ _ _ h => h) (by assumption) ?_
          try simp only [Act.put, List.setIfInBounds_toArray, List.set_cons_zero, List.set_cons_succ]
          refine take_op 18 (some 78) (Op.pick ( .tmp 70) ( .tmp 77) ( .const (Value.bool false))) 4 ?_ (by kernel_rfl) (by kernel_rfl) (by kernel_rfl) (fun _ _ _ h => h) ?_ (by assumption) ?_
          rotate_left
          · intro w hSw; (try dsimp only at hSw); go_simp; (try (with_reducible rfl))
          try simp only [Act.put, List.setIfInBounds_toArray, List.set_cons_zero, List.set_cons_succ]
          refine done_e (by kernel_rfl) ?_ _
          go_wp2_with fail
          refine (works_any _).mono ?_
          rintro e w9 ⟨rfl, hf9⟩
          go_wp2_with fail
          go_ret
          exact ⟨rfl, ((HF0.out.then HF6.out).then (Fr.drew _)).then hf9⟩
    · obtain ⟨x, hx⟩ : ∃ x, l[q]? = some x := ⟨_, List.getElem?_eq_getElem (by rw [HM.out]; omega)⟩
      obtain ⟨b, off, y0, y1, y2, y3, rfl, _, _, e0, e1, e2, e3, hiq⟩ := Row.at_ 0 l (HROW.out _ (HF0.out.then HF.out)) q x hx
      rw [Nat.zero_add] at e0 e1 e2 e3
      have HC := Lib.hid (HLV.out q x hx _ wr (HF0.out.then HF.out) hiq)
      obtain ⟨kx, sx, nx, aax, mmx, ccx, rfl, rfl, rfl, rfl⟩ := is_cells hiq
      have hltq : (q : Int) < (m : Int) := by omega
      have HX := Lib.hid hx
      clear hiq hx
      go_wp2_with fail
      refine HC.out.mono ?_
      rintro e w3 ⟨rfl, hf3⟩
      have HF3 : Hid (Fr No w0 w3) := Lib.hid (HF.out.then hf3)
      clear hf3 e0 e1 e2 e3
      cases hvx : vast x with
      | true =>
        clear hvx
        go_wp2_with fail
        refine (works_any _).mono ?_
        rintro e w9 ⟨rfl, hf9⟩
        go_wp2_with fail
        go_ret
        exact ⟨rfl, (HF0.out.then HF3.out).then hf9⟩
      | false =>
        have HVL3 : Hid (∀ j y, j < q + 1 → l[j]? = some y → vast y = false) := Lib.hid (fun j y hj hy => by
          rcases Nat.lt_or_ge j q with h | h
          · exact HVL.out j y h hy
          · rw [show j = q by omega, HX.out] at hy
            simp only [Option.some.injEq] at hy
            rw [← hy]
            exact hvx)
        clear hvx
        go_wp2_with fail
        exact ⟨⟨q + 1, by omega, by go_num, HF3, HVL3⟩, by simp [intOf]; omega⟩
theorem meet_law (x : Int) (hx : (Lit.int .u8 x).wf = true) (s : T) (hss : Short s) (t : T) (hst : Short t) (l : List T) (hsl : ShortL l) (a : Option Addr) (cap : Nat) (vs vt : Value) (w : World) (his : IsT w.heap.size w s vs) (hit : IsT w.heap.size w t vt) (hrow : Row w.heap.size (fun _ => True) w a 0 l) :
    Calls Try.prog 3 #[.int .u8 x, vs, vt, .slice a l.length cap] w (SaidT w true) := by
  obtain ⟨n, rfl, hn⟩ := u8_wf hx
  exact meet_any n hn s hss t hst l hsl l.length rfl a cap vs vt w his hit hrow
end Go.Proofs.Ytfjddfcndammdaa
