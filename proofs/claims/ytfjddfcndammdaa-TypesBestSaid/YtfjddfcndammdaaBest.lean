/- The law TypesBest: the walk. -/
import Derived.Test.YtfjddfcndammdaaBooks
import Derived.Test.YtfjddfcndammdaaMgb
import Derived.Test.YtfjddfcndammdaaVast
import Derived.Deep.CutRange
namespace Go.Proofs.Ytfjddfcndammdaa
open Go.RowKit

set_option maxHeartbeats 8000000 in
set_option maxRecDepth 100000 in
theorem best_any (n : Nat) (hn : n < 256) (s : T) (hss : Short s) (t : T) (hst : Short t) (l : List T) (hsl : ShortL l) (m : Nat) (hml : l.length = m) (a : Option Addr) (cap : Nat) (vs vt : Value) (w : World) (his : IsT w.heap.size w s vs) (hit : IsT w.heap.size w t vt) (hrow : Row w.heap.size (fun _ => True) w a 0 l) :
    Calls Try.prog 4 #[.int .u8 n, vs, vt, .slice a m cap] w (SaidT w true) := by
  obtain ⟨many, hmany⟩ : ∃ many, n % 12 = many := ⟨_, rfl⟩
  have hm12 : many < 12 := by omega
  have hrem : ((n : Int)).tmod 12 = (many : Int) := by rw [Int.tmod_eq_emod_of_nonneg (by omega)]; omega
  have HMANY := Lib.hid hmany
  clear hmany
  have HSV := Lib.hid (fun w' (hf : Fr No w w') => vast_any w.heap.size s hss vs w' hf.size (his.no hf))
  have HTV := Lib.hid (fun w' (hf : Fr No w w') => vast_any w.heap.size t hst vt w' hf.size (hit.no hf))
  have HLV := Lib.hid (fun (j : Nat) (x : T) (hx : l[j]? = some x) v w' (hf : Fr No w w') (hi : IsT w.heap.size w' x v) => vast_any w.heap.size x (shortL_at l hsl j x hx) v w' hf.size hi)
  have HROW := Lib.hid (fun w' (hf : Fr No w w') => Row.keep (Stays.of_no hf) (fun _ h => h) a 0 l hrow)
  have HM := Lib.hid hml
  obtain ⟨x0, x1, x2, x3, rfl⟩ := is_agg his
  obtain ⟨k1, s1, n1, aa1, mm1, cc1, rfl, rfl, rfl, rfl⟩ := is_cells his
  obtain ⟨x0, x1, x2, x3, rfl⟩ := is_agg hit
  obtain ⟨k2, s2, n2, aa2, mm2, cc2, rfl, rfl, rfl, rfl⟩ := is_cells hit
  have HIS := Lib.hid (fun B w' (hB : w.heap.size ≤ B) (hf : Fr No w w') => is_base hB s _ (his.no hf))
  have HIT := Lib.hid (fun B w' (hB : w.heap.size ≤ B) (hf : Fr No w w') => is_base hB t _ (hit.no hf))
  obtain ⟨w0, hw0⟩ : ∃ w0, w0 = (w.alloc (.cells #[.int .u8 k1, .string s1, .int .i64 n1, .slice aa1 mm1 cc1] 24)).alloc (.cells #[.int .u8 k2, .string s2, .int .i64 n2, .slice aa2 mm2 cc2] 24) := ⟨_, rfl⟩
  have hR0 : w0.heap[w.heap.size]? = some (.cells #[.int .u8 k1, .string s1, .int .i64 n1, .slice aa1 mm1 cc1] 24 (0, 0)) := by rw [hw0]; exact keep_alloc (new_block w _) _
  have hR1 : w0.heap[w.heap.size + 1]? = some (.cells #[.int .u8 k2, .string s2, .int .i64 n2, .slice aa2 mm2 cc2] 24 (0, 0)) := by
    have h := new_block (w.alloc (.cells #[.int .u8 k1, .string s1, .int .i64 n1, .slice aa1 mm1 cc1] 24)) (.cells #[.int .u8 k2, .string s2, .int .i64 n2, .slice aa2 mm2 cc2] 24)
    rw [size_alloc] at h
    rw [hw0]
    exact h
  have HF0 : Hid (Fr No w w0) := Lib.hid (by rw [hw0]; exact (Fr.alloc _ _).then (Fr.alloc _ _))
  clear his hit hrow hss hst hsl
  go_enter Try.func4, Try.ntmps4
  go_upto_region 1 with fail
  rw [← hw0]
  obtain ⟨gs, hgs⟩ : ∃ gs, w.heap.size = gs := ⟨_, rfl⟩
  obtain ⟨gt, hgt⟩ : ∃ gt, gs + 1 = gt := ⟨_, rfl⟩
  have HGS := Lib.hid hgs
  rw [hgs] at hR0 hR1 ⊢
  rw [hgt] at hR1 ⊢
  have HCS : Hid (∀ w', Fr No w0 w' → (w'.cell? ⟨gs, 0, none⟩ = some (.int .u8 k1) ∧ w'.cell? ⟨gs, 1, none⟩ = some (.string s1) ∧ w'.cell? ⟨gs, 2, none⟩ = some (.int .i64 n1) ∧ w'.cell? ⟨gs, 3, none⟩ = some (.slice aa1 mm1 cc1))) := Lib.hid (fun w' hf => ⟨cell_of (hf.keeps hR0 no_one) 0, cell_of (hf.keeps hR0 no_one) 1, cell_of (hf.keeps hR0 no_one) 2, cell_of (hf.keeps hR0 no_one) 3⟩)
  have HCT : Hid (∀ w', Fr No w0 w' → (w'.cell? ⟨gt, 0, none⟩ = some (.int .u8 k2) ∧ w'.cell? ⟨gt, 1, none⟩ = some (.string s2) ∧ w'.cell? ⟨gt, 2, none⟩ = some (.int .i64 n2) ∧ w'.cell? ⟨gt, 3, none⟩ = some (.slice aa2 mm2 cc2))) := Lib.hid (fun w' hf => ⟨cell_of (hf.keeps hR1 no_one) 0, cell_of (hf.keeps hR1 no_one) 1, cell_of (hf.keeps hR1 no_one) 2, cell_of (hf.keeps hR1 no_one) 3⟩)
  clear hw0 hgs hgt hR0 hR1
  obtain ⟨c0, c1, c2, c3⟩ := HCS.out _ (Fr.refl No w0)
  go_wp2_with fail
  refine (HSV.out _ HF0.out).mono ?_
  rintro e w1 ⟨rfl, hf1⟩
  have HF1 : Hid (Fr No w0 w1) := Lib.hid hf1
  clear hf1 c0 c1 c2 c3
  obtain ⟨d0, d1, d2, d3⟩ := HCT.out _ HF1.out
  cases hvs : vast s with
  | true =>
    clear hvs
    go_wp2_with fail
    refine (works_any _).mono ?_
    rintro e w9 ⟨rfl, hf9⟩
    go_wp2_with fail
    go_ret
    exact ⟨rfl, (HF0.out.then HF1.out).then hf9⟩
  | false =>
  have HVS := Lib.hid hvs
  clear hvs
  go_wp2_with fail
  refine (HTV.out _ (HF0.out.then HF1.out)).mono ?_
  rintro e w2 ⟨rfl, hf2⟩
  have HF2 : Hid (Fr No w0 w2) := Lib.hid (HF1.out.then hf2)
  clear hf2 d0 d1 d2 d3
  cases hvt : vast t with
  | true =>
    clear hvt
    go_wp2_with fail
    refine (works_any _).mono ?_
    rintro e w9 ⟨rfl, hf9⟩
    go_wp2_with fail
    go_ret
    exact ⟨rfl, (HF0.out.then HF2.out).then hf9⟩
  | false =>
  have HVT := Lib.hid hvt
  clear hvt
  by_cases hlen : (12 : Int) < (m : Int)
  · go_wp2_with fail
    refine (works_any _).mono ?_
    rintro e w9 ⟨rfl, hf9⟩
    go_wp2_with fail
    go_ret
    exact ⟨rfl, (HF0.out.then HF2.out).then hf9⟩
  by_cases hmany : (m : Int) < (many : Int)
  · go_wp2_with fail
    refine (works_any _).mono ?_
    rintro e w9 ⟨rfl, hf9⟩
    go_wp2_with fail
    go_ret
    exact ⟨rfl, (HF0.out.then HF2.out).then hf9⟩
  have hdn : decide (m < many) = false := decide_eq_false (by omega)
  have hdi : decide ((m : Int) < (many : Int)) = false := decide_eq_false hmany
  go_wp2_with fail
  go_loopw [10] (fun i wr => ∃ q : Nat, q ≤ m ∧ i = .int .i64 q ∧ Hid (Fr No w0 wr) ∧ Hid (∀ j x, j < q → l[j]? = some x → vast x = false)) (fun i _ => m - (intOf i).toNat)
  case atStart => exact ⟨0, Nat.zero_le _, rfl, HF2, Lib.hid (fun j x hj => by omega)⟩
  case round =>
    obtain ⟨q, hq, rfl, HF, HVL⟩ := hrel
    by_cases hqm : q = m
    · subst hqm
      have HVA : Hid (∀ x ∈ l, vast x = false) := Lib.hid (fun x hx => by
        obtain ⟨j, hj⟩ := List.getElem?_of_mem hx
        exact HVL.out j x (by have := (List.getElem?_eq_some_iff.1 hj).1; have := HM.out; omega) hj)
      have HSM : Hid ((parts s ≤ 400 ∧ depthT s ≤ 60) ∧ (parts t ≤ 400 ∧ depthT t ≤ 60)) := Lib.hid ⟨vast_small HVS.out, vast_small HVT.out⟩
      have HLP : Hid (∀ x ∈ l, parts x ≤ 400) := Lib.hid (fun x hx => (vast_small (HVA.out x hx)).1)
      have HPP : Hid (parts (putT l s) ≤ 1048576 ∧ parts (putT l t) ≤ 1048576) := Lib.hid (by
        have h1 := put_parts (c := 400) (by decide) HLP.out s
        have h2 := put_parts (c := 400) (by decide) HLP.out t
        have h3 := Nat.mul_le_mul_left 400 HSM.out.1.1
        have h4 := Nat.mul_le_mul_left 400 HSM.out.2.1
        omega)
      go_upto_region 9 with fail
      refine region_e (fun w' => (w'.cell? ⟨gs, 0, none⟩ = some (.int .u8 k1) ∧ w'.cell? ⟨gs, 1, none⟩ = some (.string s1) ∧ w'.cell? ⟨gs, 2, none⟩ = some (.int .i64 n1) ∧ w'.cell? ⟨gs, 3, none⟩ = some (.slice aa1 mm1 cc1)) ∧ (w'.cell? ⟨gt, 0, none⟩ = some (.int .u8 k2) ∧ w'.cell? ⟨gt, 1, none⟩ = some (.string s2) ∧ w'.cell? ⟨gt, 2, none⟩ = some (.int .i64 n2) ∧ w'.cell? ⟨gt, 3, none⟩ = some (.slice aa2 mm2 cc2))) [] (by kernel_rfl) ?_ (fun hHeld => ?_)
      · exact ⟨HCS.out _ (HF.out.then (Fr.drew _)), HCT.out _ (HF.out.then (Fr.drew _))⟩
      refine take_op 0 (some 48) (Op.load 24 ( .tmp 5)) 24 ?_ (by kernel_rfl) (by kernel_rfl) (by kernel_rfl) (fun _ _ _ h => h) ?_ (by assumption) ?_
      rotate_left
      · intro w hSw; (try dsimp only at hSw); go_simp; (try (with_reducible rfl))
      try simp only [Act.put, List.setIfInBounds_toArray, List.set_cons_zero, List.set_cons_succ]
      refine take_op 1 (some 49) (Op.move ( .tmp 3)) 22 ?_ (by kernel_rfl) (by kernel_rfl) (by kernel_rfl) (fun _ _ _ h => h) ?_ (by assumption) ?_
      rotate_left
      · intro w hSw; (try dsimp only at hSw); go_simp; (try (with_reducible rfl))
      try simp only [Act.put, List.setIfInBounds_toArray, List.set_cons_zero, List.set_cons_succ]
      refine take_op 3 (some 51) (Op.load 24 ( .tmp 6)) 24 ?_ (by kernel_rfl) (by kernel_rfl) (by kernel_rfl) (fun _ _ _ h => h) ?_ (by assumption) ?_
      rotate_left
      · intro w hSw; (try dsimp only at hSw); go_simp; (try (with_reducible rfl))
      try simp only [Act.put, List.setIfInBounds_toArray, List.set_cons_zero, List.set_cons_succ]
      refine take_op 4 (some 52) (Op.move ( .tmp 3)) 22 ?_ (by kernel_rfl) (by kernel_rfl) (by kernel_rfl) (fun _ _ _ h => h) ?_ (by assumption) ?_
      rotate_left
      · intro w hSw; (try dsimp only at hSw); go_simp; (try (with_reducible rfl))
      try simp only [Act.put, List.setIfInBounds_toArray, List.set_cons_zero, List.set_cons_succ]
      refine ready_e (rs := [2]) (by kernel_rfl) (by simp) ?_
      refine do_mid (o := _) rfl (fun K hK => ?_) none_e -- slot 50 F15
      go_simp
      go_at_call 15
      refine (rput_ok w.heap.size _ l q cap a HM.out (by omega) s (by have := HSM.out.1.1; omega) _ _ (HIS.out w.heap.size _ (Nat.le_refl _) (HF0.out.then (HF.out.then (Fr.drew _)))) (HROW.out _ (HF0.out.then (HF.out.then (Fr.drew _))))).mono ?_
      rintro e' wd ⟨v1, rfl, hi1, hfd⟩
      obtain ⟨x0, x1, x2, x3, rfl⟩ := is_agg hi1
      obtain ⟨kk5, ss5, nn5, ab5, mb5, cb5, rfl, rfl, rfl, rfl⟩ := is_cells hi1
      have HI5 := Lib.hid hi1
      have HFD := Lib.hid (HF.out.then ((Fr.drew wr).then hfd))
      clear hi1 hfd
      refine hK.out _ _ ?_ (fun hHeld => ?_)
      · exact ⟨HCS.out _ HFD.out, HCT.out _ HFD.out⟩
      clear hK K
      try dsimp only
      try simp only [Act.put, List.setIfInBounds_toArray, List.set_cons_zero, List.set_cons_succ]
      refine ready_e (rs := [5]) (by kernel_rfl) (by simp) ?_
      refine do_mid (o := _) rfl (fun K hK => ?_) none_e -- slot 53 F15
      go_simp
      go_at_call 15
      refine (rput_ok w.heap.size _ l q cap a HM.out (by omega) t (by have := HSM.out.2.1; omega) _ _ (HIT.out w.heap.size _ (Nat.le_refl _) (HF0.out.then HFD.out)) (HROW.out _ (HF0.out.then HFD.out))).mono ?_
      rintro e' we ⟨v2, rfl, hi2, hfe⟩
      obtain ⟨x0, x1, x2, x3, rfl⟩ := is_agg hi2
      obtain ⟨kk6, ss6, nn6, ab6, mb6, cb6, rfl, rfl, rfl, rfl⟩ := is_cells hi2
      have HI6 := Lib.hid hi2
      have HI7 := Lib.hid (HI5.out.no hfe)
      have HFE := Lib.hid (HFD.out.then hfe)
      clear hi2 hfe
      refine hK.out _ _ ?_ (fun hHeld => ?_)
      · exact ⟨HCS.out _ HFE.out, HCT.out _ HFE.out⟩
      clear hK K
      try dsimp only
      try simp only [Act.put, List.setIfInBounds_toArray, List.set_cons_zero, List.set_cons_succ]
      refine ready_e (rs := [6]) (by kernel_rfl) (by simp) ?_
      refine do_mid (o := _) rfl (fun K hK => ?_) none_e -- slot 54 F13
      go_simp
      go_at_call 13
      refine (rsame_ok (putT l s) (putT l t) HPP.out.1 HPP.out.2 _ _ _ _ _ _ _ HI7.out HI6.out).mono ?_
      rintro e' wf ⟨rfl, hff⟩
      have HFF := Lib.hid (HFE.out.then hff)
      clear hff
      refine hK.out _ _ ?_ (fun hHeld => ?_)
      · exact ⟨HCS.out _ HFF.out, HCT.out _ HFF.out⟩
      clear hK K
      try dsimp only
      try simp only [Act.put, List.setIfInBounds_toArray, List.set_cons_zero, List.set_cons_succ]
      refine take_op 7 (some 55) (Op.unOp UnOp.not 4 ( .tmp 54)) 4 ?_ (by kernel_rfl) (by kernel_rfl) (by kernel_rfl) (fun _ _ _ h => h) ?_ (by assumption) ?_
      rotate_left
      · intro w hSw; (try dsimp only at hSw); go_simp; (try (with_reducible rfl))
      try simp only [Act.put, List.setIfInBounds_toArray, List.set_cons_zero, List.set_cons_succ]
      refine done_e (by kernel_rfl) ?_ _
      have HF6 : Hid (Fr No w0 wf) := Lib.hid HFF.out
      clear HFD HFE HFF HI5 HI6 HI7
      cases hsm : same (putT l s) (putT l t) with
      | false =>
        clear hsm
        go_wp2_with fail
        refine (works_any _).mono ?_
        rintro e w9 ⟨rfl, hf9⟩
        go_wp2_with fail
        go_ret
        exact ⟨rfl, (HF0.out.then HF6.out).then hf9⟩
      | true =>
        have HEQ : Hid (putT l s = putT l t) := Lib.hid ((same_iff _ _).1 hsm)
        clear hsm
        go_wp2_with fail
        refine (books_any n many HMANY.out hn _).mono ?_
        rintro e w4 ⟨g, gr, rfl, hbk, hf4⟩
        obtain ⟨bs, hbs⟩ : ∃ bs, wf.heap.size = bs := ⟨_, rfl⟩
        rw [hbs] at hbk
        have HB4 := Lib.hid hbk
        have HF4 : Hid (Fr No w0 w4) := Lib.hid (HF6.out.then hf4)
        have HBS : Hid (w.heap.size ≤ bs ∧ w0.heap.size ≤ bs) := Lib.hid (by have := HF0.out.size; have := HF6.out.size; omega)
        have HIA : Hid (∀ w', Fr No w0 w' → IsT bs w' s (.agg #[.int .u8 k1, .string s1, .int .i64 n1, .slice aa1 mm1 cc1]) ∧ IsT bs w' t (.agg #[.int .u8 k2, .string s2, .int .i64 n2, .slice aa2 mm2 cc2])) := Lib.hid (fun w' hf => ⟨HIS.out bs w' HBS.out.1 (HF0.out.then hf), HIT.out bs w' HBS.out.1 (HF0.out.then hf)⟩)
        have HRA : Hid (∀ w', Fr No w0 w' → Row bs (fun _ => True) w' a 0 l) := Lib.hid (fun w' hf => row_base HBS.out.1 a 0 l (HROW.out w' (HF0.out.then hf)))
        obtain ⟨e, l', hU, hBd, hne⟩ := unif_ex (bd_nil (many := many) (by omega)) (s := s) (t := t) (by have := HSM.out.1.1; omega) (by have := HSM.out.2.1; omega)
        have HU := Lib.hid hU
        have HBD := Lib.hid hBd
        have HNE := Lib.hid hne
        clear hbk hf4 hbs hU hBd hne
        obtain ⟨c0, c1, c2, c3⟩ := HCS.out _ HF4.out
        obtain ⟨d0, d1, d2, d3⟩ := HCT.out _ HF4.out
        go_wp2_with fail
        refine (Unify_any bs g many [] l' (wfB_nil (by omega)) s t (by have := HSM.out.1.1; omega) (by have := HSM.out.2.1; omega) e HU.out _ _ w4 HB4.out (HIA.out _ HF4.out).1 (HIA.out _ HF4.out).2).mono ?_
        rintro e' w5 ⟨rfl, hb5, hf5⟩
        have HB5 := Lib.hid hb5
        have HF5 : Hid (Fr No w0 w5) := Lib.hid (HF4.out.own hf5 (fun i h => Nat.le_trans HBS.out.2 h.1))
        clear hb5 hf5 c0 c1 c2 c3 d0 d1 d2 d3
        by_cases he : e = 0
        · subst he
          have HST : Hid (Sat l l') := Lib.hid (unif_sat (many := many) (by omega) (by have := HM.out; omega) (by have := HSM.out.1.1; omega) (by have := HSM.out.2.1; omega) HEQ.out HU.out).2
          go_wp2_with fail
          go_loopw [13] (fun i wr => ∃ i' : Nat, i' ≤ many ∧ i = .int .i64 i' ∧ Hid (Fr No w0 wr) ∧ Hid (Bk bs wr g many l')) (fun i _ => many - (intOf i).toNat)
          case atStart => exact ⟨0, Nat.zero_le _, rfl, HF5, HB5⟩
          case round =>
            obtain ⟨i, hi, rfl, HF7, HB7⟩ := hrel
            by_cases him : i = many
            · subst him
              go_wp2_with fail
              refine (works_any _).mono ?_
              rintro e w9 ⟨rfl, hf9⟩
              go_wp2_with fail
              go_ret
              exact ⟨rfl, (HF0.out.then HF7.out).then hf9⟩
            · have hlti : (i : Int) < (many : Int) := by omega
              obtain ⟨x, hx⟩ := applied_ex HBD.out (varT i)
              have HAP := Lib.hid hx
              have HAX := Lib.hid (applied_var hx)
              obtain ⟨y, hy⟩ : ∃ y, l[i]? = some y := ⟨_, List.getElem?_eq_getElem (by rw [HM.out]; omega)⟩
              have HY := Lib.hid hy
              have HBO : Hid (x.kind = 0 ∨ putT l x = y) := Lib.hid (by
                have h := best_ok (L := l) (by have := HM.out; omega) HBD.out HST.out (i := i) (by omega) hx
                rw [atL_get hy] at h
                exact h)
              clear hx hy
              go_wp2_with fail
              refine (var_any i _).mono ?_
              rintro e w6 ⟨rfl, hfa⟩
              have HFA := Lib.hid (HF7.out.then hfa)
              have HBA := Lib.hid (HB7.out.no hfa)
              clear hfa
              go_wp2_with fail
              refine (Apply_any bs _ g many l' HBD.out.wf.fine (varT i) x (by simp [varT, parts, partsL]) HAP.out _ _ HBA.out.reads (Nat.le_refl _) (is_var _ i)).mono ?_
              rintro e w7 ⟨v1, rfl, hi1, hf7⟩
              obtain ⟨x0, x1, x2, x3, rfl⟩ := is_agg hi1
              obtain ⟨kx, sx, nx, aax, mmx, ccx, rfl, rfl, rfl, rfl⟩ := is_cells hi1
              have HXK := Lib.hid (is_kind hi1)
              have HI1 := Lib.hid hi1
              have HFB := Lib.hid (HFA.out.then hf7)
              have HBB := Lib.hid (HBA.out.no hf7)
              clear hi1 hf7 HF7 HB7 HFA HBA
              go_upto_region 18 with fail
              obtain ⟨w8, hw8⟩ : ∃ w8, w7.alloc (.cells #[.int .u8 kx, .string sx, .int .i64 nx, .slice aax mmx ccx] 24) = w8 := ⟨_, rfl⟩
              obtain ⟨gx, hgx⟩ : ∃ gx, w7.heap.size = gx := ⟨_, rfl⟩
              have hR8 : w8.heap[gx]? = some (.cells #[.int .u8 kx, .string sx, .int .i64 nx, .slice aax mmx ccx] 24 (0, 0)) := by rw [← hw8, ← hgx]; exact new_block w7 _
              have HF8 : Hid (Fr No w0 w8) := Lib.hid (by rw [← hw8]; exact HFB.out.then (Fr.alloc _ _))
              have HB8 : Hid (Bk bs w8 g many l') := Lib.hid (by rw [← hw8]; exact HBB.out.no (Fr.alloc _ _))
              have HIX : Hid (∀ w', Fr No w8 w' → IsT bs w' x (.agg #[.int .u8 kx, .string sx, .int .i64 nx, .slice aax mmx ccx])) := Lib.hid (fun w' hf => IsT.of0 (HI1.out.no ((Fr.alloc _ _).then (by rw [hw8]; exact hf))))
              have HCX : Hid (∀ w', Fr No w8 w' → (w'.cell? ⟨gx, 0, none⟩ = some (.int .u8 kx) ∧ w'.cell? ⟨gx, 1, none⟩ = some (.string sx) ∧ w'.cell? ⟨gx, 2, none⟩ = some (.int .i64 nx) ∧ w'.cell? ⟨gx, 3, none⟩ = some (.slice aax mmx ccx))) := Lib.hid (fun w' hf => ⟨cell_of (hf.keeps hR8 no_one) 0, cell_of (hf.keeps hR8 no_one) 1, cell_of (hf.keeps hR8 no_one) 2, cell_of (hf.keeps hR8 no_one) 3⟩)
              rw [hw8, hgx]
              clear hw8 hgx hR8 HFB HBB HI1
              by_cases hk : kx = 0
              · subst hk
                refine region_e (fun w' => (w'.cell? ⟨gx, 0, none⟩ = some (.int .u8 (0 : Nat)) ∧ w'.cell? ⟨gx, 1, none⟩ = some (.string sx) ∧ w'.cell? ⟨gx, 2, none⟩ = some (.int .i64 nx) ∧ w'.cell? ⟨gx, 3, none⟩ = some (.slice aax mmx ccx))) [] (by kernel_rfl) ?_ (fun hHeld => ?_)
                · exact HCX.out _ (Fr.drew _)
                refine take_op 0 (some 77) (Op.fieldAddr 24 ( .tmp 14) 0) 0 ?_ (by kernel_rfl) (by kernel_rfl) (by kernel_rfl) (fun _ _ _ h => h) ?_ (by assumption) ?_
                rotate_left
                · intro w hSw; (try dsimp only at hSw); go_simp; (try (with_reducible rfl))
                try simp only [Act.put, List.setIfInBounds_toArray, List.set_cons_zero, List.set_cons_succ]
                refine take_op 1 (some 78) (Op.load 5 ( .tmp 77)) 5 ?_ (by kernel_rfl) (by kernel_rfl) (by kernel_rfl) (fun _ _ _ h => h) ?_ (by assumption) ?_
                rotate_left
                · intro w hSw; (try dsimp only at hSw); go_simp; (try (with_reducible rfl))
                try simp only [Act.put, List.setIfInBounds_toArray, List.set_cons_zero, List.set_cons_succ]
                refine take_op 2 (some 79) (Op.binOp BinOp.neq 5 ( .tmp 78) ( .const (.int .u8 0)) 5) 4 ?_ (by kernel_rfl) (by kernel_rfl) (by kernel_rfl) (fun _ _ _ h => h) ?_ (by assumption) ?_
                rotate_left
                · intro w hSw; (try dsimp only at hSw); go_simp; (try (with_reducible rfl))
                try simp only [Act.put, List.setIfInBounds_toArray, List.set_cons_zero, List.set_cons_succ]
                refine take_op 3 (some 80) (Op.move ( .tmp 79)) 4 ?_ (by kernel_rfl) (by kernel_rfl) (by kernel_rfl) (fun _ _ _ h => h) ?_ (by assumption) ?_
                rotate_left
                · intro w hSw; (try dsimp only at hSw); go_simp; (try (with_reducible rfl))
                try simp only [Act.put, List.setIfInBounds_toArray, List.set_cons_zero, List.set_cons_succ]
                refine skip_op 4 (some 81) (by kernel_rfl) (by kernel_rfl) (by kernel_rfl) (fun _ _ _ h => h) (by assumption) ?_
                try simp only [Act.put, List.setIfInBounds_toArray, List.set_cons_zero, List.set_cons_succ]
                refine skip_op 5 (some 82) (by kernel_rfl) (by kernel_rfl) (by kernel_rfl) (fun _ _ _ h => h) (by assumption) ?_
                try simp only [Act.put, List.setIfInBounds_toArray, List.set_cons_zero, List.set_cons_succ]
                refine skip_op 6 (some 83) (by kernel_rfl) (by kernel_rfl) (by kernel_rfl) (fun _ _ _ h => h) (by assumption) ?_
                try simp only [Act.put, List.setIfInBounds_toArray, List.set_cons_zero, List.set_cons_succ]
                refine skip_op 7 (some 84) (by kernel_rfl) (by kernel_rfl) (by kernel_rfl) (fun _ _ _ h => h) (by assumption) ?_
                try simp only [Act.put, List.setIfInBounds_toArray, List.set_cons_zero, List.set_cons_succ]
                refine skip_op 8 (some 85) (by kernel_rfl) (by kernel_rfl) (by kernel_rfl) (fun _ _ _ h => h) (by assumption) ?_
                try simp only [Act.put, List.setIfInBounds_toArray, List.set_cons_zero, List.set_cons_succ]
                refine skip_op 9 (some 86) (by kernel_rfl) (by kernel_rfl) (by kernel_rfl) (fun _ _ _ h => h) (by assumption) ?_
                try simp only [Act.put, List.setIfInBounds_toArray, List.set_cons_zero, List.set_cons_succ]
                refine skip_op 10 (some 87) (by kernel_rfl) (by kernel_rfl) (by kernel_rfl) (fun _ _ _ h => h) (by assumption) ?_
                try simp only [Act.put, List.setIfInBounds_toArray, List.set_cons_zero, List.set_cons_succ]
                refine skip_op 11 (some 88) (by kernel_rfl) (by kernel_rfl) (by kernel_rfl) (fun _ _ _ h => h) (by assumption) ?_
                try simp only [Act.put, List.setIfInBounds_toArray, List.set_cons_zero, List.set_cons_succ]
                refine skip_op 12 (some 89) (by kernel_rfl) (by kernel_rfl) (by kernel_rfl) (fun _ _ _ h => h) (by assumption) ?_
                try simp only [Act.put, List.setIfInBounds_toArray, List.set_cons_zero, List.set_cons_succ]
                refine take_op 13 (some 90) (Op.pick ( .tmp 80) ( .tmp 89) ( .const (Value.bool false))) 4 ?_ (by kernel_rfl) (by kernel_rfl) (by kernel_rfl) (fun _ _ _ h => h) ?_ (by assumption) ?_
                rotate_left
                · intro w hSw; (try dsimp only at hSw); go_simp; (try (with_reducible rfl))
                try simp only [Act.put, List.setIfInBounds_toArray, List.set_cons_zero, List.set_cons_succ]
                refine done_e (by kernel_rfl) ?_ _
                go_wp2_with fail
                exact ⟨⟨i + 1, by omega, by go_num, Lib.hid (HF8.out.then (Fr.drew _)), Lib.hid (HB8.out.no (Fr.drew _))⟩, by simp [intOf]; omega⟩
              · have hkb : ((kx : Int) != 0) = true := by simp only [bne_iff_ne, ne_eq]; omega
                obtain ⟨b, off, y0, y1, y2, y3, rfl, _, _, e0, e1, e2, e3, hiy⟩ := Row.at_ 0 l (HRA.out _ HF8.out) i y HY.out
                rw [Nat.zero_add] at e0 e1 e2 e3
                obtain ⟨ky, sy, ny, aay, mmy, ccy, rfl, rfl, rfl, rfl⟩ := is_cells hiy
                have HIY : Hid (∀ w', Fr No w8 w' → IsT bs w' y (.agg #[.int .u8 ky, .string sy, .int .i64 ny, .slice aay mmy ccy])) := Lib.hid (fun w' hf => IsT.no hiy hf)
                have HCY : Hid (∀ w', Fr No w8 w' → (w'.cell? ⟨b, off + i * 4, none⟩ = some (.int .u8 ky) ∧ w'.cell? ⟨b, off + i * 4 + 1, none⟩ = some (.string sy) ∧ w'.cell? ⟨b, off + i * 4 + 2, none⟩ = some (.int .i64 ny) ∧ w'.cell? ⟨b, off + i * 4 + 3, none⟩ = some (.slice aay mmy ccy))) := Lib.hid (fun w' hf => ⟨hf.cell e0, hf.cell e1, hf.cell e2, hf.cell e3⟩)
                have hltq : (i : Int) < (q : Int) := by omega
                have HPQ : Hid (parts (putT l x) ≤ 1048576) := Lib.hid (by
                  have h1 := put_parts (c := 400) (by decide) HLP.out x
                  have h2 := Nat.mul_le_mul_left 400 HAX.out
                  omega)
                have HSE : Hid (same (putT l x) y = true) := Lib.hid ((same_iff _ _).2 (HBO.out.resolve_left (fun h => hk (HXK.out.symm.trans h))))
                clear e0 e1 e2 e3 hiy
                refine region_e (fun w' => (w'.cell? ⟨gx, 0, none⟩ = some (.int .u8 kx) ∧ w'.cell? ⟨gx, 1, none⟩ = some (.string sx) ∧ w'.cell? ⟨gx, 2, none⟩ = some (.int .i64 nx) ∧ w'.cell? ⟨gx, 3, none⟩ = some (.slice aax mmx ccx)) ∧ (w'.cell? ⟨b, off + i * 4, none⟩ = some (.int .u8 ky) ∧ w'.cell? ⟨b, off + i * 4 + 1, none⟩ = some (.string sy) ∧ w'.cell? ⟨b, off + i * 4 + 2, none⟩ = some (.int .i64 ny) ∧ w'.cell? ⟨b, off + i * 4 + 3, none⟩ = some (.slice aay mmy ccy))) [] (by kernel_rfl) ?_ (fun hHeld => ?_)
                · exact ⟨HCX.out _ (Fr.drew _), HCY.out _ (Fr.drew _)⟩
                refine take_op 0 (some 77) (Op.fieldAddr 24 ( .tmp 14) 0) 0 ?_ (by kernel_rfl) (by kernel_rfl) (by kernel_rfl) (fun _ _ _ h => h) ?_ (by assumption) ?_
                rotate_left
                · intro w hSw; (try dsimp only at hSw); go_simp; (try (with_reducible rfl))
                try simp only [Act.put, List.setIfInBounds_toArray, List.set_cons_zero, List.set_cons_succ]
                refine take_op 1 (some 78) (Op.load 5 ( .tmp 77)) 5 ?_ (by kernel_rfl) (by kernel_rfl) (by kernel_rfl) (fun _ _ _ h => h) ?_ (by assumption) ?_
                rotate_left
                · intro w hSw; (try dsimp only at hSw); go_simp; (try (with_reducible rfl))
                try simp only [Act.put, List.setIfInBounds_toArray, List.set_cons_zero, List.set_cons_succ]
                refine take_op 2 (some 79) (Op.binOp BinOp.neq 5 ( .tmp 78) ( .const (.int .u8 0)) 5) 4 ?_ (by kernel_rfl) (by kernel_rfl) (by kernel_rfl) (fun _ _ _ h => h) ?_ (by assumption) ?_
                rotate_left
                · intro w hSw; (try dsimp only at hSw); go_simp; (try (with_reducible rfl))
                try simp only [Act.put, List.setIfInBounds_toArray, List.set_cons_zero, List.set_cons_succ]
                try rw [hkb]
                refine take_op 3 (some 80) (Op.move ( .tmp 79)) 4 ?_ (by kernel_rfl) (by kernel_rfl) (by kernel_rfl) (fun _ _ _ h => h) ?_ (by assumption) ?_
                rotate_left
                · intro w hSw; (try dsimp only at hSw); go_simp; (try (with_reducible rfl))
                try simp only [Act.put, List.setIfInBounds_toArray, List.set_cons_zero, List.set_cons_succ]
                refine take_op 4 (some 81) (Op.load 24 ( .tmp 14)) 24 ?_ (by kernel_rfl) (by kernel_rfl) (by kernel_rfl) (fun _ _ _ h => h) ?_ (by assumption) ?_
                rotate_left
                · intro w hSw; (try dsimp only at hSw); go_simp; (try (with_reducible rfl))
                try simp only [Act.put, List.setIfInBounds_toArray, List.set_cons_zero, List.set_cons_succ]
                refine take_op 5 (some 82) (Op.move ( .tmp 3)) 22 ?_ (by kernel_rfl) (by kernel_rfl) (by kernel_rfl) (fun _ _ _ h => h) ?_ (by assumption) ?_
                rotate_left
                · intro w hSw; (try dsimp only at hSw); go_simp; (try (with_reducible rfl))
                try simp only [Act.put, List.setIfInBounds_toArray, List.set_cons_zero, List.set_cons_succ]
                refine take_op 7 (some 84) (Op.move ( .tmp 3)) 22 ?_ (by kernel_rfl) (by kernel_rfl) (by kernel_rfl) (fun _ _ _ h => h) ?_ (by assumption) ?_
                rotate_left
                · intro w hSw; (try dsimp only at hSw); go_simp; (try (with_reducible rfl))
                try simp only [Act.put, List.setIfInBounds_toArray, List.set_cons_zero, List.set_cons_succ]
                refine take_op 8 (some 85) (Op.move ( .tmp 13)) 3 ?_ (by kernel_rfl) (by kernel_rfl) (by kernel_rfl) (fun _ _ _ h => h) ?_ (by assumption) ?_
                rotate_left
                · intro w hSw; (try dsimp only at hSw); go_simp; (try (with_reducible rfl))
                try simp only [Act.put, List.setIfInBounds_toArray, List.set_cons_zero, List.set_cons_succ]
                refine take_op 9 (some 86) (Op.indexAddr 22 ( .tmp 84) ( .tmp 85)) 0 ?_ (by kernel_rfl) (by kernel_rfl) (by kernel_rfl) (fun _ _ _ h => h) ?_ (by assumption) ?_
                rotate_left
                · intro w hSw; (try dsimp only at hSw); go_simp; (try (with_reducible rfl))
                try simp only [Act.put, List.setIfInBounds_toArray, List.set_cons_zero, List.set_cons_succ]
                refine take_op 10 (some 87) (Op.load 24 ( .tmp 86)) 24 ?_ (by kernel_rfl) (by kernel_rfl) (by kernel_rfl) (fun _ _ _ h => h) ?_ (by assumption) ?_
                rotate_left
                · intro w hSw; (try dsimp only at hSw); go_simp; (try (with_reducible rfl))
                try simp only [Act.put, List.setIfInBounds_toArray, List.set_cons_zero, List.set_cons_succ]
                refine ready_e (rs := [6]) (by kernel_rfl) (by simp) ?_
                refine do_mid (o := _) rfl (fun K hK => ?_) none_e -- slot 83 F15
                go_simp
                go_at_call 15
                refine (rput_ok bs _ l q cap (some ⟨b, off, none⟩) HM.out (by omega) x (by have := HAX.out; omega) _ _ (HIX.out _ (Fr.drew _)) (HRA.out _ (HF8.out.then (Fr.drew _)))).mono ?_
                rintro e' wd ⟨v1, rfl, hi1, hfd⟩
                obtain ⟨x0, x1, x2, x3, rfl⟩ := is_agg hi1
                obtain ⟨kk8, ss8, nn8, ab8, mb8, cb8, rfl, rfl, rfl, rfl⟩ := is_cells hi1
                have HI8 := Lib.hid hi1
                have HFD := Lib.hid ((Fr.drew w8).then hfd)
                clear hi1 hfd
                refine hK.out _ _ ?_ (fun hHeld => ?_)
                · exact ⟨HCX.out _ HFD.out, HCY.out _ HFD.out⟩
                clear hK K
                try dsimp only
                try simp only [Act.put, List.setIfInBounds_toArray, List.set_cons_zero, List.set_cons_succ]
                refine ready_e (rs := [11]) (by kernel_rfl) (by simp) ?_
                refine do_mid (o := _) rfl (fun K hK => ?_) none_e -- slot 88 F13
                go_simp
                go_at_call 13
                refine (rsame_ok (putT l x) y HPQ.out (by have := HLP.out y (List.mem_of_getElem? HY.out); omega) _ _ _ _ _ _ _ HI8.out (HIY.out _ HFD.out)).mono ?_
                rintro e' wg ⟨rfl, hfg⟩
                have HFG := Lib.hid (HFD.out.then hfg)
                rw [HSE.out]
                clear hfg
                refine hK.out _ _ ?_ (fun hHeld => ?_)
                · exact ⟨HCX.out _ HFG.out, HCY.out _ HFG.out⟩
                clear hK K
                try dsimp only
                try simp only [Act.put, List.setIfInBounds_toArray, List.set_cons_zero, List.set_cons_succ]
                refine take_op 12 (some 89) (Op.unOp UnOp.not 4 ( .tmp 88)) 4 ?_ (by kernel_rfl) (by kernel_rfl) (by kernel_rfl) (fun _ _ _ h => h) ?_ (by assumption) ?_
                rotate_left
                · intro w hSw; (try dsimp only at hSw); go_simp; (try (with_reducible rfl))
                try simp only [Act.put, List.setIfInBounds_toArray, List.set_cons_zero, List.set_cons_succ]
                refine take_op 13 (some 90) (Op.pick ( .tmp 80) ( .tmp 89) ( .const (Value.bool false))) 4 ?_ (by kernel_rfl) (by kernel_rfl) (by kernel_rfl) (fun _ _ _ h => h) ?_ (by assumption) ?_
                rotate_left
                · intro w hSw; (try dsimp only at hSw); go_simp; (try (with_reducible rfl))
                try simp only [Act.put, List.setIfInBounds_toArray, List.set_cons_zero, List.set_cons_succ]
                refine done_e (by kernel_rfl) ?_ _
                go_wp2_with fail
                exact ⟨⟨i + 1, by omega, by go_num, Lib.hid (HF8.out.then HFG.out), Lib.hid (HB8.out.no HFG.out)⟩, by simp [intOf]; omega⟩
        · have hne : (e == 0) = false := by simpa using he
          go_wp2_with fail
          refine (works_any _).mono ?_
          rintro e w9 ⟨rfl, hf9⟩
          go_wp2_with fail
          go_ret
          exact ⟨rfl, (HF0.out.then HF5.out).then hf9⟩
    · obtain ⟨x, hx⟩ : ∃ x, l[q]? = some x := ⟨_, List.getElem?_eq_getElem (by rw [HM.out]; omega)⟩
      obtain ⟨b, off, y0, y1, y2, y3, rfl, _, _, e0, e1, e2, e3, hiq⟩ := Row.at_ 0 l (HROW.out _ (HF0.out.then HF.out)) q x hx
      rw [Nat.zero_add] at e0 e1 e2 e3
      have HC := Lib.hid (HLV.out q x hx _ wr (HF0.out.then HF.out) hiq)
      obtain ⟨kx, sx, nx, aax, mmx, ccx, rfl, rfl, rfl, rfl⟩ := is_cells hiq
      have hltq : (q : Int) < (m : Int) := by omega
      have HX := Lib.hid hx
      clear hiq hx
      go_wp2_with fail
      refine HC.out.mono ?_
      rintro e w3 ⟨rfl, hf3⟩
      have HF3 : Hid (Fr No w0 w3) := Lib.hid (HF.out.then hf3)
      clear hf3 e0 e1 e2 e3
      cases hvx : vast x with
      | true =>
        clear hvx
        go_wp2_with fail
        refine (works_any _).mono ?_
        rintro e w9 ⟨rfl, hf9⟩
        go_wp2_with fail
        go_ret
        exact ⟨rfl, (HF0.out.then HF3.out).then hf9⟩
      | false =>
        have HVL3 : Hid (∀ j y, j < q + 1 → l[j]? = some y → vast y = false) := Lib.hid (fun j y hj hy => by
          rcases Nat.lt_or_ge j q with h | h
          · exact HVL.out j y h hy
          · rw [show j = q by omega, HX.out] at hy
            simp only [Option.some.injEq] at hy
            rw [← hy]
            exact hvx)
        clear hvx
        go_wp2_with fail
        exact ⟨⟨q + 1, by omega, by go_num, HF3, HVL3⟩, by simp [intOf]; omega⟩
theorem best_law (x : Int) (hx : (Lit.int .u8 x).wf = true) (s : T) (hss : Short s) (t : T) (hst : Short t) (l : List T) (hsl : ShortL l) (a : Option Addr) (cap : Nat) (vs vt : Value) (w : World) (his : IsT w.heap.size w s vs) (hit : IsT w.heap.size w t vt) (hrow : Row w.heap.size (fun _ => True) w a 0 l) :
    Calls Try.prog 4 #[.int .u8 x, vs, vt, .slice a l.length cap] w (SaidT w true) := by
  obtain ⟨n, rfl, hn⟩ := u8_wf hx
  exact best_any n hn s hss t hst l hsl l.length rfl a cap vs vt w his hit hrow
end Go.Proofs.Ytfjddfcndammdaa
