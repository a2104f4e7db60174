/- The law TypesOne: the walk. -/
import Derived.Test.YtfjddfcndammdaaBooks
import Derived.Test.YtfjddfcndammdaaMgb
import Derived.Deep.AppendLies
import Derived.Test.YtfjddfcndammdaaVast
import Derived.Deep.CutRange
namespace Go.Proofs.Ytfjddfcndammdaa
open Go.RowKit

set_option maxHeartbeats 8000000 in
set_option maxRecDepth 100000 in
theorem one_any (s : T) (hss : Short s) (t : T) (hst : Short t) (l : List T) (hsl : ShortL l) (m : Nat) (hml : l.length = m) (a : Option Addr) (cap : Nat) (vs vt : Value) (w : World) (his : IsT w.heap.size w s vs) (hit : IsT w.heap.size w t vt) (hrow : Row w.heap.size (fun _ => True) w a 0 l) :
    Calls Try.prog 7 #[vs, vt, .slice a m cap] w (SaidT w true) := by
  have HSV := Lib.hid (fun w' (hf : Fr No w w') => vast_any w.heap.size s hss vs w' hf.size (his.no hf))
  have HTV := Lib.hid (fun w' (hf : Fr No w w') => vast_any w.heap.size t hst vt w' hf.size (hit.no hf))
  have HLV := Lib.hid (fun (j : Nat) (x : T) (hx : l[j]? = some x) v w' (hf : Fr No w w') (hi : IsT w.heap.size w' x v) => vast_any w.heap.size x (shortL_at l hsl j x hx) v w' hf.size hi)
  have HROW := Lib.hid (fun w' (hf : Fr No w w') => Row.keep (Stays.of_no hf) (fun _ h => h) a 0 l hrow)
  have HM := Lib.hid hml
  obtain ⟨x0, x1, x2, x3, rfl⟩ := is_agg his
  obtain ⟨k1, s1, n1, aa1, mm1, cc1, rfl, rfl, rfl, rfl⟩ := is_cells his
  obtain ⟨x0, x1, x2, x3, rfl⟩ := is_agg hit
  obtain ⟨k2, s2, n2, aa2, mm2, cc2, rfl, rfl, rfl, rfl⟩ := is_cells hit
  have HIS := Lib.hid (fun B w' (hB : w.heap.size ≤ B) (hf : Fr No w w') => is_base hB s _ (his.no hf))
  have HIT := Lib.hid (fun B w' (hB : w.heap.size ≤ B) (hf : Fr No w w') => is_base hB t _ (hit.no hf))
  obtain ⟨w0, hw0⟩ : ∃ w0, w0 = (w.alloc (.cells #[.int .u8 k1, .string s1, .int .i64 n1, .slice aa1 mm1 cc1] 24)).alloc (.cells #[.int .u8 k2, .string s2, .int .i64 n2, .slice aa2 mm2 cc2] 24) := ⟨_, rfl⟩
  have hR0 : w0.heap[w.heap.size]? = some (.cells #[.int .u8 k1, .string s1, .int .i64 n1, .slice aa1 mm1 cc1] 24 (0, 0)) := by rw [hw0]; exact keep_alloc (new_block w _) _
  have hR1 : w0.heap[w.heap.size + 1]? = some (.cells #[.int .u8 k2, .string s2, .int .i64 n2, .slice aa2 mm2 cc2] 24 (0, 0)) := by
    have h := new_block (w.alloc (.cells #[.int .u8 k1, .string s1, .int .i64 n1, .slice aa1 mm1 cc1] 24)) (.cells #[.int .u8 k2, .string s2, .int .i64 n2, .slice aa2 mm2 cc2] 24)
    rw [size_alloc] at h
    rw [hw0]
    exact h
  have HF0 : Hid (Fr No w w0) := Lib.hid (by rw [hw0]; exact (Fr.alloc _ _).then (Fr.alloc _ _))
  clear his hit hrow hss hst hsl
  go_enter Try.func7, Try.ntmps7
  go_upto_region 1 with fail
  rw [← hw0]
  obtain ⟨gs, hgs⟩ : ∃ gs, w.heap.size = gs := ⟨_, rfl⟩
  obtain ⟨gt, hgt⟩ : ∃ gt, gs + 1 = gt := ⟨_, rfl⟩
  have HGS := Lib.hid hgs
  rw [hgs] at hR0 hR1 ⊢
  rw [hgt] at hR1 ⊢
  have HCS : Hid (∀ w', Fr No w0 w' → (w'.cell? ⟨gs, 0, none⟩ = some (.int .u8 k1) ∧ w'.cell? ⟨gs, 1, none⟩ = some (.string s1) ∧ w'.cell? ⟨gs, 2, none⟩ = some (.int .i64 n1) ∧ w'.cell? ⟨gs, 3, none⟩ = some (.slice aa1 mm1 cc1))) := Lib.hid (fun w' hf => ⟨cell_of (hf.keeps hR0 no_one) 0, cell_of (hf.keeps hR0 no_one) 1, cell_of (hf.keeps hR0 no_one) 2, cell_of (hf.keeps hR0 no_one) 3⟩)
  have HCT : Hid (∀ w', Fr No w0 w' → (w'.cell? ⟨gt, 0, none⟩ = some (.int .u8 k2) ∧ w'.cell? ⟨gt, 1, none⟩ = some (.string s2) ∧ w'.cell? ⟨gt, 2, none⟩ = some (.int .i64 n2) ∧ w'.cell? ⟨gt, 3, none⟩ = some (.slice aa2 mm2 cc2))) := Lib.hid (fun w' hf => ⟨cell_of (hf.keeps hR1 no_one) 0, cell_of (hf.keeps hR1 no_one) 1, cell_of (hf.keeps hR1 no_one) 2, cell_of (hf.keeps hR1 no_one) 3⟩)
  clear hw0 hgs hgt hR0 hR1
  obtain ⟨c0, c1, c2, c3⟩ := HCS.out _ (Fr.refl No w0)
  go_wp2_with fail
  refine (HSV.out _ HF0.out).mono ?_
  rintro e w1 ⟨rfl, hf1⟩
  have HF1 : Hid (Fr No w0 w1) := Lib.hid hf1
  clear hf1 c0 c1 c2 c3
  obtain ⟨d0, d1, d2, d3⟩ := HCT.out _ HF1.out
  cases hvs : vast s with
  | true =>
    clear hvs
    go_wp2_with fail
    refine (works_any _).mono ?_
    rintro e w9 ⟨rfl, hf9⟩
    go_wp2_with fail
    go_ret
    exact ⟨rfl, (HF0.out.then HF1.out).then hf9⟩
  | false =>
  have HVS := Lib.hid hvs
  clear hvs
  go_wp2_with fail
  refine (HTV.out _ (HF0.out.then HF1.out)).mono ?_
  rintro e w2 ⟨rfl, hf2⟩
  have HF2 : Hid (Fr No w0 w2) := Lib.hid (HF1.out.then hf2)
  clear hf2 d0 d1 d2 d3
  cases hvt : vast t with
  | true =>
    clear hvt
    go_wp2_with fail
    refine (works_any _).mono ?_
    rintro e w9 ⟨rfl, hf9⟩
    go_wp2_with fail
    go_ret
    exact ⟨rfl, (HF0.out.then HF2.out).then hf9⟩
  | false =>
  have HVT := Lib.hid hvt
  clear hvt
  by_cases hlen : (10 : Int) < (m : Int)
  · go_wp2_with fail
    refine (works_any _).mono ?_
    rintro e w9 ⟨rfl, hf9⟩
    go_wp2_with fail
    go_ret
    exact ⟨rfl, (HF0.out.then HF2.out).then hf9⟩
  go_wp2_with fail
  go_loopw [7] (fun i wr => ∃ q : Nat, q ≤ m ∧ i = .int .i64 q ∧ Hid (Fr No w0 wr) ∧ Hid (∀ j x, j < q → l[j]? = some x → vast x = false)) (fun i _ => m - (intOf i).toNat)
  case atStart => exact ⟨0, Nat.zero_le _, rfl, HF2, Lib.hid (fun j x hj => by omega)⟩
  case round =>
    obtain ⟨q, hq, rfl, HF, HVL⟩ := hrel
    by_cases hqm : q = m
    · subst hqm
      have HVA : Hid (∀ x ∈ l, vast x = false) := Lib.hid (fun x hx => by
        obtain ⟨j, hj⟩ := List.getElem?_of_mem hx
        exact HVL.out j x (by have := (List.getElem?_eq_some_iff.1 hj).1; have := HM.out; omega) hj)
      have HSM : Hid ((parts s ≤ 400 ∧ depthT s ≤ 60) ∧ (parts t ≤ 400 ∧ depthT t ≤ 60)) := Lib.hid ⟨vast_small HVS.out, vast_small HVT.out⟩
      have HLP0 : Hid (∀ x ∈ l, parts x ≤ 400) := Lib.hid (fun x hx => (vast_small (HVA.out x hx)).1)
      have HLP : Hid (∀ x ∈ l, parts x ≤ 1048576) := Lib.hid (fun x hx => by have := HLP0.out x hx; omega)
      have HPP : Hid (parts (putT l s) ≤ 1048576) := Lib.hid (by
        have h1 := put_parts (c := 400) (by decide) HLP0.out s
        have h3 := Nat.mul_le_mul_left 400 HSM.out.1.1
        omega)
      obtain ⟨c0, c1, c2, c3⟩ := HCS.out _ HF.out
      have hm10 : (q : Int) ≤ 10 := by omega
      go_wp2_with fail
      refine (twin_any 1048576 s (by have := HSM.out.1.1; omega) (Nat.le_refl _) w.heap.size _ _ wr (HIS.out _ _ (Nat.le_refl _) (HF0.out.then HF.out))).mono ?_
      rintro e w4 ⟨v4, rfl, hi4, hf4⟩
      obtain ⟨x0, x1, x2, x3, rfl⟩ := is_agg hi4
      obtain ⟨kx, sx, nx, aax, mmx, ccx, rfl, rfl, rfl, rfl⟩ := is_cells hi4
      have HI4 := Lib.hid hi4
      have HF4 : Hid (Fr No w0 w4) := Lib.hid (HF.out.then hf4)
      obtain ⟨w5, hw5⟩ : ∃ w5, w4.alloc (.cells #[.int .u8 kx, .string sx, .int .i64 nx, .slice aax mmx ccx] 24) = w5 := ⟨_, rfl⟩
      obtain ⟨gx, hgx⟩ : ∃ gx, w4.heap.size = gx := ⟨_, rfl⟩
      have hR5 : w5.heap[gx]? = some (.cells #[.int .u8 kx, .string sx, .int .i64 nx, .slice aax mmx ccx] 24 (0, 0)) := by rw [← hw5, ← hgx]; exact new_block w4 _
      have HF5 : Hid (Fr No w0 w5) := Lib.hid (by rw [← hw5]; exact HF4.out.then (Fr.alloc _ _))
      have HZ5 : Hid (w5.heap.size = gx + 1) := Lib.hid (by rw [← hw5, size_alloc, hgx])
      have HIX : Hid (∀ w', Fr No w5 w' → IsT w.heap.size w' s (.agg #[.int .u8 kx, .string sx, .int .i64 nx, .slice aax mmx ccx])) := Lib.hid (fun w' hf => IsT.of0 (HI4.out.no ((Fr.alloc _ _).then (by rw [hw5]; exact hf))))
      have HCX : Hid (∀ w', Fr No w5 w' → (w'.cell? ⟨gx, 0, none⟩ = some (.int .u8 kx) ∧ w'.cell? ⟨gx, 1, none⟩ = some (.string sx) ∧ w'.cell? ⟨gx, 2, none⟩ = some (.int .i64 nx) ∧ w'.cell? ⟨gx, 3, none⟩ = some (.slice aax mmx ccx))) := Lib.hid (fun w' hf => ⟨cell_of (hf.keeps hR5 no_one) 0, cell_of (hf.keeps hR5 no_one) 1, cell_of (hf.keeps hR5 no_one) 2, cell_of (hf.keeps hR5 no_one) 3⟩)
      clear hi4 hf4 c0 c1 c2 c3
      obtain ⟨i0, hi, hz0, hz1, hz2⟩ := info24
      have HINF := Lib.hid (And.intro hi (And.intro hz0 (And.intro hz1 hz2)))
      clear hi hz0 hz1 hz2
      obtain ⟨m, hqm⟩ : ∃ m, q = m := ⟨_, rfl⟩
      rw [hqm] at HM hm10 ⊢
      clear hqm hml hq HVL
      go_wp2_with fail
      (try rw [hw5]); (try rw [hgx])
      clear hw5 hgx hR5
      obtain ⟨w5', hw5'⟩ : ∃ w5', w5' = w5 := ⟨_, rfl⟩
      go_loopw [9, 10] (fun o i wr => ∃ q : Nat, q ≤ m ∧ i = .int .i64 q ∧ Hid (Fr No w5 wr) ∧ Hid (Built (gx + 1) wr o (l.take q))) (fun _ i _ => m - (intOf i).toNat)
      case atStart => exact ⟨0, Nat.zero_le _, rfl, Lib.hid (Fr.refl _ _), Lib.hid (Built.nil _ _)⟩
      case round =>
        obtain ⟨q, hq, rfl, HF7, HB⟩ := hrel
        obtain ⟨av, cv, hvk, _⟩ := HB.out.row
        have hql : (l.take q).length = q := by rw [List.length_take, HM.out]; omega
        rw [hql] at hvk
        by_cases hqm : q = m
        · subst hvk
          have HRP : Hid (∀ w', Fr No wr w' → Row 0 (fun b => gx + 1 ≤ b) w' av 0 l) := Lib.hid (fun w' hf => by
            obtain ⟨a2, c2, e2, h2⟩ := HB.out.row
            rw [hql] at e2
            simp only [Value.slice.injEq] at e2
            rw [e2.1]
            have h3 : l.take q = l := List.take_of_length_le (by rw [HM.out]; omega)
            rw [h3] at h2
            exact Row.keep (Stays.of_no hf) (fun _ h => h) _ 0 l h2)
          rw [hqm]
          clear hql hqm HB hq
          have HCA : Hid (∀ w', Fr No wr w' → (w'.cell? ⟨gs, 0, none⟩ = some (.int .u8 k1) ∧ w'.cell? ⟨gs, 1, none⟩ = some (.string s1) ∧ w'.cell? ⟨gs, 2, none⟩ = some (.int .i64 n1) ∧ w'.cell? ⟨gs, 3, none⟩ = some (.slice aa1 mm1 cc1)) ∧ (w'.cell? ⟨gt, 0, none⟩ = some (.int .u8 k2) ∧ w'.cell? ⟨gt, 1, none⟩ = some (.string s2) ∧ w'.cell? ⟨gt, 2, none⟩ = some (.int .i64 n2) ∧ w'.cell? ⟨gt, 3, none⟩ = some (.slice aa2 mm2 cc2)) ∧ (w'.cell? ⟨gx, 0, none⟩ = some (.int .u8 kx) ∧ w'.cell? ⟨gx, 1, none⟩ = some (.string sx) ∧ w'.cell? ⟨gx, 2, none⟩ = some (.int .i64 nx) ∧ w'.cell? ⟨gx, 3, none⟩ = some (.slice aax mmx ccx))) := Lib.hid (fun w' hf => ⟨HCS.out _ (HF5.out.then (HF7.out.then hf)), HCT.out _ (HF5.out.then (HF7.out.then hf)), HCX.out _ (HF7.out.then hf)⟩)
          have HIA : Hid (∀ w', Fr No wr w' → IsT w.heap.size w' s (.agg #[.int .u8 k1, .string s1, .int .i64 n1, .slice aa1 mm1 cc1]) ∧ IsT w.heap.size w' t (.agg #[.int .u8 k2, .string s2, .int .i64 n2, .slice aa2 mm2 cc2]) ∧ IsT w.heap.size w' s (.agg #[.int .u8 kx, .string sx, .int .i64 nx, .slice aax mmx ccx])) := Lib.hid (fun w' hf => ⟨HIS.out _ w' (Nat.le_refl _) (HF0.out.then (HF5.out.then (HF7.out.then hf))), HIT.out _ w' (Nat.le_refl _) (HF0.out.then (HF5.out.then (HF7.out.then hf))), HIX.out _ (HF7.out.then hf)⟩)
          have HRL : Hid (∀ w', Fr No wr w' → Row w.heap.size (fun _ => True) w' a 0 l) := Lib.hid (fun w' hf => HROW.out w' (HF0.out.then (HF5.out.then (HF7.out.then hf))))
          go_upto_region 14 with fail
          refine region_e (fun w' => (w'.cell? ⟨gs, 0, none⟩ = some (.int .u8 k1) ∧ w'.cell? ⟨gs, 1, none⟩ = some (.string s1) ∧ w'.cell? ⟨gs, 2, none⟩ = some (.int .i64 n1) ∧ w'.cell? ⟨gs, 3, none⟩ = some (.slice aa1 mm1 cc1)) ∧ (w'.cell? ⟨gt, 0, none⟩ = some (.int .u8 k2) ∧ w'.cell? ⟨gt, 1, none⟩ = some (.string s2) ∧ w'.cell? ⟨gt, 2, none⟩ = some (.int .i64 n2) ∧ w'.cell? ⟨gt, 3, none⟩ = some (.slice aa2 mm2 cc2)) ∧ (w'.cell? ⟨gx, 0, none⟩ = some (.int .u8 kx) ∧ w'.cell? ⟨gx, 1, none⟩ = some (.string sx) ∧ w'.cell? ⟨gx, 2, none⟩ = some (.int .i64 nx) ∧ w'.cell? ⟨gx, 3, none⟩ = some (.slice aax mmx ccx))) [] (by kernel_rfl) ?_ (fun hHeld => ?_)
          · exact HCA.out _ (Fr.drew _)
          refine take_op 0 (some 51) (Op.load 24 ( .tmp 8)) 24 ?_ (by kernel_rfl) (by kernel_rfl) (by kernel_rfl) (fun _ _ _ h => h) ?_ (by assumption) ?_
          rotate_left
          · intro w hSw; (try dsimp only at hSw); go_simp; (try (with_reducible rfl))
          try simp only [Act.put, List.setIfInBounds_toArray, List.set_cons_zero, List.set_cons_succ]
          refine take_op 2 (some 53) (Op.load 24 ( .tmp 3)) 24 ?_ (by kernel_rfl) (by kernel_rfl) (by kernel_rfl) (fun _ _ _ h => h) ?_ (by assumption) ?_
          rotate_left
          · intro w hSw; (try dsimp only at hSw); go_simp; (try (with_reducible rfl))
          try simp only [Act.put, List.setIfInBounds_toArray, List.set_cons_zero, List.set_cons_succ]
          refine ready_e (rs := [1]) (by kernel_rfl) (by simp) ?_
          refine do_mid (o := _) rfl (fun K hK => ?_) none_e -- slot 52 F23
          go_simp
          go_at_call 23
          refine (right_any 1048576 s (by have := HSM.out.1.1; omega) (by decide) _ _ _ _ (HIA.out _ (Fr.drew wr)).2.2).mono ?_
          rintro e' x1 ⟨rfl, hfa⟩
          have HGx1 : Hid (Fr No wr x1) := Lib.hid (Fr.then (Fr.drew wr) hfa)
          clear hfa
          refine hK.out _ _ ?_ (fun hHeld => ?_)
          · exact HCA.out _ HGx1.out
          clear hK K
          try dsimp only
          try simp only [Act.put, List.setIfInBounds_toArray, List.set_cons_zero, List.set_cons_succ]
          refine ready_e (rs := [3]) (by kernel_rfl) (by simp) ?_
          refine do_mid (o := _) rfl (fun K hK => ?_) none_e -- slot 54 F17
          go_simp
          go_at_call 17
          refine (rright_any 1048576 s (by have := HSM.out.1.1; omega) (by decide) _ _ _ _ (HIA.out _ HGx1.out).1).mono ?_
          rintro e' x2 ⟨rfl, hfa⟩
          have HGx2 : Hid (Fr No wr x2) := Lib.hid (Fr.then HGx1.out hfa)
          clear hfa
          refine hK.out _ _ ?_ (fun hHeld => ?_)
          · exact HCA.out _ HGx2.out
          clear hK K
          try dsimp only
          try simp only [Act.put, List.setIfInBounds_toArray, List.set_cons_zero, List.set_cons_succ]
          refine take_op 4 (some 55) (Op.binOp BinOp.neq 4 ( .tmp 52) ( .tmp 54) 4) 4 ?_ (by kernel_rfl) (by kernel_rfl) (by kernel_rfl) (fun _ _ _ h => h) ?_ (by assumption) ?_
          rotate_left
          · intro w hSw; (try dsimp only at hSw); go_simp; (try (with_reducible rfl))
          try simp only [Act.put, List.setIfInBounds_toArray, List.set_cons_zero, List.set_cons_succ]
          try simp only [bne_self_eq_false, decide_not, beq_self_eq_true, Bool.not_true]
          refine take_op 5 (some 56) (Op.move ( .tmp 55)) 4 ?_ (by kernel_rfl) (by kernel_rfl) (by kernel_rfl) (fun _ _ _ h => h) ?_ (by assumption) ?_
          rotate_left
          · intro w hSw; (try dsimp only at hSw); go_simp; (try (with_reducible rfl))
          try simp only [Act.put, List.setIfInBounds_toArray, List.set_cons_zero, List.set_cons_succ]
          refine take_op 6 (some 57) (Op.load 24 ( .tmp 8)) 24 ?_ (by kernel_rfl) (by kernel_rfl) (by kernel_rfl) (fun _ _ _ h => h) ?_ (by assumption) ?_
          rotate_left
          · intro w hSw; (try dsimp only at hSw); go_simp; (try (with_reducible rfl))
          try simp only [Act.put, List.setIfInBounds_toArray, List.set_cons_zero, List.set_cons_succ]
          refine take_op 7 (some 58) (Op.load 24 ( .tmp 4)) 24 ?_ (by kernel_rfl) (by kernel_rfl) (by kernel_rfl) (fun _ _ _ h => h) ?_ (by assumption) ?_
          rotate_left
          · intro w hSw; (try dsimp only at hSw); go_simp; (try (with_reducible rfl))
          try simp only [Act.put, List.setIfInBounds_toArray, List.set_cons_zero, List.set_cons_succ]
          refine take_op 9 (some 60) (Op.load 24 ( .tmp 3)) 24 ?_ (by kernel_rfl) (by kernel_rfl) (by kernel_rfl) (fun _ _ _ h => h) ?_ (by assumption) ?_
          rotate_left
          · intro w hSw; (try dsimp only at hSw); go_simp; (try (with_reducible rfl))
          try simp only [Act.put, List.setIfInBounds_toArray, List.set_cons_zero, List.set_cons_succ]
          refine take_op 10 (some 61) (Op.load 24 ( .tmp 4)) 24 ?_ (by kernel_rfl) (by kernel_rfl) (by kernel_rfl) (fun _ _ _ h => h) ?_ (by assumption) ?_
          rotate_left
          · intro w hSw; (try dsimp only at hSw); go_simp; (try (with_reducible rfl))
          try simp only [Act.put, List.setIfInBounds_toArray, List.set_cons_zero, List.set_cons_succ]
          refine ready_e (rs := [8]) (by kernel_rfl) (by simp) ?_
          refine do_mid (o := _) rfl (fun K hK => ?_) none_e -- slot 59 F24
          go_simp
          go_at_call 24
          refine (same_any 1048576 s (by have := HSM.out.1.1; omega) (by decide) t _ _ _ _ _ _ _ (HIA.out _ HGx2.out).2.2 (HIA.out _ HGx2.out).2.1).mono ?_
          rintro e' x3 ⟨rfl, hfa⟩
          have HGx3 : Hid (Fr No wr x3) := Lib.hid (Fr.then HGx2.out hfa)
          clear hfa
          refine hK.out _ _ ?_ (fun hHeld => ?_)
          · exact HCA.out _ HGx3.out
          clear hK K
          try dsimp only
          try simp only [Act.put, List.setIfInBounds_toArray, List.set_cons_zero, List.set_cons_succ]
          refine ready_e (rs := [11]) (by kernel_rfl) (by simp) ?_
          refine do_mid (o := _) rfl (fun K hK => ?_) none_e -- slot 62 F13
          go_simp
          go_at_call 13
          refine (rsame_ok s t (by have := HSM.out.1.1; omega) (by have := HSM.out.2.1; omega) _ _ _ _ _ _ _ (HIA.out _ HGx3.out).1 (HIA.out _ HGx3.out).2.1).mono ?_
          rintro e' x4 ⟨rfl, hfa⟩
          have HGx4 : Hid (Fr No wr x4) := Lib.hid (Fr.then HGx3.out hfa)
          clear hfa
          refine hK.out _ _ ?_ (fun hHeld => ?_)
          · exact HCA.out _ HGx4.out
          clear hK K
          try dsimp only
          try simp only [Act.put, List.setIfInBounds_toArray, List.set_cons_zero, List.set_cons_succ]
          refine take_op 12 (some 63) (Op.binOp BinOp.neq 4 ( .tmp 59) ( .tmp 62) 4) 4 ?_ (by kernel_rfl) (by kernel_rfl) (by kernel_rfl) (fun _ _ _ h => h) ?_ (by assumption) ?_
          rotate_left
          · intro w hSw; (try dsimp only at hSw); go_simp; (try (with_reducible rfl))
          try simp only [Act.put, List.setIfInBounds_toArray, List.set_cons_zero, List.set_cons_succ]
          try simp only [bne_self_eq_false, decide_not, beq_self_eq_true, Bool.not_true]
          refine take_op 13 (some 64) (Op.pick ( .tmp 56) ( .const (Value.bool true)) ( .tmp 63)) 4 ?_ (by kernel_rfl) (by kernel_rfl) (by kernel_rfl) (fun _ _ _ h => h) ?_ (by assumption) ?_
          rotate_left
          · intro w hSw; (try dsimp only at hSw); go_simp; (try (with_reducible rfl))
          try simp only [Act.put, List.setIfInBounds_toArray, List.set_cons_zero, List.set_cons_succ]
          refine take_op 14 (some 65) (Op.move ( .tmp 64)) 4 ?_ (by kernel_rfl) (by kernel_rfl) (by kernel_rfl) (fun _ _ _ h => h) ?_ (by assumption) ?_
          rotate_left
          · intro w hSw; (try dsimp only at hSw); go_simp; (try (with_reducible rfl))
          try simp only [Act.put, List.setIfInBounds_toArray, List.set_cons_zero, List.set_cons_succ]
          refine take_op 15 (some 66) (Op.load 24 ( .tmp 8)) 24 ?_ (by kernel_rfl) (by kernel_rfl) (by kernel_rfl) (fun _ _ _ h => h) ?_ (by assumption) ?_
          rotate_left
          · intro w hSw; (try dsimp only at hSw); go_simp; (try (with_reducible rfl))
          try simp only [Act.put, List.setIfInBounds_toArray, List.set_cons_zero, List.set_cons_succ]
          refine take_op 17 (some 68) (Op.load 24 ( .tmp 3)) 24 ?_ (by kernel_rfl) (by kernel_rfl) (by kernel_rfl) (fun _ _ _ h => h) ?_ (by assumption) ?_
          rotate_left
          · intro w hSw; (try dsimp only at hSw); go_simp; (try (with_reducible rfl))
          try simp only [Act.put, List.setIfInBounds_toArray, List.set_cons_zero, List.set_cons_succ]
          refine ready_e (rs := [16]) (by kernel_rfl) (by simp) ?_
          refine do_mid (o := _) rfl (fun K hK => ?_) none_e -- slot 67 F25
          go_simp
          go_at_call 25
          refine (Depth_any s (by have := HSM.out.1.1; omega) _ _ _ _ (HIA.out _ HGx4.out).2.2).mono ?_
          rintro e' x5 ⟨rfl, hfa⟩
          have HGx5 : Hid (Fr No wr x5) := Lib.hid (Fr.then HGx4.out hfa)
          clear hfa
          refine hK.out _ _ ?_ (fun hHeld => ?_)
          · exact HCA.out _ HGx5.out
          clear hK K
          try dsimp only
          try simp only [Act.put, List.setIfInBounds_toArray, List.set_cons_zero, List.set_cons_succ]
          refine ready_e (rs := [18]) (by kernel_rfl) (by simp) ?_
          refine do_mid (o := _) rfl (fun K hK => ?_) none_e -- slot 69 F26
          go_simp
          go_at_call 26
          refine (rDepth_any s (by have := HSM.out.1.1; omega) _ _ _ _ (HIA.out _ HGx5.out).1).mono ?_
          rintro e' x6 ⟨rfl, hfa⟩
          have HGx6 : Hid (Fr No wr x6) := Lib.hid (Fr.then HGx5.out hfa)
          clear hfa
          refine hK.out _ _ ?_ (fun hHeld => ?_)
          · exact HCA.out _ HGx6.out
          clear hK K
          try dsimp only
          try simp only [Act.put, List.setIfInBounds_toArray, List.set_cons_zero, List.set_cons_succ]
          refine take_op 19 (some 70) (Op.binOp BinOp.neq 3 ( .tmp 67) ( .tmp 69) 3) 4 ?_ (by kernel_rfl) (by kernel_rfl) (by kernel_rfl) (fun _ _ _ h => h) ?_ (by assumption) ?_
          rotate_left
          · intro w hSw; (try dsimp only at hSw); go_simp; (try (with_reducible rfl))
          try simp only [Act.put, List.setIfInBounds_toArray, List.set_cons_zero, List.set_cons_succ]
          try simp only [bne_self_eq_false, decide_not, beq_self_eq_true, Bool.not_true]
          refine take_op 20 (some 71) (Op.pick ( .tmp 65) ( .const (Value.bool true)) ( .tmp 70)) 4 ?_ (by kernel_rfl) (by kernel_rfl) (by kernel_rfl) (fun _ _ _ h => h) ?_ (by assumption) ?_
          rotate_left
          · intro w hSw; (try dsimp only at hSw); go_simp; (try (with_reducible rfl))
          try simp only [Act.put, List.setIfInBounds_toArray, List.set_cons_zero, List.set_cons_succ]
          refine done_e (by kernel_rfl) ?_ _
          go_upto_region 16 with fail
          refine region_e (fun w' => (w'.cell? ⟨gs, 0, none⟩ = some (.int .u8 k1) ∧ w'.cell? ⟨gs, 1, none⟩ = some (.string s1) ∧ w'.cell? ⟨gs, 2, none⟩ = some (.int .i64 n1) ∧ w'.cell? ⟨gs, 3, none⟩ = some (.slice aa1 mm1 cc1)) ∧ (w'.cell? ⟨gt, 0, none⟩ = some (.int .u8 k2) ∧ w'.cell? ⟨gt, 1, none⟩ = some (.string s2) ∧ w'.cell? ⟨gt, 2, none⟩ = some (.int .i64 n2) ∧ w'.cell? ⟨gt, 3, none⟩ = some (.slice aa2 mm2 cc2)) ∧ (w'.cell? ⟨gx, 0, none⟩ = some (.int .u8 kx) ∧ w'.cell? ⟨gx, 1, none⟩ = some (.string sx) ∧ w'.cell? ⟨gx, 2, none⟩ = some (.int .i64 nx) ∧ w'.cell? ⟨gx, 3, none⟩ = some (.slice aax mmx ccx))) [] (by kernel_rfl) ?_ (fun hHeld => ?_)
          · exact HCA.out _ (HGx6.out.then (Fr.drew _))
          refine take_op 0 (some 72) (Op.load 24 ( .tmp 3)) 24 ?_ (by kernel_rfl) (by kernel_rfl) (by kernel_rfl) (fun _ _ _ h => h) ?_ (by assumption) ?_
          rotate_left
          · intro w hSw; (try dsimp only at hSw); go_simp; (try (with_reducible rfl))
          try simp only [Act.put, List.setIfInBounds_toArray, List.set_cons_zero, List.set_cons_succ]
          refine take_op 1 (some 73) (Op.load 24 ( .tmp 3)) 24 ?_ (by kernel_rfl) (by kernel_rfl) (by kernel_rfl) (fun _ _ _ h => h) ?_ (by assumption) ?_
          rotate_left
          · intro w hSw; (try dsimp only at hSw); go_simp; (try (with_reducible rfl))
          try simp only [Act.put, List.setIfInBounds_toArray, List.set_cons_zero, List.set_cons_succ]
          refine ready_e (rs := [2]) (by kernel_rfl) (by simp) ?_
          refine do_mid (o := _) rfl (fun K hK => ?_) none_e -- slot 74 F24
          go_simp
          go_at_call 24
          refine (same_any 1048576 s (by have := HSM.out.1.1; omega) (by decide) s _ _ _ _ _ _ _ (HIA.out _ (HGx6.out.then (Fr.drew _))).1 (HIA.out _ (HGx6.out.then (Fr.drew _))).1).mono ?_
          rintro e' y1 ⟨rfl, hfa⟩
          have HGy1 : Hid (Fr No wr y1) := Lib.hid (Fr.then (HGx6.out.then (Fr.drew _)) hfa)
          clear hfa
          have HSS := Lib.hid (same_self s)
          rw [HSS.out]
          refine hK.out _ _ ?_ (fun hHeld => ?_)
          · exact HCA.out _ HGy1.out
          clear hK K
          try dsimp only
          try simp only [Act.put, List.setIfInBounds_toArray, List.set_cons_zero, List.set_cons_succ]
          refine take_op 3 (some 75) (Op.move ( .tmp 74)) 4 ?_ (by kernel_rfl) (by kernel_rfl) (by kernel_rfl) (fun _ _ _ h => h) ?_ (by assumption) ?_
          rotate_left
          · intro w hSw; (try dsimp only at hSw); go_simp; (try (with_reducible rfl))
          try simp only [Act.put, List.setIfInBounds_toArray, List.set_cons_zero, List.set_cons_succ]
          refine take_op 4 (some 76) (Op.load 24 ( .tmp 8)) 24 ?_ (by kernel_rfl) (by kernel_rfl) (by kernel_rfl) (fun _ _ _ h => h) ?_ (by assumption) ?_
          rotate_left
          · intro w hSw; (try dsimp only at hSw); go_simp; (try (with_reducible rfl))
          try simp only [Act.put, List.setIfInBounds_toArray, List.set_cons_zero, List.set_cons_succ]
          refine take_op 5 (some 77) (Op.move ( .tmp 9)) 22 ?_ (by kernel_rfl) (by kernel_rfl) (by kernel_rfl) (fun _ _ _ h => h) ?_ (by assumption) ?_
          rotate_left
          · intro w hSw; (try dsimp only at hSw); go_simp; (try (with_reducible rfl))
          try simp only [Act.put, List.setIfInBounds_toArray, List.set_cons_zero, List.set_cons_succ]
          refine take_op 7 (some 79) (Op.load 24 ( .tmp 3)) 24 ?_ (by kernel_rfl) (by kernel_rfl) (by kernel_rfl) (fun _ _ _ h => h) ?_ (by assumption) ?_
          rotate_left
          · intro w hSw; (try dsimp only at hSw); go_simp; (try (with_reducible rfl))
          try simp only [Act.put, List.setIfInBounds_toArray, List.set_cons_zero, List.set_cons_succ]
          refine take_op 8 (some 80) (Op.move ( .tmp 2)) 22 ?_ (by kernel_rfl) (by kernel_rfl) (by kernel_rfl) (fun _ _ _ h => h) ?_ (by assumption) ?_
          rotate_left
          · intro w hSw; (try dsimp only at hSw); go_simp; (try (with_reducible rfl))
          try simp only [Act.put, List.setIfInBounds_toArray, List.set_cons_zero, List.set_cons_succ]
          refine ready_e (rs := [6]) (by kernel_rfl) (by simp) ?_
          refine do_mid (o := _) rfl (fun K hK => ?_) none_e -- slot 78 F27
          go_simp
          go_at_call 27
          refine (put_any l m HM.out HLP.out s (by have := HSM.out.1.1; omega) _ _ _ _ _ _ _ _ (HIA.out _ HGy1.out).2.2 (HRP.out _ HGy1.out)).mono ?_
          rintro e' y2 ⟨v1, rfl, hi1, hfd⟩
          obtain ⟨x0, x1, x2, x3, rfl⟩ := is_agg hi1
          obtain ⟨kk5, ss5, nn5, ab5, mb5, cb5, rfl, rfl, rfl, rfl⟩ := is_cells hi1
          have HI5 := Lib.hid hi1
          have HGy2 : Hid (Fr No wr y2) := Lib.hid (HGy1.out.then hfd)
          clear hi1 hfd
          refine hK.out _ _ ?_ (fun hHeld => ?_)
          · exact HCA.out _ HGy2.out
          clear hK K
          try dsimp only
          try simp only [Act.put, List.setIfInBounds_toArray, List.set_cons_zero, List.set_cons_succ]
          refine ready_e (rs := [9]) (by kernel_rfl) (by simp) ?_
          refine do_mid (o := _) rfl (fun K hK => ?_) none_e -- slot 81 F15
          go_simp
          go_at_call 15
          refine (rput_ok w.heap.size _ l m cap a HM.out (by omega) s (by have := HSM.out.1.1; omega) _ _ (HIA.out _ HGy2.out).1 (HRL.out _ HGy2.out)).mono ?_
          rintro e' y3 ⟨v2, rfl, hi2, hfe⟩
          obtain ⟨x0, x1, x2, x3, rfl⟩ := is_agg hi2
          obtain ⟨kk6, ss6, nn6, ab6, mb6, cb6, rfl, rfl, rfl, rfl⟩ := is_cells hi2
          have HI6 := Lib.hid hi2
          have HI7 := Lib.hid (HI5.out.no hfe)
          have HGy3 : Hid (Fr No wr y3) := Lib.hid (HGy2.out.then hfe)
          clear hi2 hfe
          refine hK.out _ _ ?_ (fun hHeld => ?_)
          · exact HCA.out _ HGy3.out
          clear hK K
          try dsimp only
          try simp only [Act.put, List.setIfInBounds_toArray, List.set_cons_zero, List.set_cons_succ]
          refine ready_e (rs := [10]) (by kernel_rfl) (by simp) ?_
          refine do_mid (o := _) rfl (fun K hK => ?_) none_e -- slot 82 F13
          go_simp
          go_at_call 13
          refine (rsame_ok (putT l s) (putT l s) HPP.out HPP.out _ _ _ _ _ _ _ HI7.out HI6.out).mono ?_
          rintro e' y4 ⟨rfl, hfa⟩
          have HGy4 : Hid (Fr No wr y4) := Lib.hid (Fr.then HGy3.out hfa)
          clear hfa
          have HSP := Lib.hid (same_self (putT l s))
          rw [HSP.out]
          refine hK.out _ _ ?_ (fun hHeld => ?_)
          · exact HCA.out _ HGy4.out
          clear hK K
          try dsimp only
          try simp only [Act.put, List.setIfInBounds_toArray, List.set_cons_zero, List.set_cons_succ]
          refine take_op 11 (some 83) (Op.pick ( .tmp 75) ( .tmp 82) ( .const (Value.bool false))) 4 ?_ (by kernel_rfl) (by kernel_rfl) (by kernel_rfl) (fun _ _ _ h => h) ?_ (by assumption) ?_
          rotate_left
          · intro w hSw; (try dsimp only at hSw); go_simp; (try (with_reducible rfl))
          try simp only [Act.put, List.setIfInBounds_toArray, List.set_cons_zero, List.set_cons_succ]
          refine take_op 12 (some 84) (Op.move ( .tmp 83)) 4 ?_ (by kernel_rfl) (by kernel_rfl) (by kernel_rfl) (fun _ _ _ h => h) ?_ (by assumption) ?_
          rotate_left
          · intro w hSw; (try dsimp only at hSw); go_simp; (try (with_reducible rfl))
          try simp only [Act.put, List.setIfInBounds_toArray, List.set_cons_zero, List.set_cons_succ]
          refine take_op 13 (some 85) (Op.load 24 ( .tmp 8)) 24 ?_ (by kernel_rfl) (by kernel_rfl) (by kernel_rfl) (fun _ _ _ h => h) ?_ (by assumption) ?_
          rotate_left
          · intro w hSw; (try dsimp only at hSw); go_simp; (try (with_reducible rfl))
          try simp only [Act.put, List.setIfInBounds_toArray, List.set_cons_zero, List.set_cons_succ]
          refine take_op 14 (some 86) (Op.load 24 ( .tmp 3)) 24 ?_ (by kernel_rfl) (by kernel_rfl) (by kernel_rfl) (fun _ _ _ h => h) ?_ (by assumption) ?_
          rotate_left
          · intro w hSw; (try dsimp only at hSw); go_simp; (try (with_reducible rfl))
          try simp only [Act.put, List.setIfInBounds_toArray, List.set_cons_zero, List.set_cons_succ]
          refine ready_e (rs := [15]) (by kernel_rfl) (by simp) ?_
          refine do_mid (o := _) rfl (fun K hK => ?_) none_e -- slot 87 F13
          go_simp
          go_at_call 13
          refine (rsame_ok s s (by have := HSM.out.1.1; omega) (by have := HSM.out.1.1; omega) _ _ _ _ _ _ _ (HIA.out _ HGy4.out).2.2 (HIA.out _ HGy4.out).1).mono ?_
          rintro e' y5 ⟨rfl, hfa⟩
          have HGy5 : Hid (Fr No wr y5) := Lib.hid (Fr.then HGy4.out hfa)
          clear hfa
          rw [HSS.out]
          refine hK.out _ _ ?_ (fun hHeld => ?_)
          · exact HCA.out _ HGy5.out
          clear hK K
          try dsimp only
          try simp only [Act.put, List.setIfInBounds_toArray, List.set_cons_zero, List.set_cons_succ]
          refine take_op 16 (some 88) (Op.pick ( .tmp 84) ( .tmp 87) ( .const (Value.bool false))) 4 ?_ (by kernel_rfl) (by kernel_rfl) (by kernel_rfl) (fun _ _ _ h => h) ?_ (by assumption) ?_
          rotate_left
          · intro w hSw; (try dsimp only at hSw); go_simp; (try (with_reducible rfl))
          try simp only [Act.put, List.setIfInBounds_toArray, List.set_cons_zero, List.set_cons_succ]
          refine take_op 17 (some 89) (Op.move ( .tmp 88)) 4 ?_ (by kernel_rfl) (by kernel_rfl) (by kernel_rfl) (fun _ _ _ h => h) ?_ (by assumption) ?_
          rotate_left
          · intro w hSw; (try dsimp only at hSw); go_simp; (try (with_reducible rfl))
          try simp only [Act.put, List.setIfInBounds_toArray, List.set_cons_zero, List.set_cons_succ]
          refine ready_e (rs := [18]) (by kernel_rfl) (by simp) ?_
          refine do_mid (o := _) rfl (fun K hK => ?_) none_e -- slot 90 F9
          go_simp
          go_at_call 9
          refine (works_any _).mono ?_
          rintro e' y6 ⟨rfl, hfa⟩
          have HGy6 : Hid (Fr No wr y6) := Lib.hid (Fr.then HGy5.out hfa)
          clear hfa
          refine hK.out _ _ ?_ (fun hHeld => ?_)
          · exact HCA.out _ HGy6.out
          clear hK K
          try dsimp only
          try simp only [Act.put, List.setIfInBounds_toArray, List.set_cons_zero, List.set_cons_succ]
          refine take_op 19 (some 91) (Op.pick ( .tmp 89) ( .tmp 90) ( .const (Value.bool false))) 4 ?_ (by kernel_rfl) (by kernel_rfl) (by kernel_rfl) (fun _ _ _ h => h) ?_ (by assumption) ?_
          rotate_left
          · intro w hSw; (try dsimp only at hSw); go_simp; (try (with_reducible rfl))
          try simp only [Act.put, List.setIfInBounds_toArray, List.set_cons_zero, List.set_cons_succ]
          refine take_op 20 (some 6) (Op.assign ( .tmp 91)) 4 ?_ (by kernel_rfl) (by kernel_rfl) (by kernel_rfl) (fun _ _ _ h => h) ?_ (by assumption) ?_
          rotate_left
          · intro w hSw; (try dsimp only at hSw); go_simp; (try (with_reducible rfl))
          try simp only [Act.put, List.setIfInBounds_toArray, List.set_cons_zero, List.set_cons_succ]
          refine done_e (by kernel_rfl) ?_ _
          go_wp2_with fail
          go_ret
          exact ⟨rfl, HF0.out.then (HF5.out.then (HF7.out.then HGy6.out))⟩
        · obtain ⟨x, hx⟩ : ∃ x, l[q]? = some x := ⟨_, List.getElem?_eq_getElem (by rw [HM.out]; omega)⟩
          obtain ⟨b, off, y0, y1, y2, y3, rfl, _, _, e0, e1, e2, e3, hiq⟩ := Row.at_ 0 l (HROW.out _ (HF0.out.then (HF5.out.then HF7.out))) q x hx
          rw [Nat.zero_add] at e0 e1 e2 e3
          have HC := Lib.hid (twin_any 1048576 x (HLP.out x (List.mem_of_getElem? hx)) (Nat.le_refl _) w.heap.size _ _ wr hiq)
          obtain ⟨ky, sy, ny, aay, mmy, ccy, rfl, rfl, rfl, rfl⟩ := is_cells hiq
          have hltq : (q : Int) < (m : Int) := by omega
          have HX := Lib.hid hx
          obtain ⟨vs, hvs, hown, hvi⟩ := HB.out
          rw [hql] at hown
          have hb1 : gx + 1 ≤ wr.heap.size := by have := HF7.out.size; have := HZ5.out; omega
          have HBR := Lib.hid (fun wb wn t u v' => Built.round (wb := wb) (wn := wn) (t := t) (u := u) (v' := v') hb1 hql hvs hown hvi)
          have HOWN := Lib.hid hown
          subst hvk
          clear hiq hx hvs hown hvi hql
          go_wp2_with fail
          refine HC.out.mono ?_
          rintro e w8 ⟨v2, rfl, his2, hf2⟩
          obtain ⟨y0, y1, y2, y3, rfl⟩ := is_agg his2
          obtain ⟨kz, sz, nz, aaz, mmz, ccz, rfl, rfl, rfl, rfl⟩ := is_cells his2
          have HIS2 := Lib.hid his2
          have HF2 := Lib.hid hf2
          clear his2 hf2 e0 e1 e2 e3
          go_wp2_with (at_builtin; refine wpList_append_lies _ rfl _ _ _ rfl (gx + 1) 24 i0 _ 4 56 Try.underlying22 HINF.out.1 HINF.out.2.1 HINF.out.2.2.1 HINF.out.2.2.2 rfl (by decide) (.slice av q cv) q (vs.flatMap cells4) rfl (owns_no HOWN.out (HF2.out.then (Fr.alloc _ _))) _ 1 1 [.int .u8 kz, .string sz, .int .i64 nz, .slice aaz mmz ccz] rfl rfl (World.news_of_block (new_block _ _)) (by simp [Value.oneCell']) (by decide) (by unfold maxLen; omega) (by omega) (Nat.le_trans hb1 (HF2.out.then (Fr.alloc _ _)).size) _ rfl ?_; intro gn capn wn hownn hgrow hat hltn)
          have hnn := HBR.out _ wn x (.agg #[.int .u8 kz, .string sz, .int .i64 nz, .slice aaz mmz ccz]) (.slice (some ⟨gn, 0, none⟩) (q + 1) capn) (HF2.out.then (Fr.alloc w8 _)) (HIS2.out.no (Fr.alloc _ _)) hownn hgrow (hat.imp id (fun e => by rw [e]; rfl))
          have HNB : Hid (Built (gx + 1) wn (.slice (some ⟨gn, 0, none⟩) (q + 1) capn) (l.take (q + 1))) := Lib.hid (by
            rw [take_snoc HX.out]
            exact hnn.1)
          have HNF : Hid (Fr No w5 wn) := Lib.hid (HF7.out.own hnn.2 (fun i h => by rw [HZ5.out]; exact h))
          clear hnn hownn hgrow hat hltn
          exact ⟨⟨q + 1, by omega, by go_num, HNF, HNB⟩, by simp [intOf]; omega⟩
    · obtain ⟨x, hx⟩ : ∃ x, l[q]? = some x := ⟨_, List.getElem?_eq_getElem (by rw [HM.out]; omega)⟩
      obtain ⟨b, off, y0, y1, y2, y3, rfl, _, _, e0, e1, e2, e3, hiq⟩ := Row.at_ 0 l (HROW.out _ (HF0.out.then HF.out)) q x hx
      rw [Nat.zero_add] at e0 e1 e2 e3
      have HC := Lib.hid (HLV.out q x hx _ wr (HF0.out.then HF.out) hiq)
      obtain ⟨kx, sx, nx, aax, mmx, ccx, rfl, rfl, rfl, rfl⟩ := is_cells hiq
      have hltq : (q : Int) < (m : Int) := by omega
      have HX := Lib.hid hx
      clear hiq hx
      go_wp2_with fail
      refine HC.out.mono ?_
      rintro e w3 ⟨rfl, hf3⟩
      have HF3 : Hid (Fr No w0 w3) := Lib.hid (HF.out.then hf3)
      clear hf3 e0 e1 e2 e3
      cases hvx : vast x with
      | true =>
        clear hvx
        go_wp2_with fail
        refine (works_any _).mono ?_
        rintro e w9 ⟨rfl, hf9⟩
        go_wp2_with fail
        go_ret
        exact ⟨rfl, (HF0.out.then HF3.out).then hf9⟩
      | false =>
        have HVL3 : Hid (∀ j y, j < q + 1 → l[j]? = some y → vast y = false) := Lib.hid (fun j y hj hy => by
          rcases Nat.lt_or_ge j q with h | h
          · exact HVL.out j y h hy
          · rw [show j = q by omega, HX.out] at hy
            simp only [Option.some.injEq] at hy
            rw [← hy]
            exact hvx)
        clear hvx
        go_wp2_with fail
        exact ⟨⟨q + 1, by omega, by go_num, HF3, HVL3⟩, by simp [intOf]; omega⟩
theorem one_law (s : T) (hss : Short s) (t : T) (hst : Short t) (l : List T) (hsl : ShortL l) (a : Option Addr) (cap : Nat) (vs vt : Value) (w : World) (his : IsT w.heap.size w s vs) (hit : IsT w.heap.size w t vt) (hrow : Row w.heap.size (fun _ => True) w a 0 l) :
    Calls Try.prog 7 #[vs, vt, .slice a l.length cap] w (SaidT w true) := one_any s hss t hst l hsl l.length rfl a cap vs vt w his hit hrow
end Go.Proofs.Ytfjddfcndammdaa
