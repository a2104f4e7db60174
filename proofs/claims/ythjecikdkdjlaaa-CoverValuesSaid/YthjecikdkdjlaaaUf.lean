/- Is a row of use behind some? The search. -/
import Derived.Test.YthjecikdkdjlaaaWu
import Derived.Test.YthjecikdkdjlaaaGd
namespace Go.Proofs.Ythjecikdkdjlaaa
open Go.RowKit

theorem row_one {base : Nat} {w : World} {g : Nat} {p : T} {x0 x1 x2 x3 : Value} {cs : Array Value} (hb : w.heap[g]? = some (.cells #[x0, x1, x2, x3] 40 (0, 0))) (hi : IsT base w p (.agg #[x0, x1, x2, x3])) : Row base (fun _ => True) w (some ⟨g, 0, none⟩) 0 [p] := by
  simp only [Row, and_true]
  exact ⟨g, 0, x0, x1, x2, x3, rfl, trivial, .inr ⟨_, _, hb⟩, cell_of hb 0, cell_of hb 1, cell_of hb 2, cell_of hb 3, hi⟩
set_option maxHeartbeats 1000000 in
set_option maxRecDepth 100000 in
theorem useful_step (base : Nat) (is : List Inf) (gc F : Nat) (rows : List (List T)) (row : List T) (hF : phi rows row < F + 1) (hg : Good is rows row) (ar av : Option Addr) (cr cv : Nat) (w : World) (hr : RowsV base w (.slice ar rows.length cr) rows) (hrow : RowV base w (.slice av row.reverse.length cv) row.reverse) (hc : Chk w gc is) (hbase : base ≤ w.heap.size)
    (HI : Hid (∀ rows' row', phi rows' row' < F → Good is rows' row' → ∀ vr v w', RowsV base w' vr rows' → RowV base w' v row'.reverse → Fr No w w' → Calls Try.prog 23 #[.pointer (some ⟨gc, 0, none⟩), vr, v] w' (SaidT w' (useW is rows' row')))) :
    Calls Try.prog 23 #[.pointer (some ⟨gc, 0, none⟩), .slice ar rows.length cr, .slice av row.reverse.length cv] w (SaidT w (useW is rows row)) := by
    obtain ⟨nr, hnr⟩ : ∃ nr, rows.length = nr := ⟨_, rfl⟩
    obtain ⟨nv, hnv⟩ : ∃ nv, row.reverse.length = nv := ⟨_, rfl⟩
    rw [hnr] at hr
    rw [hnv] at hrow
    show Calls Try.prog 23 #[.pointer (some ⟨gc, 0, none⟩), .slice ar rows.length cr, .slice av row.reverse.length cv] w _
    rw [hnr, hnv]
    obtain ⟨g3, hg3⟩ : ∃ g3, w.heap.size = g3 := ⟨_, rfl⟩
    obtain ⟨g4, hg4⟩ : ∃ g4, g3 + 1 = g4 := ⟨_, rfl⟩
    obtain ⟨g5, hg5⟩ : ∃ g5, g4 + 1 = g5 := ⟨_, rfl⟩
    obtain ⟨w0, hw0⟩ : ∃ w0, w0 = ((w.alloc (.cells #[.pointer (some ⟨gc, 0, none⟩)] 53)).alloc (.cells #[.slice ar nr cr] 56)).alloc (.cells #[.slice av nv cv] 58) := ⟨_, rfl⟩
    have r3 : Hid (w0.heap[g3]? = some (.cells #[.pointer (some ⟨gc, 0, none⟩)] 53 (0, 0))) := Lib.hid (by rw [hw0, ← hg3]; exact keep_alloc (keep_alloc (new_block w _) _) _)
    have r4 : Hid (w0.heap[g4]? = some (.cells #[.slice ar nr cr] 56 (0, 0))) := Lib.hid (by
      have h := new_block (w.alloc (.cells #[.pointer (some ⟨gc, 0, none⟩)] 53)) (.cells #[.slice ar nr cr] 56)
      rw [size_alloc, hg3, hg4] at h
      rw [hw0]
      exact keep_alloc h _)
    have r5 : Hid (w0.heap[g5]? = some (.cells #[.slice av nv cv] 58 (0, 0))) := Lib.hid (by
      have h := new_block ((w.alloc (.cells #[.pointer (some ⟨gc, 0, none⟩)] 53)).alloc (.cells #[.slice ar nr cr] 56)) (.cells #[.slice av nv cv] 58)
      rw [size_alloc, size_alloc, hg3, hg4, hg5] at h
      rw [hw0]
      exact h)
    have HF0 : Hid (Fr No w w0) := Lib.hid (by rw [hw0]; exact ((Fr.alloc w _).then (Fr.alloc _ _)).then (Fr.alloc _ _))
    have c3 : w0.cell? ⟨g3, 0, none⟩ = some (.pointer (some ⟨gc, 0, none⟩)) := cell_of r3.out 0
    have c4 : w0.cell? ⟨g4, 0, none⟩ = some (.slice ar nr cr) := cell_of r4.out 0
    have c5 : w0.cell? ⟨g5, 0, none⟩ = some (.slice av nv cv) := cell_of r5.out 0
    have HR := Lib.hid hr
    have HROW := Lib.hid hrow
    have HC := Lib.hid hc
    have HG := Lib.hid hg
    have HNR := Lib.hid hnr
    have hnr2 : nr ≤ 1048576 := by rw [← hnr]; exact hg.many
    have HB := Lib.hid hbase
    have HPF := Lib.hid hF
    clear hr hrow hc hg hbase hF hnr
    cases row with
    | nil =>
      have hnv0 : nv = 0 := by simpa using hnv.symm
      subst hnv0
      have HV : Hid (useW is rows [] = decide (nr = 0)) := Lib.hid (by
        rw [useW_nil, ← HNR.out]
        cases rows <;> simp)
      clear hnv
      by_cases h0 : nr = 0
      · have hb : ((nr : Int) == 0) = true := by simp [h0]
        have HV2 : Hid (useW is rows [] = true) := Lib.hid (by rw [HV.out]; simp [h0])
        clear HV h0
        go_enter Try.func23, Try.ntmps23
        go_upto_region 1 with fail
        rw [← hw0]
        clear hw0 hg3 hg4 hg5
        go_wp2_with fail
        go_ret
        exact ⟨by rw [HV2.out]; rfl, HF0.out⟩
      · have hb : ((nr : Int) == 0) = false := by simp only [beq_eq_false_iff_ne, ne_eq]; omega
        have HV2 : Hid (useW is rows [] = false) := Lib.hid (by rw [HV.out]; simp [h0])
        clear HV h0
        go_enter Try.func23, Try.ntmps23
        go_upto_region 1 with fail
        rw [← hw0]
        clear hw0 hg3 hg4 hg5
        go_wp2_with fail
        go_ret
        exact ⟨by rw [HV2.out]; rfl, HF0.out⟩
    | cons p r' =>
      have hok := HG.out.ok
      have HOK := Lib.hid hok.1
      have HOK2 := Lib.hid hok.2
      have hnv1 : nv = r'.length + 1 := by rw [← hnv]; simp
      have hnv2 : 0 < nv ∧ nv ≤ 1048576 := by have := hok.2.1; omega
      have hb0 : ((nv : Int) == 0) = false := by simp only [beq_eq_false_iff_ne, ne_eq]; omega
      rw [List.reverse_cons] at HROW
      have HLAST : Hid (∀ w', Fr No w w' → Calls Try.prog 35 #[.slice av nv cv] w' fun e w2 => ∃ u, e = .returned u ∧ IsT base w2 p u ∧ Fr No w' w2) := Lib.hid (fun w' hf => last_any base (r'.reverse ++ [p]) p (by simp) (by simp; omega) _ w' (HROW.out.no hf))
      obtain ⟨mr, hmr⟩ : ∃ mr, r'.reverse.length = mr := ⟨_, rfl⟩
      have HMR := Lib.hid hmr
      have HREST : Hid (∀ w', Fr No w w' → Calls Try.prog 38 #[.slice av nv cv] w' fun e w2 => ∃ a, e = .returned (.slice a mr mr) ∧ Row base (fun _ => True) w' a 0 r'.reverse ∧ w2 = w') := Lib.hid (fun w' hf => hmr ▸ rest_any base r'.reverse p (by simp; omega) _ w' (HROW.out.no hf))
      clear hmr
      have HWP : Hid (∀ (v : Value) (w' : World), IsT base w' p v → Calls Try.prog 28 #[v] w' (SaidT w' (isWild p))) := Lib.hid (fun v w' h => wild_any base p v w' h)
      have HANY : Hid (∀ (l : List T) (n cap : Nat) (a : Option Addr) (w' : World) (g : T → Bool), Fr No w0 w' → l.length = n → n ≤ 1048576 → Row base (fun _ => True) w' a 0 l →
          (∀ q ∈ l, q.kids.length ≤ 1048576 ∧ ∃ x, into is q (p :: r') = some x ∧ phi (allInto is q rows) x < F ∧ Good is (allInto is q rows) x ∧ useW is (allInto is q rows) x = g q) →
          Calls Try.prog 24 #[.slice a n cap, .func (.func 39) #[] #[.pointer (some ⟨g3, 0, none⟩), .pointer (some ⟨g5, 0, none⟩), .pointer (some ⟨g4, 0, none⟩)]] w' (SaidT w' (l.any g))) :=
        Lib.hid (fun l n cap a w' g hf hl hn hrl hall => any_said base l n cap a 39 _ g w' hl (by omega) enters39 hrl (fun t v w1 hmem hf1 hi => by
          obtain ⟨h1, x, h2, h3, h4, h5⟩ := hall t hmem
          rw [← h5]
          have hf2 := (HF0.out.then hf).then hf1
          exact one_use base is gc g3 g5 g4 rows t p r' x ar nr cr _ v w1 (HC.out.no hf2) HOK.out h1 HOK2.out.2 HOK2.out.1 (Nat.le_trans HB.out hf2.size) (HR.out.no hf2) (HROW.out.no hf2) hi h2 ((hf.then hf1).cell (cell_of r3.out 0)) ((hf.then hf1).cell (cell_of r5.out 0)) ((hf.then hf1).cell (cell_of r4.out 0)) _
            (fun w'' vr v h6 h7 h8 => HI.out _ _ h3 h4 vr v w'' h7 h8 (hf2.then h6))))
      obtain ⟨U, hU⟩ : ∃ U, useW is rows (p :: r') = U := ⟨_, rfl⟩
      have HU : Hid (useW is rows (p :: r') = U) := Lib.hid hU
      rw [hU]
      clear hok hnv hnv1 hU
      go_enter Try.func23, Try.ntmps23
      go_upto_region 1 with fail
      rw [← hw0]
      clear hw0 hg3 hg4 hg5
      go_wp2_with fail
      refine (HLAST.out _ HF0.out).mono ?_
      rintro e w1 ⟨u, rfl, hi, hf1⟩
      obtain ⟨x0, x1, x2, x3, rfl⟩ := is_agg hi
      obtain ⟨kp, sp, np, ap, mp, cp, rfl, rfl, rfl, rfl⟩ := is_cells hi
      have HF1 : Hid (Fr No w0 w1) := Lib.hid hf1
      have HI1 := Lib.hid hi
      replace c3 := hf1.cell c3
      replace c4 := hf1.cell c4
      replace c5 := hf1.cell c5
      clear hi hf1
      go_upto_region 4 with fail
      obtain ⟨w2, hw2⟩ : ∃ w2, w1.alloc (.cells #[.int .u8 kp, .string sp, .int .i64 np, .slice ap mp cp] 40) = w2 := ⟨_, rfl⟩
      obtain ⟨g7, hg7⟩ : ∃ g7, w1.heap.size = g7 := ⟨_, rfl⟩
      have r7 : Hid (w2.heap[g7]? = some (.cells #[.int .u8 kp, .string sp, .int .i64 np, .slice ap mp cp] 40 (0, 0))) := Lib.hid (by rw [← hw2, ← hg7]; exact new_block w1 _)
      have HF12 : Hid (Fr No w1 w2) := Lib.hid (by rw [← hw2]; exact Fr.alloc w1 _)
      have HF2 : Hid (Fr No w0 w2) := Lib.hid (HF1.out.then HF12.out)
      rw [hw2, hg7]
      clear hw2 hg7
      replace c3 := HF12.out.cell c3
      replace c4 := HF12.out.cell c4
      replace c5 := HF12.out.cell c5
      go_wp2_with fail
      refine (HLAST.out _ (HF0.out.then HF2.out)).mono ?_
      rintro e w3 ⟨u, rfl, hi, hf3⟩
      obtain ⟨x0, x1, x2, x3, rfl⟩ := is_agg hi
      obtain ⟨kq, sq, nq, aq, mq, cq, rfl, rfl, rfl, rfl⟩ := is_cells hi
      have HF3 : Hid (Fr No w0 w3) := Lib.hid (HF2.out.then hf3)
      have HF23 : Hid (Fr No w2 w3) := Lib.hid hf3
      have HI3 := Lib.hid hi
      replace c3 := hf3.cell c3
      replace c4 := hf3.cell c4
      replace c5 := hf3.cell c5
      clear hi hf3
      go_wp2_with fail
      refine (HWP.out _ _ HI3.out).mono ?_
      rintro e w4 ⟨rfl, hf4⟩
      have HF4 : Hid (Fr No w0 w4) := Lib.hid (HF3.out.then hf4)
      have HF24 : Hid (Fr No w2 w4) := Lib.hid (HF23.out.then hf4)
      replace c3 := hf4.cell c3
      replace c4 := hf4.cell c4
      replace c5 := hf4.cell c5
      clear hf4
      cases hw : isWild p with
      | false =>
        have HUV : Hid (U = [p].any (fun q => useW is (allInto is p rows) (p.kids ++ r'))) := Lib.hid (by
          rw [← HU.out, useW_cons, hw]
          simp)
        have HCA := Lib.hid (HANY.out [p] 1 1 (some ⟨g7, 0, none⟩) w4 (fun q => useW is (allInto is p rows) (p.kids ++ r')) HF4.out rfl (by omega) (row_keepNo (row_one (cs := #[]) r7.out (HI1.out.no HF12.out)) HF24.out) (fun q hq => by
          simp only [List.mem_singleton] at hq
          subst hq
          refine ⟨HOK2.out.2, q.kids ++ r', by simp [into, hw], Nat.lt_of_lt_of_le (phi_own hw) (Nat.le_of_lt_succ HPF.out), HG.out.own hw, rfl⟩))
        rw [← HUV.out] at HCA
        clear hw HUV
        go_wp2_with fail
        refine HCA.out.mono ?_
        rintro e w5 ⟨rfl, hf5⟩
        have HF5 := Lib.hid hf5
        clear hf5 c3 c4 c5
        go_wp2_with fail
        go_ret
        exact ⟨rfl, (HF0.out.then HF4.out).then HF5.out⟩
      | true =>
        have HW : Hid (isWild p = true) := Lib.hid hw
        have HFI := Lib.hid (firsts_any base is gc rows nr cr ar w4 HOK.out HG.out.wf (HC.out.no (HF0.out.then HF4.out)) (HR.out.no (HF0.out.then HF4.out)) (Nat.le_trans HB.out (HF0.out.then HF4.out).size))
        clear hw
        go_wp2_with fail
        refine HFI.out.mono ?_
        rintro e w5 ⟨hf5, vf, rfl, hvf⟩
        obtain ⟨af, cf, rfl, hcf, hrf⟩ := hvf
        have HRF := Lib.hid hrf
        have HF5 : Hid (Fr No w0 w5) := Lib.hid (HF4.out.then hf5)
        replace c3 := hf5.cell c3
        replace c4 := hf5.cell c4
        replace c5 := hf5.cell c5
        have hfl : (firsts is rows).length ≤ 1048576 := by
          have h := firsts_len is rows rows.length
          rw [List.take_length, HNR.out] at h
          omega
        obtain ⟨nf, hnf⟩ : ∃ nf, (firsts is rows).length = nf := ⟨_, rfl⟩
        rw [hnf] at hfl ⊢
        have HNF := Lib.hid hnf
        have HWH := Lib.hid (whole_any base is gc (firsts is rows) nf cf af w5 hnf (by omega) (HC.out.no (HF0.out.then HF5.out)) hrf)
        clear hf5 hrf hcf hnf HFI
        go_wp2_with fail
        refine HWH.out.mono ?_
        rintro e w6 ⟨rfl, hf6⟩
        have HF6 : Hid (Fr No w0 w6) := Lib.hid (HF5.out.then hf6)
        have HRF6 := Lib.hid (row_keepNo HRF.out hf6)
        replace c3 := hf6.cell c3
        replace c4 := hf6.cell c4
        replace c5 := hf6.cell c5
        clear hf6 HWH
        cases hwh : whole is (firsts is rows) with
        | true =>
          have HUV : Hid (U = (firsts is rows).any (fun q => useW is (allInto is q rows) (List.replicate q.kids.length anyP ++ r'))) := Lib.hid (by
            rw [← HU.out, useW_cons, HW.out, hwh]
            simp)
          have HCA := Lib.hid (HANY.out (firsts is rows) nf cf af w6 (fun q => useW is (allInto is q rows) (List.replicate q.kids.length anyP ++ r')) HF6.out HNF.out hfl HRF6.out (fun q hq =>
            ⟨(okP_parts (HG.out.first_ok hq)).2.1, _, by simp only [into, HW.out]; rfl, Nat.lt_of_lt_of_le (phi_first hq) (Nat.le_of_lt_succ HPF.out), HG.out.first hq, rfl⟩))
          rw [← HUV.out] at HCA
          clear hwh HUV
          go_wp2_with fail
          refine HCA.out.mono ?_
          rintro e w7 ⟨rfl, hf7⟩
          have HF7 := Lib.hid hf7
          clear hf7 c3 c4 c5
          go_wp2_with fail
          go_ret
          exact ⟨rfl, (HF0.out.then HF6.out).then HF7.out⟩
        | false =>
          have HUV : Hid (useW is (restRows rows) r' = U) := Lib.hid (by
            rw [← HU.out, useW_cons, HW.out, hwh]
            simp)
          have HPHI : Hid (phi (restRows rows) r' < F) := Lib.hid (Nat.lt_of_lt_of_le phi_rest (Nat.le_of_lt_succ HPF.out))
          have HWQ : Hid (∀ (q : T) (v : Value) (w' : World), IsT base w' q v → Calls Try.prog 28 #[v] w' (SaidT w' (isWild q))) := Lib.hid (fun q v w' h => wild_any base q v w' h)
          have HBW : Hid (base ≤ w6.heap.size) := Lib.hid (Nat.le_trans HB.out (HF0.out.then HF6.out).size)
          clear hwh hfl
          go_wp2_with fail
          clear c3 c4 c5
          go_loopw [8, 32] (fun v i wr => ∃ k : Nat, k ≤ nr ∧ i = .int .i64 k ∧ Hid (Fr No w6 wr) ∧ Hid (OutR base w6.heap.size wr v (restRows (rows.take k)))) (fun _ i _ => nr - (intOf i).toNat)
          case atStart => exact ⟨0, Nat.zero_le _, rfl, Lib.hid (Fr.refl _ _), Lib.hid (OutR.nil _ _ _)⟩
          case round =>
            obtain ⟨k, hk, rfl, HF, HO⟩ := hrel
            by_cases hkn : k = nr
            · subst hkn
              have HFK : Hid (Fr No w0 wr) := Lib.hid (HF6.out.then HF.out)
              have HRR : Hid (RowsV base wr u8 (restRows rows)) := Lib.hid (by
                have h := HO.out.rows
                rw [← HNR.out, List.take_length] at h
                exact h)
              have c3 : wr.cell? ⟨g3, 0, none⟩ = some (.pointer (some ⟨gc, 0, none⟩)) := HFK.out.cell (cell_of r3.out 0)
              have c5 : wr.cell? ⟨g5, 0, none⟩ = some (.slice av nv cv) := HFK.out.cell (cell_of r5.out 0)
              go_upto_region 14 with fail
              refine region_e (fun w' => w'.cell? ⟨g3, 0, none⟩ = some (.pointer (some ⟨gc, 0, none⟩)) ∧ w'.cell? ⟨g5, 0, none⟩ = some (.slice av nv cv)) [] (by kernel_rfl) ?_ (fun hHeld => ?_)
              · exact ⟨(Fr.drew _).cell c3, (Fr.drew _).cell c5⟩
              refine take_op 0 (some 45) (Op.load 53 ( .tmp 3)) 53 ?_ (by kernel_rfl) (by kernel_rfl) (by kernel_rfl) (fun _ _ _ h => h) ?_ (by assumption) ?_
              rotate_left
              · intro w hSw; (try dsimp only at hSw); go_simp; (try (with_reducible rfl))
              try simp only [Act.put, List.setIfInBounds_toArray, List.set_cons_zero, List.set_cons_succ]
              refine take_op 1 (some 46) (Op.move ( .tmp 8)) 56 ?_ (by kernel_rfl) (by kernel_rfl) (by kernel_rfl) (fun _ _ _ h => h) ?_ (by assumption) ?_
              rotate_left
              · intro w hSw; (try dsimp only at hSw); go_simp; (try (with_reducible rfl))
              try simp only [Act.put, List.setIfInBounds_toArray, List.set_cons_zero, List.set_cons_succ]
              refine take_op 2 (some 47) (Op.load 58 ( .tmp 5)) 58 ?_ (by kernel_rfl) (by kernel_rfl) (by kernel_rfl) (fun _ _ _ h => h) ?_ (by assumption) ?_
              rotate_left
              · intro w hSw; (try dsimp only at hSw); go_simp; (try (with_reducible rfl))
              try simp only [Act.put, List.setIfInBounds_toArray, List.set_cons_zero, List.set_cons_succ]
              refine ready_e (rs := [3]) (by kernel_rfl) (by simp) ?_
              refine do_mid (o := _) rfl (fun K hK => ?_) none_e -- slot 48 F38
              go_simp
              go_at_call 38
              refine (HREST.out _ (HF0.out.then (HFK.out.then (Fr.drew _)))).mono ?_
              rintro e' w5' ⟨ax, rfl, hrx, rfl⟩
              have HRX := Lib.hid hrx
              clear hrx
              refine hK.out _ _ ?_ (fun hHeld => ?_)
              · exact ⟨(Fr.drew _).cell c3, (Fr.drew _).cell c5⟩
              clear hK K
              try dsimp only
              try simp only [Act.put, List.setIfInBounds_toArray, List.set_cons_zero, List.set_cons_succ]
              refine ready_e (rs := [4]) (by kernel_rfl) (by simp) ?_
              refine do_mid (o := _) rfl (fun K hK => ?_) none_e -- slot 49 F23
              go_simp
              go_at_call 23
              refine (HI.out (restRows rows) r' HPHI.out HG.out.rest _ _ _ (HRR.out.no (Fr.drew _)) ⟨ax, mr, by rw [HMR.out], by rw [HMR.out]; exact Nat.le_refl _, HRX.out⟩ (HF0.out.then (HFK.out.then (Fr.drew _)))).mono ?_
              rintro e' w6' ⟨rfl, hf6'⟩
              have HF6W : Hid (Fr No w w6') := Lib.hid ((HF0.out.then (HFK.out.then (Fr.drew _))).then hf6')
              have HF06 : Hid (Fr No wr w6') := Lib.hid ((Fr.drew _).then hf6')
              clear hf6'
              refine hK.out _ _ ?_ (fun hHeld => ?_)
              · exact ⟨HF06.out.cell c3, HF06.out.cell c5⟩
              clear hK K
              try dsimp only
              try simp only [Act.put, List.setIfInBounds_toArray, List.set_cons_zero, List.set_cons_succ]
              refine take_op 5 (some 6) (Op.assign ( .tmp 49)) 4 ?_ (by kernel_rfl) (by kernel_rfl) (by kernel_rfl) (fun _ _ _ h => h) ?_ (by assumption) ?_
              rotate_left
              · intro w hSw; (try dsimp only at hSw); go_simp; (try (with_reducible rfl))
              try simp only [Act.put, List.setIfInBounds_toArray, List.set_cons_zero, List.set_cons_succ]
              refine done_e (by kernel_rfl) ?_ _
              (try simp only [Exit.inBlock, Exit.then])
              go_wp2_with fail
              go_ret
              exact ⟨by rw [← HUV.out]; rfl, HF6W.out⟩
            · obtain ⟨r2, hrk⟩ : ∃ r2, rows[k]? = some r2 := ⟨_, List.getElem?_eq_getElem (by rw [HNR.out]; omega)⟩
              obtain ⟨p2, r2', rfl, hl2, hk2⟩ := HOK.out.2 r2 (List.mem_of_getElem? hrk)
              obtain ⟨b, off, u, rfl, hcell, hrow2⟩ := (HR.out.no (HF0.out.then (HF6.out.then HF.out))).at_ hrk
              rw [List.reverse_cons] at hrow2
              obtain ⟨au, cu, rfl, hcu1, hcu2⟩ := id hrow2
              clear hcu1 hcu2
              have HROW2 := Lib.hid hrow2
              have HRK := Lib.hid hrk
              have HRS := Lib.hid (restRows_snoc hrk)
              obtain ⟨mu, hmu⟩ : ∃ mu, (r2'.reverse ++ [p2]).length = mu := ⟨_, rfl⟩
              rw [hmu] at hcell HROW2
              have HL2 : Hid (∀ w', Fr No wr w' → Calls Try.prog 35 #[.slice au mu cu] w' fun e w2 => ∃ u, e = .returned u ∧ IsT base w2 p2 u ∧ Fr No w' w2) := Lib.hid (fun w' hf => last_any base (r2'.reverse ++ [p2]) p2 (by simp) (by simp; omega) _ w' (HROW2.out.no hf))
              have HRS2 : Hid (∀ w', Fr No wr w' → Calls Try.prog 38 #[.slice au mu cu] w' fun e w2 => ∃ a, e = .returned (.slice a r2'.reverse.length r2'.reverse.length) ∧ Row base (fun _ => True) w' a 0 r2'.reverse ∧ w2 = w') := Lib.hid (fun w' hf => rest_any base r2'.reverse p2 (by simp; omega) _ w' (HROW2.out.no hf))
              have hlt : (k : Int) < (nr : Int) := by omega
              have HL3 : Hid ((restRows (rows.take k)).length ≤ 1048576) := Lib.hid (by
                have h1 := List.length_filterMap_le (fun r : List T => match r with | [] => none | p :: r => if isWild p then some r else none) (rows.take k)
                have h2 : (rows.take k).length ≤ rows.length := by rw [List.length_take]; omega
                have h3 : (restRows (rows.take k)).length ≤ (rows.take k).length := h1
                have := HNR.out
                omega)
              clear hrk hrow2 hmu hl2 hk2
              go_wp2_with fail
              refine (HL2.out _ (Fr.refl _ _)).mono ?_
              rintro e wa ⟨ua, rfl, hia, hfa⟩
              obtain ⟨x0, x1, x2, x3, rfl⟩ := is_agg hia
              obtain ⟨ka, sa, na, aa, ma, ca, rfl, rfl, rfl, rfl⟩ := is_cells hia
              have HFA : Hid (Fr No wr wa) := Lib.hid hfa
              have HIA := Lib.hid hia
              clear hia hfa hcell
              go_wp2_with fail
              refine (HWQ.out p2 _ _ HIA.out).mono ?_
              rintro e wb ⟨rfl, hfb⟩
              have HFB : Hid (Fr No wr wb) := Lib.hid (HFA.out.then hfb)
              clear hfb
              cases hw2 : isWild p2 with
              | false =>
                rw [hw2] at HRS
                clear hw2
                go_wp2_with fail
                refine ⟨⟨k + 1, by omega, by go_num, Lib.hid (HF.out.then HFB.out), Lib.hid ?_⟩, by simp [intOf]; omega⟩
                rw [HRS.out]
                simpa using HO.out.no HFB.out
              | true =>
                rw [hw2] at HRS
                clear hw2
                go_wp2_with fail
                refine (HRS2.out _ HFB.out).mono ?_
                rintro e wc ⟨ac, rfl, hrc, rfl⟩
                have HRC := Lib.hid hrc
                obtain ⟨mc, hmc⟩ : ∃ mc, r2'.reverse.length = mc := ⟨_, rfl⟩
                rw [hmc]
                have HMC := Lib.hid hmc
                obtain ⟨wd, hwd⟩ : ∃ wd, wc.alloc (.cells #[.slice ac mc mc] 58) = wd := ⟨_, rfl⟩
                obtain ⟨gd, hgd⟩ : ∃ gd, wc.heap.size = gd := ⟨_, rfl⟩
                have RD : Hid (wd.heap[gd]? = some (.cells #[.slice ac mc mc] 58 (0, 0))) := Lib.hid (by rw [← hwd, ← hgd]; exact new_block wc _)
                have HFD : Hid (Fr No wr wd) := Lib.hid (by rw [← hwd]; exact HFB.out.then (Fr.alloc _ _))
                have HFCD : Hid (Fr No wc wd) := Lib.hid (by rw [← hwd]; exact Fr.alloc _ _)
                have HRD : Hid (RowV base wd (.slice ac mc mc) r2'.reverse) := Lib.hid ⟨ac, mc, by rw [HMC.out], by rw [HMC.out]; exact Nat.le_refl _, row_keepNo HRC.out HFCD.out⟩
                have HOD := Lib.hid (HO.out.no HFD.out)
                obtain ⟨av2, cv2, hvv⟩ := HOD.out.slice
                subst hvv
                obtain ⟨ln, hln⟩ : ∃ ln, (restRows (rows.take k)).length = ln := ⟨_, rfl⟩
                have HLN := Lib.hid hln
                have hln2 : ln ≤ 1048576 := by rw [← hln]; exact HL3.out
                rw [hln] at HOD HO ⊢
                have HSZ : Hid (w6.heap.size ≤ wd.heap.size) := Lib.hid (HF.out.then HFD.out).size
                clear hrc hmc hln
                go_wp2_with (at_builtin; (try rw [hwd, hgd]); refine wpList_row1 rfl _ _ rfl base w6.heap.size (.slice av2 ln cv2) _ rfl HOD.out gd (.slice ac mc mc) rfl RD.out rfl r2' HRD.out (by rw [HLN.out]; omega) HSZ.out HBW.out ?_; rw [HLN.out]; intro a3 c3 w9 HO9 HF9)
                refine ⟨⟨k + 1, by omega, by go_num, Lib.hid ((HF.out.then HFD.out).own HF9.out (fun i h => h)), Lib.hid ?_⟩, by simp [intOf]; omega⟩
                rw [HRS.out]
                exact HO9.out
theorem useful_any (base : Nat) (is : List Inf) (gc : Nat) : ∀ (F : Nat) (rows : List (List T)) (row : List T), phi rows row < F → Good is rows row → ∀ (vr v : Value) (w : World), RowsV base w vr rows → RowV base w v row.reverse → Chk w gc is → base ≤ w.heap.size →
    Calls Try.prog 23 #[.pointer (some ⟨gc, 0, none⟩), vr, v] w (SaidT w (useW is rows row))
  | 0, _, _, h, _ => absurd h (Nat.not_lt_zero _)
  | F + 1, rows, row, hF, hg => fun vr v w hr hrow hc hbase => by
    obtain ⟨ar, cr, rfl⟩ := hr.slice
    obtain ⟨av, cv, rfl⟩ := hrow.slice
    exact useful_step base is gc F rows row hF hg ar av cr cv w hr hrow hc hbase (Lib.hid (fun rows' row' h1 h2 vr v w' h3 h4 h5 => useful_any base is gc F rows' row' h1 h2 vr v w' h3 h4 (hc.no h5) (Nat.le_trans hbase h5.size)))
end Go.Proofs.Ythjecikdkdjlaaa
