/- Types made the same: the walk. -/
import Derived.Test.YtfjddfcndammdaaBind
import Derived.Test.YtfjddfcndammdaaHand
import Derived.BigQuiet
import Derived.Deep.QuietTactic
namespace Go.Proofs.Ytfjddfcndammdaa
open Go.RowKit

theorem bind_any (base g many : Nat) (l l' : Bs) (hw : WfB many l) (n : Int) (hn0 : 0 ≤ n) (hn1 : n < many) (hlook : look l n = none) (F : Nat) (t S T0 : T) (e : Int) (hb : bindM S T0 F l n t = some (e, l')) (hgood : Good many t) (hpt : parts t ≤ 1048576)
    (hgS : Good many S) (hpS : parts S ≤ 1048576) (hgT : Good many T0) (hpT : parts T0 ≤ 1048576)
    (v : Value) (a0 a1 a2 a3 b0 b1 b2 b3 : Value) (w : World) (hbk : Bk base w g many l) (hi : IsT base w t v) (hiS : IsT base w S (.agg #[a0, a1, a2, a3])) (hiT : IsT base w T0 (.agg #[b0, b1, b2, b3])) :
    Calls Try.prog 52 #[.agg #[.pointer (some ⟨g, 0, none⟩), a0, a1, a2, a3, b0, b1, b2, b3], .int .i64 n, v] w (ErrSaid base w g many e l') := by
  rcases bindM_ext hb with ⟨rfl, rfl, u, hu, ho⟩ | ⟨rfl, u, a, b, hu, ho, ha, hb2, rfl⟩
  · exact bind_occ base g many _ hw.fine n F t u hu ho hgood hpt v a0 a1 a2 a3 b0 b1 b2 b3 w hbk hi
  · have h1 := hw.len
    have h2 := hw.fine.small
    exact bind_new base g many l hw.fine (by omega) n hn0 (by omega) hlook F t u S T0 a b hu ho hgood hpt hgS hpS hgT hpT ha hb2 v a0 a1 a2 a3 b0 b1 b2 b3 w hbk hi hiS hiT
theorem IsT.keepBk {base : Nat} {w w' : World} {t : T} {v : Value} (h : IsT base w t v) (hf : Fb base w w') : IsT base w' t v := h.fb hf
theorem drop_cons {l : List T} {k : Nat} {t : T} (h : l[k]? = some t) : l.drop k = t :: l.drop (k + 1) := by
  obtain ⟨hlt, rfl⟩ := List.getElem?_eq_some_iff.1 h
  exact List.drop_eq_getElem_cons hlt
/-- what the first region loads -/
theorem five_us {w w' : World} {gj gs gt : Nat} {v0 p0 p1 p2 p3 q0 q1 q2 q3 : Value} (hf : Fr No w w') (h : w.cell? ⟨gj, 0, none⟩ = some v0 ∧ (w.cell? ⟨gs, 0, none⟩ = some p0 ∧ w.cell? ⟨gs, 1, none⟩ = some p1 ∧ w.cell? ⟨gs, 2, none⟩ = some p2 ∧ w.cell? ⟨gs, 3, none⟩ = some p3) ∧
    w.cell? ⟨gt, 0, none⟩ = some q0 ∧ w.cell? ⟨gt, 1, none⟩ = some q1 ∧ w.cell? ⟨gt, 2, none⟩ = some q2 ∧ w.cell? ⟨gt, 3, none⟩ = some q3) :
    w'.cell? ⟨gj, 0, none⟩ = some v0 ∧ (w'.cell? ⟨gs, 0, none⟩ = some p0 ∧ w'.cell? ⟨gs, 1, none⟩ = some p1 ∧ w'.cell? ⟨gs, 2, none⟩ = some p2 ∧ w'.cell? ⟨gs, 3, none⟩ = some p3) ∧
    w'.cell? ⟨gt, 0, none⟩ = some q0 ∧ w'.cell? ⟨gt, 1, none⟩ = some q1 ∧ w'.cell? ⟨gt, 2, none⟩ = some q2 ∧ w'.cell? ⟨gt, 3, none⟩ = some q3 :=
  ⟨hf.cell h.1, ⟨hf.cell h.2.1.1, hf.cell h.2.1.2.1, hf.cell h.2.1.2.2.1, hf.cell h.2.1.2.2.2⟩, hf.cell h.2.2.1, hf.cell h.2.2.2.1, hf.cell h.2.2.2.2.1, hf.cell h.2.2.2.2.2⟩
set_option maxHeartbeats 8000000 in
set_option maxRecDepth 100000 in
theorem unify_any (base g many : Nat) (S T0 : T) (hgS : Good many S) (hpS : parts S ≤ 1048576) (hgT : Good many T0) (hpT : parts T0 ≤ 1048576) : ∀ (F : Nat) (l : Bs) (s t : T) (e : Int) (l' : Bs), uni S T0 F l s t = some (e, l') → WfB many l → Good many s → parts s ≤ 1048576 → Good many t → parts t ≤ 1048576 →
    ∀ (vs vt a0 a1 a2 a3 b0 b1 b2 b3 : Value) (w : World), Bk base w g many l → IsT base w s vs → IsT base w t vt → IsT base w S (.agg #[a0, a1, a2, a3]) → IsT base w T0 (.agg #[b0, b1, b2, b3]) →
    Calls Try.prog 37 #[.agg #[.pointer (some ⟨g, 0, none⟩), a0, a1, a2, a3, b0, b1, b2, b3], vs, vt] w (ErrSaid base w g many e l')
  | 0, _, _, _, _, _, h, _, _, _, _, _, _, _, _, _, _, _, _, _, _, _, _, _, _, _, _, _ => by cases h
  | F + 1, l, s, t, e, l', h, hw, hs, hps, ht, hpt, vs, vt, a0, a1, a2, a3, b0, b1, b2, b3, w, hbk, his, hit, hiS, hiT => by
    simp only [uni] at h
    cases h1 : hd l F s with
    | none => rw [h1] at h; cases h
    | some x =>
    cases h2 : hd l F t with
    | none =>
      rw [h1, h2] at h
      obtain ⟨k1, s1, n1, r1⟩ := x
      cases h
    | some y =>
    obtain ⟨k1, s1, n1, r1⟩ := x
    obtain ⟨k2, s2, n2, r2⟩ := y
    rw [h1, h2] at h
    simp only at h
    obtain ⟨g1, p1⟩ := hd_good hw.fine F s _ hs hps h1
    obtain ⟨g2, p2⟩ := hd_good hw.fine F t _ ht hpt h2
    have HH1 := Lib.hid (fun w' (hf : Fr No w w') => head_any base w.heap.size g many l hw.fine F s _ hs h1 vs w w' hf hbk.reads his)
    have HH2 := Lib.hid (fun w' (hf : Fr No w w') => head_any base w.heap.size g many l hw.fine F t _ ht h2 vt w w' hf hbk.reads hit)
    have HI := Lib.hid (fun l s t e l' (h : uni S T0 F l s t = some (e, l')) hw hs hps ht hpt vs vt w => unify_any base g many S T0 hgS hpS hgT hpT F l s t e l' h hw hs hps ht hpt vs vt a0 a1 a2 a3 b0 b1 b2 b3 w)
    have HW := Lib.hid hw
    have HU := Lib.hid h
    have HG := Lib.hid (And.intro g1 (And.intro p1 (And.intro g2 p2)))
    have HFR := Lib.hid (And.intro (fun hk => hd_free F s k1 s1 n1 r1 h1 hk) (fun hk => hd_free F t k2 s2 n2 r2 h2 hk))
    have HBK := Lib.hid (And.intro hbk (And.intro hiS hiT))
    obtain ⟨x0, x1, x2, x3, rfl⟩ := is_agg his
    obtain ⟨ks, ss, ns, au, ms, cs, rfl, rfl, rfl, rfl⟩ := is_cells his
    obtain ⟨x0, x1, x2, x3, rfl⟩ := is_agg hit
    obtain ⟨kt, st, nt, av, mt, ct, rfl, rfl, rfl, rfl⟩ := is_cells hit
    obtain ⟨wa, hwa⟩ : ∃ wa, wa = w.alloc (.cells #[.pointer (some ⟨g, 0, none⟩), a0, a1, a2, a3, b0, b1, b2, b3] 58) := ⟨_, rfl⟩
    obtain ⟨w0, hw0⟩ : ∃ w0, w0 = (wa.alloc (.cells #[.int .u8 ks, .string ss, .int .i64 ns, .slice au ms cs] 24)).alloc (.cells #[.int .u8 kt, .string st, .int .i64 nt, .slice av mt ct] 24) := ⟨_, rfl⟩
    have hsa : wa.heap.size = w.heap.size + 1 := by rw [hwa, size_alloc]
    have HFa : Hid (Fr No wa w0) := Lib.hid (by rw [hw0]; exact (Fr.alloc _ _).then (Fr.alloc _ _))
    have r0 : Hid (w0.heap[w.heap.size]? = some (.cells #[.pointer (some ⟨g, 0, none⟩), a0, a1, a2, a3, b0, b1, b2, b3] 58 (0, 0))) := Lib.hid (HFa.out.keeps (by rw [hwa]; exact new_block w _) no_one)
    have r1' : Hid (w0.heap[w.heap.size + 1]? = some (.cells #[.int .u8 ks, .string ss, .int .i64 ns, .slice au ms cs] 24 (0, 0))) := Lib.hid (by
      have h := new_block wa (.cells #[.int .u8 ks, .string ss, .int .i64 ns, .slice au ms cs] 24)
      rw [hsa] at h
      rw [hw0]
      exact (Fr.alloc _ _).keeps h no_one)
    have r2' : Hid (w0.heap[w.heap.size + 1 + 1]? = some (.cells #[.int .u8 kt, .string st, .int .i64 nt, .slice av mt ct] 24 (0, 0))) := Lib.hid (by
      have h := new_block (wa.alloc (.cells #[.int .u8 ks, .string ss, .int .i64 ns, .slice au ms cs] 24)) (.cells #[.int .u8 kt, .string st, .int .i64 nt, .slice av mt ct] 24)
      rw [size_alloc, hsa] at h
      rw [hw0]
      exact h)
    have HF0 : Hid (Fr No w w0) := Lib.hid ((show Fr No w wa by rw [hwa]; exact Fr.alloc w _).then HFa.out)
    clear hbk his hit hiS hiT h h1 h2 hs ht hps hpt hw g1 p1 g2 p2 hsa
    go_enter Try.func37, Try.ntmps37
    go_upto_region 1 with fail
    rw [← hwa, ← hw0]
    clear hwa hw0 HFa wa
    obtain ⟨gj, hg⟩ : ∃ gj, w.heap.size = gj := ⟨_, rfl⟩
    obtain ⟨gs, hg1⟩ : ∃ gs, gj + 1 = gs := ⟨_, rfl⟩
    obtain ⟨gt, hg2⟩ : ∃ gt, gs + 1 = gt := ⟨_, rfl⟩
    rw [hg] at r0 r1' r2' ⊢
    rw [hg1] at r1' r2' ⊢
    rw [hg2] at r2' ⊢
    have hgs : w.heap.size ≤ gs ∧ w.heap.size ≤ gt := by omega
    have hgg : gj ≠ gs ∧ gj ≠ gt ∧ gs ≠ gt := by omega
    clear hg hg1 hg2
    have u0 : w0.cell? ⟨gj, 0, none⟩ = some (.pointer (some ⟨g, 0, none⟩)) := cell_of r0.out 0
    have u1 := And.intro (cell_of r1'.out 0) (And.intro (cell_of r1'.out 1) (And.intro (cell_of r1'.out 2) (cell_of r1'.out 3)))
    have u2 := And.intro (cell_of r2'.out 0) (And.intro (cell_of r2'.out 1) (And.intro (cell_of r2'.out 2) (cell_of r2'.out 3)))
    have US := Lib.hid (And.intro u0 (And.intro u1 u2))
    clear u0 u1 u2
    refine region_e (fun w' => (w'.cell? ⟨gj, 0, none⟩ = some (.pointer (some ⟨g, 0, none⟩)) ∧ (w'.cell? ⟨gs, 0, none⟩ = some (.int .u8 ks) ∧ w'.cell? ⟨gs, 1, none⟩ = some (.string ss) ∧ w'.cell? ⟨gs, 2, none⟩ = some (.int .i64 ns) ∧ w'.cell? ⟨gs, 3, none⟩ = some (.slice au ms cs)) ∧ w'.cell? ⟨gt, 0, none⟩ = some (.int .u8 kt) ∧ w'.cell? ⟨gt, 1, none⟩ = some (.string st) ∧ w'.cell? ⟨gt, 2, none⟩ = some (.int .i64 nt) ∧ w'.cell? ⟨gt, 3, none⟩ = some (.slice av mt ct))) [8, 9] (by kernel_rfl) ?_ (fun hHeld => ?_)
    · exact US.out
    refine take_op 0 (some 11) (Op.fieldAddr 58 ( .tmp 3) 0) 0 ?_ (by kernel_rfl) (by kernel_rfl) (by kernel_rfl) (fun _ _ _ h => h) ?_ (by assumption) ?_
    rotate_left
    · intro w hSw; (try dsimp only at hSw); go_simp; (try (with_reducible rfl))
    try simp only [Act.put, List.setIfInBounds_toArray, List.set_cons_zero, List.set_cons_succ]
    refine take_op 1 (some 12) (Op.load 27 ( .tmp 11)) 27 ?_ (by kernel_rfl) (by kernel_rfl) (by kernel_rfl) (fun _ _ _ h => h) ?_ (by assumption) ?_
    rotate_left
    · intro w hSw; (try dsimp only at hSw); go_simp; (try (with_reducible rfl))
    try simp only [Act.put, List.setIfInBounds_toArray, List.set_cons_zero, List.set_cons_succ]
    refine take_op 2 (some 13) (Op.load 24 ( .tmp 4)) 24 ?_ (by kernel_rfl) (by kernel_rfl) (by kernel_rfl) (fun _ _ _ h => h) ?_ (by assumption) ?_
    rotate_left
    · intro w hSw; (try dsimp only at hSw); go_simp; (try (with_reducible rfl))
    try simp only [Act.put, List.setIfInBounds_toArray, List.set_cons_zero, List.set_cons_succ]
    refine take_op 4 (some 15) (Op.fieldAddr 58 ( .tmp 3) 0) 0 ?_ (by kernel_rfl) (by kernel_rfl) (by kernel_rfl) (fun _ _ _ h => h) ?_ (by assumption) ?_
    rotate_left
    · intro w hSw; (try dsimp only at hSw); go_simp; (try (with_reducible rfl))
    try simp only [Act.put, List.setIfInBounds_toArray, List.set_cons_zero, List.set_cons_succ]
    refine take_op 5 (some 16) (Op.load 27 ( .tmp 15)) 27 ?_ (by kernel_rfl) (by kernel_rfl) (by kernel_rfl) (fun _ _ _ h => h) ?_ (by assumption) ?_
    rotate_left
    · intro w hSw; (try dsimp only at hSw); go_simp; (try (with_reducible rfl))
    try simp only [Act.put, List.setIfInBounds_toArray, List.set_cons_zero, List.set_cons_succ]
    refine take_op 6 (some 17) (Op.load 24 ( .tmp 5)) 24 ?_ (by kernel_rfl) (by kernel_rfl) (by kernel_rfl) (fun _ _ _ h => h) ?_ (by assumption) ?_
    rotate_left
    · intro w hSw; (try dsimp only at hSw); go_simp; (try (with_reducible rfl))
    try simp only [Act.put, List.setIfInBounds_toArray, List.set_cons_zero, List.set_cons_succ]
    refine ready_e (rs := [3]) (by kernel_rfl) (by simp) ?_
    refine do_mid (o := _) rfl (fun K hK => ?_) none_e -- slot 14 F51
    go_simp
    go_at_call 51
    refine (HH1.out _ (HF0.out.then (Fr.drew _))).mono ?_
    rintro e w1 ⟨v1, rfl, hi1, hf1⟩
    obtain ⟨x0, x1, x2, x3, rfl⟩ := is_agg hi1
    obtain ⟨ky, sy, ny, a1', m1, c1, rfl, rfl, rfl, rfl⟩ := is_cells hi1
    have HI1 := Lib.hid hi1
    have HF1 := Lib.hid ((Fr.drew w0).then hf1)
    clear hi1 hf1
    refine hK.out _ _ ?_ (fun hHeld => ?_)
    · exact five_us HF1.out US.out
    clear hK K
    try dsimp only
    try simp only [Act.put, List.setIfInBounds_toArray, List.set_cons_zero, List.set_cons_succ]
    refine ready_e (rs := [7]) (by kernel_rfl) (by simp) ?_
    refine do_mid (o := _) rfl (fun K hK => ?_) none_e -- slot 18 F51
    go_simp
    go_at_call 51
    refine (HH2.out _ (HF0.out.then HF1.out)).mono ?_
    rintro e w2 ⟨v2, rfl, hi2, hf2⟩
    obtain ⟨x0, x1, x2, x3, rfl⟩ := is_agg hi2
    obtain ⟨kz, sz, nz, a2', m2, c2, rfl, rfl, rfl, rfl⟩ := is_cells hi2
    have HI2 := Lib.hid hi2
    have HF2 := Lib.hid (HF1.out.then hf2)
    clear hi2 hf2
    refine hK.out _ _ ?_ (fun hHeld => ?_)
    · exact five_us HF2.out US.out
    clear hK K
    try dsimp only
    try simp only [Act.put, List.setIfInBounds_toArray, List.set_cons_zero, List.set_cons_succ]
    have R0 := Lib.hid (HF2.out.keeps r0.out no_one)
    have R1 := Lib.hid (HF2.out.keeps r1'.out no_one)
    have R2 := Lib.hid (HF2.out.keeps r2'.out no_one)
    have y0 := free_of R1.out 0
    have y1 := free_of R1.out 1
    have y2 := free_of R1.out 2
    have y3 := free_of R1.out 3
    have z0 := cell_of R1.out 0
    have z1 := cell_of R1.out 1
    have z2 := cell_of R1.out 2
    have z3 := cell_of R1.out 3
    obtain ⟨w3, hw3⟩ : ∃ w3, w3 = (((w2.setCell ⟨gs, 0, none⟩ (.int .u8 ky)).setCell ⟨gs, 1, none⟩ (.string sy)).setCell ⟨gs, 2, none⟩ (.int .i64 ny)).setCell ⟨gs, 3, none⟩ (.slice a1' m1 c1) := ⟨_, rfl⟩
    have hf3 : Fr (Just gs) w2 w3 := by rw [hw3]; exact fr_four w2 gs _ _ _ _
    have T0' := Lib.hid (hf3.keeps R0.out hgg.1)
    have T1 : Hid (w3.heap[gs]? = some (.cells #[.int .u8 ky, .string sy, .int .i64 ny, .slice a1' m1 c1] 24 (0, 0))) := Lib.hid (by rw [hw3]; exact four_block R1.out _ _ _ _)
    have T2 := Lib.hid (hf3.keeps R2.out (Ne.symm hgg.2.2))
    have HF3 : Hid (Fr No w w3) := Lib.hid (by rw [hw3]; exact Fr.set24 hgs.1 (HF0.out.then HF2.out) _ _ _ _)
    clear hf3
    refine ready_e (rs := [8]) (by kernel_rfl) (by simp) ?_
    refine do_late (o := _) rfl (by kernel_rfl) (fun K hK => ?_) none_e -- slot None store
    go_simp
    refine hK.out _ _ ?_
    clear hK K
    try dsimp only
    try simp only [Act.put, List.setIfInBounds_toArray, List.set_cons_zero, List.set_cons_succ]
    rw [← hw3]
    clear hw3 y0 y1 y2 y3 z0 z1 z2 z3 R0 R1 R2
    have y0 := free_of T2.out 0
    have y1 := free_of T2.out 1
    have y2 := free_of T2.out 2
    have y3 := free_of T2.out 3
    have z0 := cell_of T2.out 0
    have z1 := cell_of T2.out 1
    have z2 := cell_of T2.out 2
    have z3 := cell_of T2.out 3
    obtain ⟨w4, hw4⟩ : ∃ w4, w4 = (((w3.setCell ⟨gt, 0, none⟩ (.int .u8 kz)).setCell ⟨gt, 1, none⟩ (.string sz)).setCell ⟨gt, 2, none⟩ (.int .i64 nz)).setCell ⟨gt, 3, none⟩ (.slice a2' m2 c2) := ⟨_, rfl⟩
    have hf4 : Fr (Just gt) w3 w4 := by rw [hw4]; exact fr_four w3 gt _ _ _ _
    have U0 := Lib.hid (hf4.keeps T0'.out hgg.2.1)
    have U1 := Lib.hid (hf4.keeps T1.out hgg.2.2)
    have U2 : Hid (w4.heap[gt]? = some (.cells #[.int .u8 kz, .string sz, .int .i64 nz, .slice a2' m2 c2] 24 (0, 0))) := Lib.hid (by rw [hw4]; exact four_block T2.out _ _ _ _)
    have HF4 : Hid (Fr No w w4) := Lib.hid (by rw [hw4]; exact Fr.set24 hgs.2 HF3.out _ _ _ _)
    clear hf4
    refine ready_e (rs := [9]) (by kernel_rfl) (by simp) ?_
    refine do_late (o := _) rfl (by kernel_rfl) (fun K hK => ?_) none_e -- slot None store
    go_simp
    refine hK.out _ _ ?_
    clear hK K
    try dsimp only
    try simp only [Act.put, List.setIfInBounds_toArray, List.set_cons_zero, List.set_cons_succ]
    rw [← hw4]
    clear hw4 y0 y1 y2 y3 z0 z1 z2 z3 T0' T1 T2 HF3
    refine done_e (by kernel_rfl) ?_ _
    obtain ⟨ra, hre, hlen1, hrow1⟩ := is_mk HI1.out
    injection hre with e1 e2 e3 e4
    subst e1 e2 e3 e4
    obtain ⟨rb, hre, hlen2, hrow2⟩ := is_mk HI2.out
    injection hre with e1 e2 e3 e4
    subst e1 e2 e3 e4
    have HLN := Lib.hid (And.intro hlen1 hlen2)
    have HRW := Lib.hid (And.intro hrow1 hrow2)
    clear hlen1 hlen2 hrow1 hrow2
    have p0 : w4.cell? ⟨gs, 0, none⟩ = some (.int .u8 k1) := cell_of U1.out 0
    have p1 : w4.cell? ⟨gs, 1, none⟩ = some (.string s1) := cell_of U1.out 1
    have p2 : w4.cell? ⟨gs, 2, none⟩ = some (.int .i64 n1) := cell_of U1.out 2
    have p3 : w4.cell? ⟨gs, 3, none⟩ = some (.slice a1' m1 c1) := cell_of U1.out 3
    have q0 : w4.cell? ⟨gt, 0, none⟩ = some (.int .u8 k2) := cell_of U2.out 0
    have q1 : w4.cell? ⟨gt, 1, none⟩ = some (.string s2) := cell_of U2.out 1
    have q2 : w4.cell? ⟨gt, 2, none⟩ = some (.int .i64 n2) := cell_of U2.out 2
    have q3 : w4.cell? ⟨gt, 3, none⟩ = some (.slice a2' m2 c2) := cell_of U2.out 3
    have j0 : w4.cell? ⟨gj, 0, none⟩ = some (.pointer (some ⟨g, 0, none⟩)) := cell_of U0.out 0
    have hu := HU.out
    obtain ⟨hbk, hiS, hiT⟩ := HBK.out
    have HEND := Lib.hid (fun w' (hf : Fr No w4 w') => (And.intro (hbk.no (HF4.out.then hf)) (Fb.ofNo (base := base) (HF4.out.then hf)) : Bk base w' g many l ∧ Fb base w w'))
    obtain ⟨g1, p1', g2, p2'⟩ := HG.out
    have HBD1 := Lib.hid (fun w' (hf : Fr No w4 w') (hk : k1 = 1) (hb : bindM S T0 F l n1 (.mk k2 s2 n2 r2) = some (e, l')) => bind_any base g many l l' HW.out n1 (by subst hk; exact g1.num.1) (by subst hk; exact g1.num.2) (HFR.out.1 hk) F _ S T0 e hb g2 p2' hgS hpS hgT hpT (.agg #[.int .u8 k2, .string s2, .int .i64 n2, .slice a2' m2 c2]) a0 a1 a2 a3 b0 b1 b2 b3 w' (hbk.no (HF4.out.then hf)) (HI2.out.no (HF4.out.then hf)) (hiS.no (HF4.out.then hf)) (hiT.no (HF4.out.then hf)))
    have HBD2 := Lib.hid (fun w' (hf : Fr No w4 w') (hk : k2 = 1) (hb : bindM S T0 F l n2 (.mk k1 s1 n1 r1) = some (e, l')) => bind_any base g many l l' HW.out n2 (by subst hk; exact g2.num.1) (by subst hk; exact g2.num.2) (HFR.out.2 hk) F _ S T0 e hb g1 p1' hgS hpS hgT hpT (.agg #[.int .u8 k1, .string s1, .int .i64 n1, .slice a1' m1 c1]) a0 a1 a2 a3 b0 b1 b2 b3 w' (hbk.no (HF4.out.then hf)) (HI1.out.no (HF4.out.then hf)) (hiS.no (HF4.out.then hf)) (hiT.no (HF4.out.then hf)))
    have HBE := Lib.hid (fun w1 w' (hf : Fr No w4 w1) (h : ErrSaid base w1 g many e l' (.returned (.int .i64 e)) w') => (And.intro h.2.1 ((Fb.ofNo (HF4.out.then hf)).trans h.2.2) : Bk base w' g many l' ∧ Fb base w w'))
    have e0 : w4.cell? ⟨gj, 1, none⟩ = some a0 := cell_of U0.out 1
    have e1 : w4.cell? ⟨gj, 2, none⟩ = some a1 := cell_of U0.out 2
    have e2 : w4.cell? ⟨gj, 3, none⟩ = some a2 := cell_of U0.out 3
    have e3 : w4.cell? ⟨gj, 4, none⟩ = some a3 := cell_of U0.out 4
    have e4 : w4.cell? ⟨gj, 5, none⟩ = some b0 := cell_of U0.out 5
    have e5 : w4.cell? ⟨gj, 6, none⟩ = some b1 := cell_of U0.out 6
    have e6 : w4.cell? ⟨gj, 7, none⟩ = some b2 := cell_of U0.out 7
    have e7 : w4.cell? ⟨gj, 8, none⟩ = some b3 := cell_of U0.out 8
    clear hbk hiS hiT g1 p1' g2 p2' HF1 HF2 HF0 US r0 r1' r2'
    by_cases c1 : k1 = 1 ∧ k2 = 1 ∧ n1 = n2
    · rw [if_pos c1] at hu
      simp only [Option.some.injEq, Prod.mk.injEq] at hu
      obtain ⟨rfl, rfl⟩ := hu
      have t1 : ((k1 : Int) == 1) = true := by simp [c1.1]
      have t2 : ((k2 : Int) == 1) = true := by simp [c1.2.1]
      have t3 : (n1 == n2) = true := by simp [c1.2.2]
      clear c1 HU
      go_wp2_with fail
      go_quiet (fail)
      go_wp2_with fail
      go_ret
      exact ⟨rfl, HEND.out _ (Fr.drewN _ _)⟩
    rw [if_neg c1] at hu
    by_cases k1v : k1 = 1
    · have t1 : ((k1 : Int) == 1) = true := by simp [k1v]
      by_cases k2v : k2 = 1
      · have t2 : ((k2 : Int) == 1) = true := by simp [k2v]
        have hne : n1 ≠ n2 := fun h => c1 ⟨k1v, k2v, h⟩
        have t3 : (n1 == n2) = false := by simpa using hne
        by_cases hlt : n2 < n1
        · rw [if_pos ⟨k1v, .inr hlt⟩] at hu
          have HC := Lib.hid (fun w' hf => HBD1.out w' hf k1v hu)
          have t4 : decide (n2 < n1) = true := by simpa using hlt
          clear hu c1 k1v k2v hne
          go_wp2_with fail
          go_quiet (fail)
          go_wp2_with fail
          refine (HC.out _ (Fr.drewN _ _)).mono ?_
          rintro e' w5 ⟨rfl, hb5, hf5⟩
          have H5 : Hid (Bk base w5 g many l' ∧ Fb base w w5) := Lib.hid ⟨hb5, (Fb.ofNo (HF4.out.then (Fr.drewN _ _))).trans hf5⟩
          clear hb5 hf5
          go_wp2_with fail
          go_ret
          exact ⟨rfl, H5.out⟩
        · rw [if_neg (fun h => h.2.elim (fun h => h k2v) (fun h => hlt h)), if_pos k2v] at hu
          have HC := Lib.hid (fun w' hf => HBD2.out w' hf k2v hu)
          have t4 : decide (n2 < n1) = false := by simpa using hlt
          clear hu c1 k1v k2v hne
          go_wp2_with fail
          go_quiet (fail)
          go_wp2_with fail
          refine (HC.out _ (Fr.drewN _ _)).mono ?_
          rintro e' w5 ⟨rfl, hb5, hf5⟩
          have H5 : Hid (Bk base w5 g many l' ∧ Fb base w w5) := Lib.hid ⟨hb5, (Fb.ofNo (HF4.out.then (Fr.drewN _ _))).trans hf5⟩
          clear hb5 hf5
          go_wp2_with fail
          go_ret
          exact ⟨rfl, H5.out⟩
      · have t2 : ((k2 : Int) == 1) = false := by simp only [beq_eq_false_iff_ne, ne_eq]; omega
        rw [if_pos ⟨k1v, .inl k2v⟩] at hu
        have HC := Lib.hid (fun w' hf => HBD1.out w' hf k1v hu)
        clear hu c1 k1v k2v
        go_wp2_with fail
        go_quiet (fail)
        go_wp2_with fail
        refine (HC.out _ (Fr.drewN _ _)).mono ?_
        rintro e' w5 ⟨rfl, hb5, hf5⟩
        have H5 : Hid (Bk base w5 g many l' ∧ Fb base w w5) := Lib.hid ⟨hb5, (Fb.ofNo (HF4.out.then (Fr.drewN _ _))).trans hf5⟩
        clear hb5 hf5
        go_wp2_with fail
        go_ret
        exact ⟨rfl, H5.out⟩
    · have t1 : ((k1 : Int) == 1) = false := by simp only [beq_eq_false_iff_ne, ne_eq]; omega
      rw [if_neg (fun h => k1v h.1)] at hu
      by_cases k2v : k2 = 1
      · have t2 : ((k2 : Int) == 1) = true := by simp [k2v]
        rw [if_pos k2v] at hu
        have HC := Lib.hid (fun w' hf => HBD2.out w' hf k2v hu)
        clear hu c1 k1v k2v
        go_wp2_with fail
        go_quiet (fail)
        go_wp2_with fail
        refine (HC.out _ (Fr.drewN _ _)).mono ?_
        rintro e' w5 ⟨rfl, hb5, hf5⟩
        have H5 : Hid (Bk base w5 g many l' ∧ Fb base w w5) := Lib.hid ⟨hb5, (Fb.ofNo (HF4.out.then (Fr.drewN _ _))).trans hf5⟩
        clear hb5 hf5
        go_wp2_with fail
        go_ret
        exact ⟨rfl, H5.out⟩
      · have t2 : ((k2 : Int) == 1) = false := by simp only [beq_eq_false_iff_ne, ne_eq]; omega
        rw [if_neg k2v] at hu
        by_cases hk : k1 = k2
        case neg =>
          have t3 : ((k1 : Int) != (k2 : Int)) = true := by simp only [bne_iff_ne, ne_eq]; omega
          rw [if_pos (.inl hk)] at hu
          simp only [Option.some.injEq, Prod.mk.injEq] at hu
          obtain ⟨rfl, rfl⟩ := hu
          clear c1 k1v k2v hk HU
          go_wp2_with fail
          go_quiet (fail)
          go_wp2_with fail
          go_ret
          exact ⟨rfl, HEND.out _ (Fr.drewN _ _)⟩
        have t3 : ((k1 : Int) != (k2 : Int)) = false := by simp [hk]
        have hss : (s1.toList == s2.toList) = decide (s1 = s2) := by
          rw [ByteArray.toList_eq, ByteArray.toList_eq]
          by_cases e : s1 = s2
          · simp [e]
          · have : s1.data.toList ≠ s2.data.toList := fun h => e (by
              cases s1
              cases s2
              simp only [ByteArray.mk.injEq]
              exact Array.toList_inj.1 h)
            rw [decide_eq_false e]
            exact beq_eq_false_iff_ne.2 this
        by_cases hst : s1 = s2
        case neg =>
          have t4 : (s1.toList != s2.toList) = true := by rw [bne, hss, decide_eq_false hst]; rfl
          have t5 : ¬ s1.toList = s2.toList := by simpa using t4
          rw [if_pos (.inr (.inl hst))] at hu
          simp only [Option.some.injEq, Prod.mk.injEq] at hu
          obtain ⟨rfl, rfl⟩ := hu
          clear c1 k1v k2v hk HU hss hst
          go_wp2_with fail
          go_quiet (fail)
          go_wp2_with fail
          go_ret
          exact ⟨rfl, HEND.out _ (Fr.drewN _ _)⟩
        clear hss
        by_cases hlen : m1 = m2
        case neg =>
          subst hst
          have t4 : ((m1 : Int) != (m2 : Int)) = true := by simp only [bne_iff_ne, ne_eq]; omega
          rw [if_pos (.inr (.inr (by rw [HLN.out.1, HLN.out.2]; exact hlen)))] at hu
          simp only [Option.some.injEq, Prod.mk.injEq] at hu
          obtain ⟨rfl, rfl⟩ := hu
          clear c1 k1v k2v hk HU hlen
          go_wp2_with fail
          go_quiet (fail)
          go_wp2_with fail
          go_ret
          exact ⟨rfl, HEND.out _ (Fr.drewN _ _)⟩
        subst hst
        subst hlen
        rw [if_neg (by rintro (h | h | h); exact h hk; exact h rfl; exact h (HLN.out.1.trans HLN.out.2.symm))] at hu
        have HUL := Lib.hid hu
        clear hu c1 k1v k2v hk HU HBD1 HBD2 HBE
        go_wp2_with fail
        go_quiet (fail)
        go_wp2_with fail
        obtain ⟨w5, hw5⟩ : ∃ w5, w5 = w4.drewN nq := ⟨_, rfl⟩
        rw [← hw5]
        have HF5 : Hid (Fr No w4 w5) := Lib.hid (by rw [hw5]; exact Fr.drewN _ _)
        have V0 := Lib.hid (HF5.out.keeps U0.out no_one)
        have V1 := Lib.hid (HF5.out.keeps U1.out no_one)
        have V2 := Lib.hid (HF5.out.keeps U2.out no_one)
        have hml : m1 ≤ 1152921504606846976 := by
          have h1 := partsL_len r1
          have h2 := HG.out.2.1
          have h3 := HLN.out.1
          simp only [parts] at h2
          omega
        clear hw5 p0 p1 p2 p3 q0 q1 q2 q3 j0 e0 e1 e2 e3 e4 e5 e6 e7 U0 U1 U2
        go_loopw [87] (fun i wr => ∃ (q : Nat) (li : Bs), q ≤ m1 ∧ i = .int .i64 q ∧ Hid (Bk base wr g many li) ∧ Hid (WfB many li) ∧ Hid (Fb base w5 wr) ∧ Hid (uniL (uni S T0 F) li (r1.drop q) (r2.drop q) = some (e, l'))) (fun i _ => m1 - (intOf i).toNat)
        case atStart => exact ⟨0, l, Nat.zero_le _, rfl, Lib.hid (HEND.out _ HF5.out).1, HW, Lib.hid (Fb.refl _ _), HUL⟩
        case round =>
          obtain ⟨q, li, hq, rfl, HB, HWI, HF, HU⟩ := hrel
          have HFW : Hid (Fb base w wr) := Lib.hid ((Fb.ofNo (HF4.out.then HF5.out)).trans HF.out)
          by_cases hqm : q = m1
          · have hu := HU.out
            rw [hqm, List.drop_of_length_le (by rw [HLN.out.1]; exact Nat.le_refl _)] at hu
            simp only [uniL, Option.some.injEq, Prod.mk.injEq] at hu
            obtain ⟨rfl, rfl⟩ := hu
            go_wp2_with fail
            go_ret
            exact ⟨rfl, HB.out, HFW.out⟩
          · obtain ⟨x, hx⟩ : ∃ x, r1[q]? = some x := ⟨_, List.getElem?_eq_getElem (by rw [HLN.out.1]; omega)⟩
            obtain ⟨y, hy⟩ : ∃ y, r2[q]? = some y := ⟨_, List.getElem?_eq_getElem (by rw [HLN.out.2]; omega)⟩
            have hu := HU.out
            rw [drop_cons hx, drop_cons hy, uniL] at hu
            cases hqu : uni S T0 F li x y with
            | none => rw [hqu] at hu; cases hu
            | some p =>
              obtain ⟨e1, l1⟩ := p
              rw [hqu] at hu
              simp only at hu
              have hgx := good_kids HG.out.1 HG.out.2.1 x (List.mem_of_getElem? hx)
              have hgy := good_kids HG.out.2.2.1 HG.out.2.2.2 y (List.mem_of_getElem? hy)
              have hwf1 := uni_wf F li x y e1 l1 hgx.1 hgx.2 hgy.1 hgy.2 HWI.out hqu
              have hrw := Row.keep (Stays.of_fb HFW.out) (fun _ h => h) a1' 0 r1 HRW.out.1
              have hrw2 := Row.keep (Stays.of_fb HFW.out) (fun _ h => h) a2' 0 r2 HRW.out.2
              obtain ⟨b, off, x0, x1, x2, x3, rfl, _, _, d0, d1, d2, d3, hisx⟩ := Row.at_ 0 r1 hrw q x hx
              obtain ⟨b', off', y0, y1, y2, y3, rfl, _, _, z0, z1, z2, z3, hisy⟩ := Row.at_ 0 r2 hrw2 q y hy
              rw [Nat.zero_add] at d0 d1 d2 d3 z0 z1 z2 z3
              have v3 : wr.cell? ⟨gs, 3, none⟩ = some (.slice (some ⟨b, off, none⟩) m1 c1) := cell_of (HF.out.keeps V1.out (by simp [Bobj])) 3
              have w3' : wr.cell? ⟨gt, 3, none⟩ = some (.slice (some ⟨b', off', none⟩) m1 c2) := cell_of (HF.out.keeps V2.out (by simp [Bobj])) 3
              have e0 : wr.cell? ⟨gj, 0, none⟩ = some (.pointer (some ⟨g, 0, none⟩)) := cell_of (HF.out.keeps V0.out (by simp [Bobj])) 0
              have e1' : wr.cell? ⟨gj, 1, none⟩ = some a0 := cell_of (HF.out.keeps V0.out (by simp [Bobj])) 1
              have e2 : wr.cell? ⟨gj, 2, none⟩ = some a1 := cell_of (HF.out.keeps V0.out (by simp [Bobj])) 2
              have e3 : wr.cell? ⟨gj, 3, none⟩ = some a2 := cell_of (HF.out.keeps V0.out (by simp [Bobj])) 3
              have e4 : wr.cell? ⟨gj, 4, none⟩ = some a3 := cell_of (HF.out.keeps V0.out (by simp [Bobj])) 4
              have e5 : wr.cell? ⟨gj, 5, none⟩ = some b0 := cell_of (HF.out.keeps V0.out (by simp [Bobj])) 5
              have e6 : wr.cell? ⟨gj, 6, none⟩ = some b1 := cell_of (HF.out.keeps V0.out (by simp [Bobj])) 6
              have e7 : wr.cell? ⟨gj, 7, none⟩ = some b2 := cell_of (HF.out.keeps V0.out (by simp [Bobj])) 7
              have e8 : wr.cell? ⟨gj, 8, none⟩ = some b3 := cell_of (HF.out.keeps V0.out (by simp [Bobj])) 8
              have HC := Lib.hid (fun w' (hf : Fr No wr w') => HI.out li x y e1 l1 hqu HWI.out hgx.1 hgx.2 hgy.1 hgy.2 (.agg #[x0, x1, x2, x3]) (.agg #[y0, y1, y2, y3]) w' (HB.out.no hf) (IsT.no hisx hf) (IsT.no hisy hf) ((HBK.out.2.1.fb HFW.out).no hf) ((HBK.out.2.2.fb HFW.out).no hf))
              have HX := Lib.hid (And.intro hu hwf1)
              have kq0 : (0 : Int) ≤ (q : Int) := by omega
              have kq1 : (q : Int) < (m1 : Int) := by omega
              clear hu hqu hgx hgy hwf1 hrw hrw2 hisx hisy hx hy
              go_wp2_with fail
              go_still_tail 11, (by kernel_rfl)
              go_wp2_with fail
              refine (HC.out _ (Fr.drew wr)).mono ?_
              rintro e' w6 ⟨rfl, hb6, hf6⟩
              have HB6 := Lib.hid hb6
              have HF6 : Hid (Fb base wr w6) := Lib.hid ((Fb.ofNo (Fr.drew wr)).trans hf6)
              clear hb6 hf6
              by_cases he : e1 = 0
              · have hx := HX.out
                rw [if_pos he] at hx
                have HX2 := Lib.hid hx
                subst he
                clear hx HX
                go_wp2_with fail
                exact ⟨⟨q + 1, l1, by omega, by go_num, HB6, Lib.hid HX2.out.2, Lib.hid (HF.out.trans HF6.out), Lib.hid HX2.out.1⟩, by simp [intOf]; omega⟩
              · have hx := HX.out
                rw [if_neg he] at hx
                simp only [Option.some.injEq, Prod.mk.injEq] at hx
                obtain ⟨⟨rfl, rfl⟩, _⟩ := hx
                have hne : (e1 != 0) = true := by simpa using he
                clear HX he
                go_wp2_with fail
                go_ret
                exact ⟨rfl, HB6.out, HFW.out.trans HF6.out⟩
end Go.Proofs.Ytfjddfcndammdaa
