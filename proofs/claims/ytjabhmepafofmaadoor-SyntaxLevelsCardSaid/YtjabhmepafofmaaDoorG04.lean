/- A row of types. -/
import Derived.Test.YtjabhmepafofmaaDoorG02
import Derived.Test.YtjabhmepafofmaaDoorG03
set_option linter.unusedVariables false
set_option linter.unusedSimpArgs false
namespace Go.Proofs.YtjabhmepafofmaaDoor
open Go.RowKit

set_option maxHeartbeats 4000000 in
set_option maxRecDepth 100000 in
theorem row_step {gp : Nat} {a : Option Addr} {c : Nat} {l : List Tok} {g : Gr} {n : Nat} (h : Oks gp a c l g) : CT gp a c l 56 [] (stE xT) (g.pRow n) := by
 intro w p hp0 ho
 have HO := Lib.hid ho
 have HP0 := Lib.hid hp0
 have HH := Lib.hid h
 have hq_p := hp0.le
 have hlen := hp0.len
 have HF : Hid (Fr (Just gp) w w) := Lib.hid (Fr.refl _ _)
 have R_gp : Hid (w.heap[gp]? = some (.cells #[.slice a l.length c, .int .i64 (p : Nat)] 60 (0, 0))) := Lib.hid hp0.blk
 obtain ⟨V, hV⟩ : ∃ V, Pr.run l ((g.pRow n)) p = V := ⟨_, rfl⟩
 rw [hV] at HO ⊢
 clear ho hp0 h
 simp only [Gr.pRow, run_bind, run_skip, run_must, run_take, Pr.run, next, if_true, if_false, Bool.false_eq_true] at hV
 have HV := Lib.hid hV
 clear hV
 go_enter Tryd.func56, Tryd.ntmps56
 go_wp2_with fail
 generalize hn : w.alloc _ = w1
 generalize hg : w.heap.size = g_r
 have HS := fa hn
 have R_r := nb hn hg
 have L_gp_r := lb hg R_gp
 have B_r := bs hg HF
 clear hn hg
 replace R_gp := kn HS R_gp
 replace HF := fn HF HS
 clear HS
 cases hr_l : Pr.run l (some_ n ⟨#[42]⟩ g.post) p with
 | out =>
  simp only [hr_l, Re.andThen, run_bind, run_skip, run_must, run_take, Pr.run, next, if_true, if_false, Bool.false_eq_true] at HV
  exact absurd HV.out.symm HO.out
 | fail q =>
  simp only [hr_l, Re.andThen, run_bind, run_skip, run_must, run_take, Pr.run, next, if_true, if_false, Bool.false_eq_true] at HV
  refine (((some_ty enters77 HH.out.post ⟨#[42]⟩ n)).bad (Par.of HP0.out HF.out R_gp.out hq_p) hr_l).mono ?_
  rintro e w2 ⟨rfl, hf, hp⟩
  have hv := HV.out
  subst hv
  exact ⟨rfl, rfl, HF.out.trans hf (fun _ _ h => h), hp⟩
 | ok x_l q3 =>
  simp only [hr_l, Re.andThen, run_bind, run_skip, run_must, run_take, Pr.run, next, if_true, if_false, Bool.false_eq_true] at HV
  have hsz_l : gp < w1.heap.size := lt_of_block R_gp.out
  obtain ⟨b_l, hB⟩ : ∃ bZ, w1.heap.size = bZ := ⟨_, rfl⟩
  have K_gp_l := lb hB R_gp
  have K_r_l := lb hB R_r
  have KB_l := bs hB HF
  clear hsz_l
  refine (((some_ty enters77 HH.out.post ⟨#[42]⟩ n)).good (Par.of HP0.out HF.out R_gp.out hq_p) hr_l).mono ?_
  rintro e w4 ⟨⟨v_l, rfl, hc⟩, hf, hp⟩
  rw [hB] at hc
  clear hB
  obtain ⟨h_l, hH⟩ : ∃ hZ, w4.heap.size = hZ := ⟨_, rfl⟩
  have I_l := imx hH hc
  have Z_h_l : h_l ≤ w4.heap.size := Nat.le_of_eq hH.symm
  clear hc hH
  have HS := Lib.hid hf
  have RG := Lib.hid hp.blk
  have hq_q3 := hp.le
  clear hf hp
  replace R_r := kj HS R_r (by omega)
  replace HF := ft HF HS
  replace R_gp := RG
  clear HS RG
  obtain ⟨al_l, cl_l, evl⟩ := hx_slice I_l.out
  subst evl
  rw [List.length_map] at I_l ⊢
  rcases x_l with _ | ⟨y1, _ | ⟨y2, yr⟩⟩
  ·
   replace I_l : Hid (Hx _ _ (.row 4 (([] : List _).map xT)) (.slice al_l 0 cl_l)) := I_l
   simp only [Pr.run] at HV
   obtain ⟨d0_r, d1_r, d2_r, d3_r⟩ := z4c R_r.out
   obtain ⟨f0_r, f1_r, f2_r, f3_r⟩ := y4c R_r.out
   go_wp2_with fail
   clear d0_r f0_r d1_r f1_r d2_r f2_r d3_r f3_r
   obtain ⟨w5, hn⟩ : ∃ wZ, setFrom g_r 0 [.int .u8 4, .string ⟨#[]⟩, .int .i64 0, .slice al_l 0 cl_l] w4 = wZ := ⟨_, rfl⟩
   have R_r' := sf hn R_r rfl
   have HS := sg hn
   have he := hn
   simp only [setFrom, Nat.reduceAdd] at he
   rw [he]
   clear he
   clear hn
   replace R_gp := kj HS R_gp (by omega)
   replace I_l := ijx I_l HS (by omega)
   replace HF := fb HF HS (by omega)
   replace Z_h_l := zt Z_h_l HS
   have R_r := R_r'
   clear R_r' HS
   (try simp only [Exit.inBlock, Exit.then])
   have hv := HV.out
   subst hv
   refine bodyPost_ret (results_st rfl Tryd.underlying37 (by kernel_rfl) _ _ g_r _ rfl rfl R_r.out) rfl ?_
   exact ⟨⟨_, rfl, hcT_mk 4 nob 0 (I_l.out.mono (fun b _ hb => by have := hb.1; omega))⟩, HF.out, (Par.of HP0.out HF.out R_gp.out hq_q3)⟩
  ·
   replace I_l : Hid (Hx _ _ (.row 4 ([y1].map xT)) (.slice al_l 1 cl_l)) := I_l
   simp only [Pr.run] at HV
   obtain ⟨ge, oe, ce, eae, hge, hle, hce, hxe⟩ := hx_at I_l.out (j := 0) rfl
   subst eae
   obtain ⟨k_e, s_e, n_e, a_e, m_e, c_e, ecs⟩ := hcT hxe
   subst ecs
   obtain ⟨de0, de1, de2, de3⟩ : w4.cell? ⟨ge, oe, none⟩ = some (.int .u8 k_e) ∧ w4.cell? ⟨ge, oe + 1, none⟩ = some (.string s_e) ∧ w4.cell? ⟨ge, oe + 2, none⟩ = some (.int .i64 n_e) ∧ w4.cell? ⟨ge, oe + 3, none⟩ = some (.slice a_e m_e c_e) := ⟨by simpa using hce 0 _ rfl, by simpa using hce 1 _ rfl, by simpa using hce 2 _ rfl, by simpa using hce 3 _ rfl⟩
   have I_e := Lib.hid hxe
   clear hce hxe hle
   obtain ⟨d0_r, d1_r, d2_r, d3_r⟩ := z4c R_r.out
   obtain ⟨f0_r, f1_r, f2_r, f3_r⟩ := y4c R_r.out
   go_wp2_with fail
   clear d0_r f0_r d1_r f1_r d2_r f2_r d3_r f3_r
   clear de0 de1 de2 de3
   obtain ⟨w6, hn⟩ : ∃ wZ, setFrom g_r 0 [.int .u8 k_e, .string s_e, .int .i64 n_e, .slice a_e m_e c_e] w4 = wZ := ⟨_, rfl⟩
   have R_r' := sf hn R_r rfl
   have HS := sg hn
   have he := hn
   simp only [setFrom, Nat.reduceAdd] at he
   rw [he]
   clear he
   clear hn
   replace R_gp := kj HS R_gp (by omega)
   replace I_l := ijx I_l HS (by omega)
   replace I_e := ij I_e HS (by omega)
   replace HF := fb HF HS (by omega)
   replace Z_h_l := zt Z_h_l HS
   have R_r := R_r'
   clear R_r' HS
   (try simp only [Exit.inBlock, Exit.then])
   have hv := HV.out
   subst hv
   refine bodyPost_ret (results_st rfl Tryd.underlying37 (by kernel_rfl) _ _ g_r _ rfl rfl R_r.out) rfl ?_
   exact ⟨⟨_, rfl, I_e.out.mono (fun b _ hb => by have := hb.1; omega)⟩, HF.out, (Par.of HP0.out HF.out R_gp.out hq_q3)⟩
  ·
   obtain ⟨nl_l, hnl⟩ : ∃ nl, (y1 :: y2 :: yr).length = nl := ⟨_, rfl⟩
   rw [hnl] at I_l ⊢
   have hbl_l : ((nl_l : Int) == 1) = false := by
    simp only [beq_eq_false_iff_ne, ne_eq]
    simp only [List.length_cons] at hnl
    omega
   clear hnl
   simp only [Pr.run] at HV
   obtain ⟨d0_r, d1_r, d2_r, d3_r⟩ := z4c R_r.out
   obtain ⟨f0_r, f1_r, f2_r, f3_r⟩ := y4c R_r.out
   go_wp2_with fail
   clear d0_r f0_r d1_r f1_r d2_r f2_r d3_r f3_r
   obtain ⟨w7, hn⟩ : ∃ wZ, setFrom g_r 0 [.int .u8 4, .string ⟨#[]⟩, .int .i64 0, .slice al_l nl_l cl_l] w4 = wZ := ⟨_, rfl⟩
   have R_r' := sf hn R_r rfl
   have HS := sg hn
   have he := hn
   simp only [setFrom, Nat.reduceAdd] at he
   rw [he]
   clear he
   clear hn
   replace R_gp := kj HS R_gp (by omega)
   replace I_l := ijx I_l HS (by omega)
   replace HF := fb HF HS (by omega)
   replace Z_h_l := zt Z_h_l HS
   have R_r := R_r'
   clear R_r' HS
   (try simp only [Exit.inBlock, Exit.then])
   have hv := HV.out
   subst hv
   refine bodyPost_ret (results_st rfl Tryd.underlying37 (by kernel_rfl) _ _ g_r _ rfl rfl R_r.out) rfl ?_
   exact ⟨⟨_, rfl, hcT_mk 4 nob 0 (I_l.out.mono (fun b _ hb => by have := hb.1; omega))⟩, HF.out, (Par.of HP0.out HF.out R_gp.out hq_q3)⟩
end Go.Proofs.YtjabhmepafofmaaDoor
namespace Go.Proofs.YtjabhmepafofmaaDoor
open Go.RowKit

set_option maxRecDepth 100000 in
theorem field49_0 (x0 x1 x2 x3 : Value) (w : World) : Sem.run Tryd.prog (Instr.field 49 (.agg #[x0, x1, x2, x3]) 0) w = .ok x0 w := by kernel_rfl
set_option maxRecDepth 100000 in
theorem field49_1 (x0 x1 x2 x3 : Value) (w : World) : Sem.run Tryd.prog (Instr.field 49 (.agg #[x0, x1, x2, x3]) 1) w = .ok x1 w := by kernel_rfl
set_option maxRecDepth 100000 in
theorem field49_2 (x0 x1 x2 x3 : Value) (w : World) : Sem.run Tryd.prog (Instr.field 49 (.agg #[x0, x1, x2, x3]) 2) w = .ok x2 w := by kernel_rfl

set_option maxHeartbeats 4000000 in
set_option maxRecDepth 100000 in
theorem tick_step {gp : Nat} {a : Option Addr} {c : Nat} {l : List Tok} : CT gp a c l 55 [] txE (take 3) := by
 intro w p hp ho
 have HP := Lib.hid hp
 rw [run_take] at ho ⊢
 clear hp ho
 by_cases hk : (l.getD p zTok).kind = 3
 ·
  rw [if_pos hk]
  have HK := Lib.hid hk
  clear hk
  go_enter Tryd.func55, Tryd.ntmps55
  go_wp2_with fail
  refine (take_good HP.out (by decide) HK.out).mono ?_
  rintro e w1 ⟨rfl, hf, hp1⟩
  go_wp2_with fail
  go_ret
  exact ⟨rfl, hf, hp1⟩
 ·
  rw [if_neg hk]
  have HK := Lib.hid hk
  clear hk
  go_enter Tryd.func55, Tryd.ntmps55
  go_wp2_with fail
  refine (take_bad HP.out (by decide) HK.out).mono ?_
  rintro e w1 ⟨rfl, hf, hp1⟩
  exact ⟨rfl, rfl, hf, hp1⟩

set_option maxHeartbeats 4000000 in
set_option maxRecDepth 100000 in
theorem tyAtom_step {gp : Nat} {a : Option Addr} {c : Nat} {l : List Tok} {g : Gr} {n : Nat} (h : Oks gp a c l g) : CT gp a c l 85 [] (stE xT) (g.pTyAtom n) := by
 intro w p hp0 ho
 have HO := Lib.hid ho
 have HP0 := Lib.hid hp0
 have HH := Lib.hid h
 have hq_p := hp0.le
 have hlen := hp0.len
 have HF : Hid (Fr (Just gp) w w) := Lib.hid (Fr.refl _ _)
 have R_gp : Hid (w.heap[gp]? = some (.cells #[.slice a l.length c, .int .i64 (p : Nat)] 60 (0, 0))) := Lib.hid hp0.blk
 obtain ⟨V, hV⟩ : ∃ V, Pr.run l ((g.pTyAtom n)) p = V := ⟨_, rfl⟩
 rw [hV] at HO ⊢
 clear ho hp0 h
 simp only [Gr.pTyAtom, run_bind, run_skip, run_must, run_take, Pr.run, next, if_true, if_false, Bool.false_eq_true] at hV
 have HV := Lib.hid hV
 clear hV
 go_enter Tryd.func85, Tryd.ntmps85
 go_wp2_with fail
 generalize hn : w.alloc _ = w1
 generalize hg : w.heap.size = g_r
 have HS := fa hn
 have R_r := nb hn hg
 have L_gp_r := lb hg R_gp
 have B_r := bs hg HF
 clear hn hg
 replace R_gp := kn HS R_gp
 replace HF := fn HF HS
 clear HS
 go_wp2_with fail
 obtain ⟨⟨kt_t, st_t, mt_t, qt_t⟩, ht⟩ : ∃ t, l.getD p zTok = t := ⟨_, rfl⟩
 refine (next_any gp a c l p w1 (Par.of HP0.out HF.out R_gp.out hq_p)).mono ?_
 rintro e w2 ⟨rfl, hf⟩
 rw [ht]
 simp only [tokV]
 have hv := HV.out
 simp only [Re.andThen, run_bind, run_skip, run_must, run_take, Pr.run, next, if_true, if_false, Bool.false_eq_true] at hv
 (try simp only [ht] at hv)
 replace HV := Lib.hid hv
 have HT_t := Lib.hid ht
 clear hv ht
 have HS := Lib.hid hf
 clear hf
 replace R_gp := kn HS R_gp
 replace R_r := kn HS R_r
 replace HF := fn HF HS
 clear HS
 go_wp2_with fail
 simp only [field49_0]
 by_cases hk3_t : kt_t = 3
 ·
  have hv := HV.out
  rw [if_pos hk3_t] at hv
  replace HV := Lib.hid hv
  clear hv
  have hq3_t : ((kt_t : Int) == 3) = true := by simp [hk3_t]
  go_wp2_with fail
  have hk : (l.getD p zTok).kind = 3 := by rw [HT_t.out]; exact hk3_t
  have hr : Pr.run l (take 3) p = .ok st_t (p + 1) := by rw [run_take, if_pos hk, HT_t.out]
  refine (tick_step.good (Par.of HP0.out HF.out R_gp.out hq_p) hr).mono ?_
  rintro e w3 ⟨rfl, hf, hp⟩
  have hv := HV.out
  simp only [hr, Re.andThen, run_bind, run_skip, run_must, run_take, Pr.run, next, if_true, if_false, Bool.false_eq_true] at hv
  replace HV := Lib.hid hv
  clear hv hk hr
  have HS := Lib.hid hf
  have RG := Lib.hid hp.blk
  have hq_pP1 := hp.le
  clear hf hp
  replace R_r := kj HS R_r (by omega)
  replace HF := ft HF HS
  replace R_gp := RG
  clear HS RG
  obtain ⟨d0_r, d1_r, d2_r, d3_r⟩ := z4c R_r.out
  obtain ⟨f0_r, f1_r, f2_r, f3_r⟩ := y4c R_r.out
  go_wp2_with fail
  clear d0_r f0_r d1_r f1_r d2_r f2_r d3_r f3_r
  obtain ⟨w4, hn⟩ : ∃ wZ, setFrom g_r 0 [.int .u8 1, .string st_t, .int .i64 0, .slice none 0 0] w3 = wZ := ⟨_, rfl⟩
  have R_r' := sf hn R_r rfl
  have HS := sg hn
  have he := hn
  simp only [setFrom, Nat.reduceAdd] at he
  rw [he]
  clear he
  clear hn
  replace R_gp := kj HS R_gp (by omega)
  replace HF := fb HF HS (by omega)
  have R_r := R_r'
  clear R_r' HS
  (try simp only [Exit.inBlock, Exit.then])
  have hv := HV.out
  subst hv
  refine bodyPost_ret (results_st rfl Tryd.underlying37 (by kernel_rfl) _ _ g_r _ rfl rfl R_r.out) rfl ?_
  exact ⟨⟨_, rfl, hcT_mk 1 st_t 0 (hx_nil _)⟩, HF.out, (Par.of HP0.out HF.out R_gp.out hq_pP1)⟩
 ·
  have hv := HV.out
  rw [if_neg hk3_t] at hv
  replace HV := Lib.hid hv
  clear hv
  have hq3_t : ((kt_t : Int) == 3) = false := by simp only [beq_eq_false_iff_ne, ne_eq]; omega
  by_cases hk1_t : kt_t = 1
  ·
   have hv := HV.out
   rw [if_pos hk1_t] at hv
   replace HV := Lib.hid hv
   clear hv
   have hq1_t : ((kt_t : Int) == 1) = true := by simp [hk1_t]
   go_wp2_with fail
   have hk : (l.getD p zTok).kind = 1 := by rw [HT_t.out]; exact hk1_t
   refine (take_good (Par.of HP0.out HF.out R_gp.out hq_p) (by decide) hk).mono ?_
   rintro e w5 ⟨rfl, hf, hp⟩
   rw [HT_t.out]
   (try dsimp only)
   have hv := HV.out
   simp only [hk, Re.andThen, run_bind, run_skip, run_must, run_take, Pr.run, next, if_true, if_false, Bool.false_eq_true] at hv
   (try simp only [HT_t.out] at hv)
   replace HV := Lib.hid hv
   clear hv hk
   have HS := Lib.hid hf
   have RG := Lib.hid hp.blk
   have hq_pP1 := hp.le
   clear hf hp
   replace R_r := kj HS R_r (by omega)
   replace HF := ft HF HS
   replace R_gp := RG
   clear HS RG
   obtain ⟨d0_r, d1_r, d2_r, d3_r⟩ := z4c R_r.out
   obtain ⟨f0_r, f1_r, f2_r, f3_r⟩ := y4c R_r.out
   go_wp2_with fail
   clear d0_r f0_r d1_r f1_r d2_r f2_r d3_r f3_r
   obtain ⟨w6, hn⟩ : ∃ wZ, setFrom g_r 0 [.int .u8 2, .string st_t, .int .i64 0, .slice none 0 0] w5 = wZ := ⟨_, rfl⟩
   have R_r' := sf hn R_r rfl
   have HS := sg hn
   have he := hn
   simp only [setFrom, Nat.reduceAdd] at he
   rw [he]
   clear he
   clear hn
   replace R_gp := kj HS R_gp (by omega)
   replace HF := fb HF HS (by omega)
   have R_r := R_r'
   clear R_r' HS
   (try simp only [Exit.inBlock, Exit.then])
   have hv := HV.out
   subst hv
   refine bodyPost_ret (results_st rfl Tryd.underlying37 (by kernel_rfl) _ _ g_r _ rfl rfl R_r.out) rfl ?_
   exact ⟨⟨_, rfl, hcT_mk 2 st_t 0 (hx_nil _)⟩, HF.out, (Par.of HP0.out HF.out R_gp.out hq_pP1)⟩
  ·
   have hv := HV.out
   rw [if_neg hk1_t] at hv
   replace HV := Lib.hid hv
   clear hv
   have hq1_t : ((kt_t : Int) == 1) = false := by simp only [beq_eq_false_iff_ne, ne_eq]; omega
   go_wp2_with fail
   cases hm_op : seesB (l.getD p zTok) [⟨#[40]⟩] with
   | false =>
    simp only [hm_op, Re.andThen, run_bind, run_skip, run_must, run_take, Pr.run, next, if_true, if_false, Bool.false_eq_true] at HV
    refine (must_bad (Par.of HP0.out HF.out R_gp.out hq_p) hm_op).mono ?_
    rintro e w7 ⟨rfl, hf, hp⟩
    have hv := HV.out
    subst hv
    exact ⟨rfl, rfl, HF.out.trans hf (fun _ _ h => h), hp⟩
   | true =>
    simp only [hm_op, Re.andThen, run_bind, run_skip, run_must, run_take, Pr.run, next, if_true, if_false, Bool.false_eq_true] at HV
    refine (must_good (Par.of HP0.out HF.out R_gp.out hq_p) hm_op).mono ?_
    rintro e w8 ⟨rfl, hf, hp⟩
    have HS := Lib.hid hf
    have RG := Lib.hid hp.blk
    have hq_pP1 := hp.le
    clear hf hp
    replace R_r := kj HS R_r (by omega)
    replace HF := ft HF HS
    replace R_gp := RG
    clear HS RG
    go_wp2_with fail
    cases hr_l : Pr.run l (some_ n ⟨#[44]⟩ g.ty) (p + 1) with
    | out =>
     simp only [hr_l, Re.andThen, run_bind, run_skip, run_must, run_take, Pr.run, next, if_true, if_false, Bool.false_eq_true] at HV
     exact absurd HV.out.symm HO.out
    | fail q =>
     simp only [hr_l, Re.andThen, run_bind, run_skip, run_must, run_take, Pr.run, next, if_true, if_false, Bool.false_eq_true] at HV
     refine (((some_ty enters37 HH.out.ty ⟨#[44]⟩ n)).bad (Par.of HP0.out HF.out R_gp.out hq_pP1) hr_l).mono ?_
     rintro e w9 ⟨rfl, hf, hp⟩
     have hv := HV.out
     subst hv
     exact ⟨rfl, rfl, HF.out.trans hf (fun _ _ h => h), hp⟩
    | ok x_l q10 =>
     simp only [hr_l, Re.andThen, run_bind, run_skip, run_must, run_take, Pr.run, next, if_true, if_false, Bool.false_eq_true] at HV
     have hsz_l : gp < w8.heap.size := lt_of_block R_gp.out
     obtain ⟨b_l, hB⟩ : ∃ bZ, w8.heap.size = bZ := ⟨_, rfl⟩
     have K_gp_l := lb hB R_gp
     have K_r_l := lb hB R_r
     have KB_l := bs hB HF
     clear hsz_l
     refine (((some_ty enters37 HH.out.ty ⟨#[44]⟩ n)).good (Par.of HP0.out HF.out R_gp.out hq_pP1) hr_l).mono ?_
     rintro e w11 ⟨⟨v_l, rfl, hc⟩, hf, hp⟩
     rw [hB] at hc
     clear hB
     obtain ⟨h_l, hH⟩ : ∃ hZ, w11.heap.size = hZ := ⟨_, rfl⟩
     have I_l := imx hH hc
     have Z_h_l : h_l ≤ w11.heap.size := Nat.le_of_eq hH.symm
     clear hc hH
     have HS := Lib.hid hf
     have RG := Lib.hid hp.blk
     have hq_q10 := hp.le
     clear hf hp
     replace R_r := kj HS R_r (by omega)
     replace HF := ft HF HS
     replace R_gp := RG
     clear HS RG
     go_wp2_with fail
     cases hm_cl : seesB (l.getD q10 zTok) [⟨#[41]⟩] with
     | false =>
      simp only [hm_cl, Re.andThen, run_bind, run_skip, run_must, run_take, Pr.run, next, if_true, if_false, Bool.false_eq_true] at HV
      refine (must_bad (Par.of HP0.out HF.out R_gp.out hq_q10) hm_cl).mono ?_
      rintro e w12 ⟨rfl, hf, hp⟩
      have hv := HV.out
      subst hv
      exact ⟨rfl, rfl, HF.out.trans hf (fun _ _ h => h), hp⟩
     | true =>
      simp only [hm_cl, Re.andThen, run_bind, run_skip, run_must, run_take, Pr.run, next, if_true, if_false, Bool.false_eq_true] at HV
      refine (must_good (Par.of HP0.out HF.out R_gp.out hq_q10) hm_cl).mono ?_
      rintro e w13 ⟨rfl, hf, hp⟩
      have HS := Lib.hid hf
      have RG := Lib.hid hp.blk
      have hq_q10P1 := hp.le
      clear hf hp
      replace R_r := kj HS R_r (by omega)
      replace I_l := ijx I_l HS (by omega)
      replace HF := ft HF HS
      replace Z_h_l := zt Z_h_l HS
      replace R_gp := RG
      clear HS RG
      obtain ⟨al_l, cl_l, evl⟩ := hx_slice I_l.out
      subst evl
      rw [List.length_map] at I_l ⊢
      rcases x_l with _ | ⟨y1, _ | ⟨y2, yr⟩⟩
      ·
       replace I_l : Hid (Hx _ _ (.row 4 (([] : List _).map xT)) (.slice al_l 0 cl_l)) := I_l
       simp only [run_bind, run_skip, run_must, run_take, Pr.run, next, if_true, if_false, Bool.false_eq_true] at HV
       go_wp2_with fail
       by_cases hk_n : (l.getD (q10 + 1) zTok).kind = 1
       ·
        simp only [hk_n, Re.andThen, run_bind, run_skip, run_must, run_take, Pr.run, next, if_true, if_false, Bool.false_eq_true] at HV
        refine (take_good (Par.of HP0.out HF.out R_gp.out hq_q10P1) (by decide) hk_n).mono ?_
        rintro e w14 ⟨rfl, hf, hp⟩
        obtain ⟨tx_n, htx⟩ : ∃ s, (l.getD (q10 + 1) zTok).text = s := ⟨_, rfl⟩
        rw [htx]
        have hv := HV.out
        rw [htx] at hv
        replace HV := Lib.hid hv
        clear hv htx
        have HS := Lib.hid hf
        have RG := Lib.hid hp.blk
        have hq_q10P1P1 := hp.le
        clear hf hp
        replace R_r := kj HS R_r (by omega)
        replace I_l := ijx I_l HS (by omega)
        replace HF := ft HF HS
        replace Z_h_l := zt Z_h_l HS
        replace R_gp := RG
        clear HS RG
        obtain ⟨d0_r, d1_r, d2_r, d3_r⟩ := z4c R_r.out
        obtain ⟨f0_r, f1_r, f2_r, f3_r⟩ := y4c R_r.out
        go_wp2_with fail
        clear d0_r f0_r d1_r f1_r d2_r f2_r d3_r f3_r
        obtain ⟨w15, hn⟩ : ∃ wZ, setFrom g_r 0 [.int .u8 2, .string tx_n, .int .i64 0, .slice al_l 0 cl_l] w14 = wZ := ⟨_, rfl⟩
        have R_r' := sf hn R_r rfl
        have HS := sg hn
        have he := hn
        simp only [setFrom, Nat.reduceAdd] at he
        rw [he]
        clear he
        clear hn
        replace R_gp := kj HS R_gp (by omega)
        replace I_l := ijx I_l HS (by omega)
        replace HF := fb HF HS (by omega)
        replace Z_h_l := zt Z_h_l HS
        have R_r := R_r'
        clear R_r' HS
        (try simp only [Exit.inBlock, Exit.then])
        have hv := HV.out
        subst hv
        refine bodyPost_ret (results_st rfl Tryd.underlying37 (by kernel_rfl) _ _ g_r _ rfl rfl R_r.out) rfl ?_
        exact ⟨⟨_, rfl, hcT_mk 2 tx_n 0 (I_l.out.mono (fun b _ hb => by have := hb.1; omega))⟩, HF.out, (Par.of HP0.out HF.out R_gp.out hq_q10P1P1)⟩
       ·
        simp only [hk_n, Re.andThen, run_bind, run_skip, run_must, run_take, Pr.run, next, if_true, if_false, Bool.false_eq_true] at HV
        refine (take_bad (Par.of HP0.out HF.out R_gp.out hq_q10P1) (by decide) hk_n).mono ?_
        rintro e w16 ⟨rfl, hf, hp⟩
        have hv := HV.out
        subst hv
        exact ⟨rfl, rfl, HF.out.trans hf (fun _ _ h => h), hp⟩
      ·
       replace I_l : Hid (Hx _ _ (.row 4 ([y1].map xT)) (.slice al_l 1 cl_l)) := I_l
       simp only [Pr.run] at HV
       obtain ⟨ge, oe, ce, eae, hge, hle, hce, hxe⟩ := hx_at I_l.out (j := 0) rfl
       subst eae
       obtain ⟨k_e, s_e, n_e, a_e, m_e, c_e, ecs⟩ := hcT hxe
       subst ecs
       obtain ⟨de0, de1, de2, de3⟩ : w13.cell? ⟨ge, oe, none⟩ = some (.int .u8 k_e) ∧ w13.cell? ⟨ge, oe + 1, none⟩ = some (.string s_e) ∧ w13.cell? ⟨ge, oe + 2, none⟩ = some (.int .i64 n_e) ∧ w13.cell? ⟨ge, oe + 3, none⟩ = some (.slice a_e m_e c_e) := ⟨by simpa using hce 0 _ rfl, by simpa using hce 1 _ rfl, by simpa using hce 2 _ rfl, by simpa using hce 3 _ rfl⟩
       have I_e := Lib.hid hxe
       clear hce hxe hle
       obtain ⟨d0_r, d1_r, d2_r, d3_r⟩ := z4c R_r.out
       obtain ⟨f0_r, f1_r, f2_r, f3_r⟩ := y4c R_r.out
       go_wp2_with fail
       clear d0_r f0_r d1_r f1_r d2_r f2_r d3_r f3_r
       clear de0 de1 de2 de3
       obtain ⟨w17, hn⟩ : ∃ wZ, setFrom g_r 0 [.int .u8 k_e, .string s_e, .int .i64 n_e, .slice a_e m_e c_e] w13 = wZ := ⟨_, rfl⟩
       have R_r' := sf hn R_r rfl
       have HS := sg hn
       have he := hn
       simp only [setFrom, Nat.reduceAdd] at he
       rw [he]
       clear he
       clear hn
       replace R_gp := kj HS R_gp (by omega)
       replace I_l := ijx I_l HS (by omega)
       replace I_e := ij I_e HS (by omega)
       replace HF := fb HF HS (by omega)
       replace Z_h_l := zt Z_h_l HS
       have R_r := R_r'
       clear R_r' HS
       (try simp only [Exit.inBlock, Exit.then])
       have hv := HV.out
       subst hv
       refine bodyPost_ret (results_st rfl Tryd.underlying37 (by kernel_rfl) _ _ g_r _ rfl rfl R_r.out) rfl ?_
       exact ⟨⟨_, rfl, I_e.out.mono (fun b _ hb => by have := hb.1; omega)⟩, HF.out, (Par.of HP0.out HF.out R_gp.out hq_q10P1)⟩
      ·
       obtain ⟨nl_l, hnl⟩ : ∃ nl, (y1 :: y2 :: yr).length = nl := ⟨_, rfl⟩
       rw [hnl] at I_l ⊢
       have hbl_l : ((nl_l : Int) == 1) = false := by
        simp only [beq_eq_false_iff_ne, ne_eq]
        simp only [List.length_cons] at hnl
        omega
       clear hnl
       simp only [run_bind, run_skip, run_must, run_take, Pr.run, next, if_true, if_false, Bool.false_eq_true] at HV
       go_wp2_with fail
       by_cases hk_n : (l.getD (q10 + 1) zTok).kind = 1
       ·
        simp only [hk_n, Re.andThen, run_bind, run_skip, run_must, run_take, Pr.run, next, if_true, if_false, Bool.false_eq_true] at HV
        refine (take_good (Par.of HP0.out HF.out R_gp.out hq_q10P1) (by decide) hk_n).mono ?_
        rintro e w18 ⟨rfl, hf, hp⟩
        obtain ⟨tx_n, htx⟩ : ∃ s, (l.getD (q10 + 1) zTok).text = s := ⟨_, rfl⟩
        rw [htx]
        have hv := HV.out
        rw [htx] at hv
        replace HV := Lib.hid hv
        clear hv htx
        have HS := Lib.hid hf
        have RG := Lib.hid hp.blk
        have hq_q10P1P1 := hp.le
        clear hf hp
        replace R_r := kj HS R_r (by omega)
        replace I_l := ijx I_l HS (by omega)
        replace HF := ft HF HS
        replace Z_h_l := zt Z_h_l HS
        replace R_gp := RG
        clear HS RG
        obtain ⟨d0_r, d1_r, d2_r, d3_r⟩ := z4c R_r.out
        obtain ⟨f0_r, f1_r, f2_r, f3_r⟩ := y4c R_r.out
        go_wp2_with fail
        clear d0_r f0_r d1_r f1_r d2_r f2_r d3_r f3_r
        obtain ⟨w19, hn⟩ : ∃ wZ, setFrom g_r 0 [.int .u8 2, .string tx_n, .int .i64 0, .slice al_l nl_l cl_l] w18 = wZ := ⟨_, rfl⟩
        have R_r' := sf hn R_r rfl
        have HS := sg hn
        have he := hn
        simp only [setFrom, Nat.reduceAdd] at he
        rw [he]
        clear he
        clear hn
        replace R_gp := kj HS R_gp (by omega)
        replace I_l := ijx I_l HS (by omega)
        replace HF := fb HF HS (by omega)
        replace Z_h_l := zt Z_h_l HS
        have R_r := R_r'
        clear R_r' HS
        (try simp only [Exit.inBlock, Exit.then])
        have hv := HV.out
        subst hv
        refine bodyPost_ret (results_st rfl Tryd.underlying37 (by kernel_rfl) _ _ g_r _ rfl rfl R_r.out) rfl ?_
        exact ⟨⟨_, rfl, hcT_mk 2 tx_n 0 (I_l.out.mono (fun b _ hb => by have := hb.1; omega))⟩, HF.out, (Par.of HP0.out HF.out R_gp.out hq_q10P1P1)⟩
       ·
        simp only [hk_n, Re.andThen, run_bind, run_skip, run_must, run_take, Pr.run, next, if_true, if_false, Bool.false_eq_true] at HV
        refine (take_bad (Par.of HP0.out HF.out R_gp.out hq_q10P1) (by decide) hk_n).mono ?_
        rintro e w20 ⟨rfl, hf, hp⟩
        have hv := HV.out
        subst hv
        exact ⟨rfl, rfl, HF.out.trans hf (fun _ _ h => h), hp⟩
end Go.Proofs.YtjabhmepafofmaaDoor
namespace Go.Proofs.YtjabhmepafofmaaDoor
open Go.RowKit

set_option maxHeartbeats 4000000 in
set_option maxRecDepth 100000 in
theorem post_step {gp : Nat} {a : Option Addr} {c : Nat} {l : List Tok} {g : Gr} {n : Nat} (h : Oks gp a c l g) : CT gp a c l 77 [] (stE xT) (g.pPost n) := by
 intro w p hp0 ho
 have HO := Lib.hid ho
 have HP0 := Lib.hid hp0
 have HH := Lib.hid h
 have hq_p := hp0.le
 have hlen := hp0.len
 have HF : Hid (Fr (Just gp) w w) := Lib.hid (Fr.refl _ _)
 have R_gp : Hid (w.heap[gp]? = some (.cells #[.slice a l.length c, .int .i64 (p : Nat)] 60 (0, 0))) := Lib.hid hp0.blk
 obtain ⟨V, hV⟩ : ∃ V, Pr.run l ((g.pPost n)) p = V := ⟨_, rfl⟩
 rw [hV] at HO ⊢
 clear ho hp0 h
 simp only [Gr.pPost, run_bind, run_skip, run_must, run_take, Pr.run, next, if_true, if_false, Bool.false_eq_true] at hV
 have HV := Lib.hid hV
 clear hV
 go_enter Tryd.func77, Tryd.ntmps77
 have hgw : gp < w.heap.size := lt_of_block HP0.out.blk
 go_wp2_with fail
 generalize hn : w.alloc _ = w1
 generalize hg : w.heap.size = g_r
 have HS := fa hn
 have R_r := nb hn hg
 have L_gp_r := lb hg R_gp
 have B_r := bs hg HF
 clear hn hg
 replace R_gp := kn HS R_gp
 replace HF := fn HF HS
 clear HS
 go_upto_region 1 with fail
 go_wp2_with fail
 cases hr_a : Pr.run l g.tyAtom p with
 | out =>
  simp only [hr_a, Re.andThen, run_bind, run_skip, run_must, run_take, Pr.run, next, if_true, if_false, Bool.false_eq_true] at HV
  exact absurd HV.out.symm HO.out
 | fail q =>
  simp only [hr_a, Re.andThen, run_bind, run_skip, run_must, run_take, Pr.run, next, if_true, if_false, Bool.false_eq_true] at HV
  refine ((HH.out.tyAtom).bad (Par.of HP0.out HF.out R_gp.out hq_p) hr_a).mono ?_
  rintro e w2 ⟨rfl, hf, hp⟩
  have hv := HV.out
  subst hv
  exact ⟨rfl, rfl, HF.out.trans hf (fun _ _ h => h), hp⟩
 | ok x_a q3 =>
  simp only [hr_a, Re.andThen, run_bind, run_skip, run_must, run_take, Pr.run, next, if_true, if_false, Bool.false_eq_true] at HV
  have hsz_a : gp < w1.heap.size := lt_of_block R_gp.out
  obtain ⟨b_a, hB⟩ : ∃ bZ, w1.heap.size = bZ := ⟨_, rfl⟩
  have K_gp_a := lb hB R_gp
  have K_r_a := lb hB R_r
  have KB_a := bs hB HF
  clear hsz_a
  refine ((HH.out.tyAtom).good (Par.of HP0.out HF.out R_gp.out hq_p) hr_a).mono ?_
  rintro e w4 ⟨⟨cs_a, rfl, hc⟩, hf, hp⟩
  rw [hB] at hc
  clear hB
  obtain ⟨h_a, hH⟩ : ∃ hZ, w4.heap.size = hZ := ⟨_, rfl⟩
  have I_a := im hH hc
  have Z_h_a : h_a ≤ w4.heap.size := Nat.le_of_eq hH.symm
  clear hc hH
  have HS := Lib.hid hf
  have RG := Lib.hid hp.blk
  have hq_q3 := hp.le
  clear hf hp
  replace R_r := kj HS R_r (by omega)
  replace HF := ft HF HS
  replace R_gp := RG
  clear HS RG
  obtain ⟨k_a, s_a, n_a, a_a, m_a, c_a, ecs⟩ := hcT I_a.out
  subst ecs
  go_wp2_with fail
  generalize hn : w4.alloc _ = w5
  generalize hg : w4.heap.size = g_t
  have HS := fa hn
  have R_t := nb hn hg
  have L_gp_t := lb hg R_gp
  have L_r_t := lb hg R_r
  have B_t := bs hg HF
  have M_h_a_t := mz hg Z_h_a
  clear hn hg
  replace R_gp := kn HS R_gp
  replace R_r := kn HS R_r
  replace I_a := ik I_a HS
  replace HF := fn HF HS
  replace Z_h_a := zt Z_h_a HS
  clear HS
  go_wp2_with fail

  go_loopw [] (fun wx => ∃ (q j : Nat) (x : T) (k : Nat) (sx : ByteArray) (nx : Int) (ax : Option Addr) (mx cx : Nat), q ≤ l.length ∧ posOf gp wx = q ∧ Hid (wx.heap[g_t]? = some (.cells #[.int .u8 k, .string sx, .int .i64 nx, .slice ax mx cx] 37 (0, 0))) ∧ Hid (wx.heap[g_r]? = some (.cells #[.int .u8 0, .string ⟨#[]⟩, .int .i64 0, .slice none 0 0] 37 (0, 0))) ∧ Hid (Hc (fun b => w.heap.size ≤ b ∧ b ≠ g_t ∧ b ≠ g_r) wx (xT x) [.int .u8 k, .string sx, .int .i64 nx, .slice ax mx cx]) ∧ Hid (wx.heap[gp]? = some (.cells #[.slice a l.length c, .int .i64 (q : Nat)] 60 (0, 0))) ∧ Hid (Fr (Just gp) w wx) ∧ Hid (Pr.run l (Gr.names j x) q = V)) (fun wx => l.length - posOf gp wx)
  case atStart => exact ⟨q3, n, x_a, _, _, _, _, _, _, hq_q3, posOf_at R_gp.out, R_t, R_r, Lib.hid (I_a.out.mono (fun b _ hb => ⟨by have := hb.1; omega, fun (h : b = g_t) => by have := hb.2; omega, fun (h : b = g_r) => by have := hb.1; omega⟩)), R_gp, HF, HV⟩
  case round =>
   clear R_t R_r I_a R_gp HF HV Z_h_a
   obtain ⟨q, j, x, k_x, s_x, n_x, a_x, m_x, c_x, hq_q, hpq, R_t, R_r, I_x, R_gp, HF, HV⟩ := hrel
   obtain ⟨wL, hwL⟩ : ∃ wL, wL = wr := ⟨wr, rfl⟩
   rw [← hwL] at R_t R_r I_x R_gp HF ⊢
   try rw [← hwL] at hpq
   clear hwL
   have hv := HV.out
   cases j with
   | zero => exact absurd hv.symm HO.out
   | succ j =>
    simp only [Gr.names, Re.andThen, run_bind, run_skip, run_must, run_take, Pr.run, next, if_true, if_false, Bool.false_eq_true] at hv
    replace HV := Lib.hid hv
    clear hv
    go_wp2_with fail
    obtain ⟨⟨kt_t, st_t, mt_t, qt_t⟩, ht⟩ : ∃ t, l.getD q zTok = t := ⟨_, rfl⟩
    refine (next_any gp a c l q wL (Par.of HP0.out HF.out R_gp.out hq_q)).mono ?_
    rintro e w6 ⟨rfl, hf⟩
    rw [ht]
    simp only [tokV]
    have hv := HV.out
    (try simp only [Re.andThen, run_bind, run_skip, run_must, run_take, Pr.run, next, if_true, if_false, Bool.false_eq_true] at hv)
    (try simp only [ht] at hv)
    replace HV := Lib.hid hv
    have HT_t := Lib.hid ht
    clear hv ht
    have HS := Lib.hid hf
    clear hf
    replace R_gp := kn HS R_gp
    replace R_r := kn HS R_r
    replace R_t := kn HS R_t
    replace I_x := Lib.hid (I_x.out.fr HS.out (fun _ _ => no_one))
    replace HF := fn HF HS
    clear HS
    go_wp2_with fail
    simp only [field49_0]
    by_cases hk1_t : kt_t = 1
    ·
     have hv := HV.out
     rw [if_pos hk1_t] at hv
     replace HV := Lib.hid hv
     clear hv
     have hq1_t : ((kt_t : Int) == 1) = true := by simp [hk1_t]
     go_upto_region 3 with fail
     refine region_e (fun w' => w'.cell? ⟨g_t, 0, none⟩ = some (.int .u8 k_x) ∧ w'.cell? ⟨g_t, 1, none⟩ = some (.string s_x) ∧ w'.cell? ⟨g_t, 2, none⟩ = some (.int .i64 n_x) ∧ w'.cell? ⟨g_t, 3, none⟩ = some (.slice a_x m_x c_x)) [5] (by kernel_rfl) ?_ (fun hHeld => ?_)
     · exact ⟨cell_of ((Fr.drew w6).keeps R_t.out no_one) 0, cell_of ((Fr.drew w6).keeps R_t.out no_one) 1, cell_of ((Fr.drew w6).keeps R_t.out no_one) 2, cell_of ((Fr.drew w6).keeps R_t.out no_one) 3⟩
     obtain ⟨w7, hwd⟩ : ∃ wZ, wZ = w6.drew := ⟨_, rfl⟩
     have HS : Hid (Fr No w6 w7) := Lib.hid (by rw [hwd]; exact Fr.drew _)
     rw [← hwd] at hHeld ⊢
     clear hwd
     replace R_gp := kn HS R_gp
     replace R_r := kn HS R_r
     replace R_t := kn HS R_t
     replace I_x := Lib.hid (I_x.out.fr HS.out (fun _ _ => no_one))
     replace HF := fn HF HS
     clear HS
     refine take_op 0 (some 10) (Op.move ( .tmp 0)) 58 ?_ (by kernel_rfl) (by kernel_rfl) (by kernel_rfl) (fun _ _ _ h => h) ?_ (by assumption) ?_
     rotate_left
     · intro w hSw; (try dsimp only at hSw); go_simp; (try (with_reducible rfl))
     try simp only [Act.put, List.setIfInBounds_toArray, List.set_cons_zero, List.set_cons_succ]
     refine take_op 2 (some 12) (Op.load 37 ( .tmp 3)) 37 ?_ (by kernel_rfl) (by kernel_rfl) (by kernel_rfl) (fun _ _ _ h => h) ?_ (by assumption) ?_
     rotate_left
     · intro w hSw; (try dsimp only at hSw); go_simp; (try (with_reducible rfl))
     try simp only [Act.put, List.setIfInBounds_toArray, List.set_cons_zero, List.set_cons_succ]
     refine ready_e (rs := [1, 3]) (by kernel_rfl) (by simp) ?_
     refine (do_mid (o := _) rfl (fun K hK => ?_) (do_mid (o := _) rfl (fun K hK => ?_) none_e))
     ·
      go_simp
      go_at_call 30
      have hk : (l.getD q zTok).kind = 1 := by rw [HT_t.out]; exact hk1_t
      refine (take_good (Par.of HP0.out HF.out R_gp.out hq_q) (by decide) hk).mono ?_
      rintro e w8 ⟨rfl, hf, hp⟩
      rw [HT_t.out]
      (try dsimp only)
      have hv := HV.out
      simp only [hk, Re.andThen, run_bind, run_skip, run_must, run_take, Pr.run, next, if_true, if_false, Bool.false_eq_true] at hv
      (try simp only [HT_t.out] at hv)
      replace HV := Lib.hid hv
      clear hv hk
      have HS := Lib.hid hf
      have RG := Lib.hid hp.blk
      have hq_qP1 := hp.le
      clear hf hp
      replace R_r := kj HS R_r (by omega)
      replace R_t := kj HS R_t (by omega)
      replace I_x := Lib.hid (I_x.out.fr HS.out (fun b hb (h : b = gp) => by have := hb.1; have := hb.2; omega))
      replace HF := ft HF HS
      replace R_gp := RG
      clear HS RG
      refine hK.out _ _ ?_ (fun hHeld => ?_)
      · exact ⟨cell_of R_t.out 0, cell_of R_t.out 1, cell_of R_t.out 2, cell_of R_t.out 3⟩
      clear hK K
      try dsimp only
      try simp only [Act.put, List.setIfInBounds_toArray, List.set_cons_zero, List.set_cons_succ]
      refine ready_e (rs := [3]) (by kernel_rfl) (by simp) ?_
      refine (do_mid (o := _) rfl (fun K hK => ?_) none_e)
      go_simp
      generalize hn : w8.alloc _ = w9
      generalize hg : w8.heap.size = g_arr
      have HS := fa hn
      have R_arr := nb hn hg
      have L_gp_arr := lb hg R_gp
      have L_r_arr := lb hg R_r
      have L_t_arr := lb hg R_t
      have B_arr := bs hg HF
      clear hn hg
      replace R_gp := kn HS R_gp
      replace R_r := kn HS R_r
      replace R_t := kn HS R_t
      replace I_x := Lib.hid (I_x.out.fr HS.out (fun _ _ => no_one))
      replace HF := fn HF HS
      clear HS
      refine hK.out _ _ ?_ (fun hHeld => ?_)
      · exact ⟨cell_of R_t.out 0, cell_of R_t.out 1, cell_of R_t.out 2, cell_of R_t.out 3⟩
      clear hK K
      try dsimp only
      try simp only [Act.put, List.setIfInBounds_toArray, List.set_cons_zero, List.set_cons_succ]
      refine take_op 4 (some 14) (Op.build 37 #[(0,  .const (.int .u8 2)), (1,  .tmp 11), (3,  .tmp 13)]) 37 ?_ (by kernel_rfl) (by kernel_rfl) (by kernel_rfl) (fun _ _ _ h => h) ?_ (by assumption) ?_
      rotate_left
      · intro w hSw; (try dsimp only at hSw); go_simp; (try (with_reducible rfl))
      try simp only [Act.put, List.setIfInBounds_toArray, List.set_cons_zero, List.set_cons_succ]
      obtain ⟨d0_t, d1_t, d2_t, d3_t⟩ := z4c R_t.out
      obtain ⟨f0_t, f1_t, f2_t, f3_t⟩ := y4c R_t.out
      refine ready_e (rs := [5]) (by kernel_rfl) (by simp) ?_
      refine (do_late (o := _) rfl (by kernel_rfl) (fun K hK => ?_) none_e)
      go_simp
      clear d0_t f0_t d1_t f1_t d2_t f2_t d3_t f3_t
      obtain ⟨w10, hn⟩ : ∃ wZ, setFrom g_t 0 [.int .u8 2, .string st_t, .int .i64 0, .slice (some ⟨g_arr, 0, none⟩) 1 1] w9 = wZ := ⟨_, rfl⟩
      have R_t' := sf hn R_t rfl
      have HS := sg hn
      have he := hn
      simp only [setFrom, Nat.reduceAdd] at he
      rw [he]
      clear he
      clear hn
      replace R_gp := kj HS R_gp (by omega)
      replace R_r := kj HS R_r (by omega)
      replace R_arr := kj HS R_arr (by omega)
      replace I_x := Lib.hid (I_x.out.fr HS.out (fun b hb (h : b = g_t) => by have := hb.1; have := hb.2; omega))
      replace HF := fb HF HS (by omega)
      have R_t := R_t'
      clear R_t' HS
      refine hK.out _ _ ?_
      clear hK K
      try dsimp only
      try simp only [Act.put, List.setIfInBounds_toArray, List.set_cons_zero, List.set_cons_succ]
      refine done_e (by kernel_rfl) ?_ _
      (try simp only [Exit.inBlock, Exit.then])
      go_wp2_with fail
      exact ⟨⟨(q + 1), j, .mk 2 st_t 0 [x], 2, st_t, 0, _, _, _, hq_qP1, posOf_at R_gp.out, R_t, R_r, Lib.hid (hcT_mk 2 st_t 0 (hx_one (c := [.int .u8 k_x, .string s_x, .int .i64 n_x, .slice a_x m_x c_x]) R_arr.out ⟨B_arr, by omega, by omega⟩ rfl (by decide) I_x.out)), R_gp, HF, HV⟩, by rw [posOf_at R_gp.out, hpq]; omega⟩
     ·
      go_simp
      generalize hn : w7.alloc _ = w11
      generalize hg : w7.heap.size = g_arr
      have HS := fa hn
      have R_arr := nb hn hg
      have L_gp_arr := lb hg R_gp
      have L_r_arr := lb hg R_r
      have L_t_arr := lb hg R_t
      have B_arr := bs hg HF
      clear hn hg
      replace R_gp := kn HS R_gp
      replace R_r := kn HS R_r
      replace R_t := kn HS R_t
      replace I_x := Lib.hid (I_x.out.fr HS.out (fun _ _ => no_one))
      replace HF := fn HF HS
      clear HS
      refine hK.out _ _ ?_ (fun hHeld => ?_)
      · exact ⟨cell_of R_t.out 0, cell_of R_t.out 1, cell_of R_t.out 2, cell_of R_t.out 3⟩
      clear hK K
      try dsimp only
      try simp only [Act.put, List.setIfInBounds_toArray, List.set_cons_zero, List.set_cons_succ]
      refine ready_e (rs := [1]) (by kernel_rfl) (by simp) ?_
      refine (do_mid (o := _) rfl (fun K hK => ?_) none_e)
      go_simp
      go_at_call 30
      have hk : (l.getD q zTok).kind = 1 := by rw [HT_t.out]; exact hk1_t
      refine (take_good (Par.of HP0.out HF.out R_gp.out hq_q) (by decide) hk).mono ?_
      rintro e w12 ⟨rfl, hf, hp⟩
      rw [HT_t.out]
      (try dsimp only)
      have hv := HV.out
      simp only [hk, Re.andThen, run_bind, run_skip, run_must, run_take, Pr.run, next, if_true, if_false, Bool.false_eq_true] at hv
      (try simp only [HT_t.out] at hv)
      replace HV := Lib.hid hv
      clear hv hk
      have HS := Lib.hid hf
      have RG := Lib.hid hp.blk
      have hq_qP1 := hp.le
      clear hf hp
      replace R_r := kj HS R_r (by omega)
      replace R_t := kj HS R_t (by omega)
      replace R_arr := kj HS R_arr (by omega)
      replace I_x := Lib.hid (I_x.out.fr HS.out (fun b hb (h : b = gp) => by have := hb.1; have := hb.2; omega))
      replace HF := ft HF HS
      replace R_gp := RG
      clear HS RG
      refine hK.out _ _ ?_ (fun hHeld => ?_)
      · exact ⟨cell_of R_t.out 0, cell_of R_t.out 1, cell_of R_t.out 2, cell_of R_t.out 3⟩
      clear hK K
      try dsimp only
      try simp only [Act.put, List.setIfInBounds_toArray, List.set_cons_zero, List.set_cons_succ]
      refine take_op 4 (some 14) (Op.build 37 #[(0,  .const (.int .u8 2)), (1,  .tmp 11), (3,  .tmp 13)]) 37 ?_ (by kernel_rfl) (by kernel_rfl) (by kernel_rfl) (fun _ _ _ h => h) ?_ (by assumption) ?_
      rotate_left
      · intro w hSw; (try dsimp only at hSw); go_simp; (try (with_reducible rfl))
      try simp only [Act.put, List.setIfInBounds_toArray, List.set_cons_zero, List.set_cons_succ]
      obtain ⟨d0_t, d1_t, d2_t, d3_t⟩ := z4c R_t.out
      obtain ⟨f0_t, f1_t, f2_t, f3_t⟩ := y4c R_t.out
      refine ready_e (rs := [5]) (by kernel_rfl) (by simp) ?_
      refine (do_late (o := _) rfl (by kernel_rfl) (fun K hK => ?_) none_e)
      go_simp
      clear d0_t f0_t d1_t f1_t d2_t f2_t d3_t f3_t
      obtain ⟨w13, hn⟩ : ∃ wZ, setFrom g_t 0 [.int .u8 2, .string st_t, .int .i64 0, .slice (some ⟨g_arr, 0, none⟩) 1 1] w12 = wZ := ⟨_, rfl⟩
      have R_t' := sf hn R_t rfl
      have HS := sg hn
      have he := hn
      simp only [setFrom, Nat.reduceAdd] at he
      rw [he]
      clear he
      clear hn
      replace R_gp := kj HS R_gp (by omega)
      replace R_r := kj HS R_r (by omega)
      replace R_arr := kj HS R_arr (by omega)
      replace I_x := Lib.hid (I_x.out.fr HS.out (fun b hb (h : b = g_t) => by have := hb.1; have := hb.2; omega))
      replace HF := fb HF HS (by omega)
      have R_t := R_t'
      clear R_t' HS
      refine hK.out _ _ ?_
      clear hK K
      try dsimp only
      try simp only [Act.put, List.setIfInBounds_toArray, List.set_cons_zero, List.set_cons_succ]
      refine done_e (by kernel_rfl) ?_ _
      (try simp only [Exit.inBlock, Exit.then])
      go_wp2_with fail
      exact ⟨⟨(q + 1), j, .mk 2 st_t 0 [x], 2, st_t, 0, _, _, _, hq_qP1, posOf_at R_gp.out, R_t, R_r, Lib.hid (hcT_mk 2 st_t 0 (hx_one (c := [.int .u8 k_x, .string s_x, .int .i64 n_x, .slice a_x m_x c_x]) R_arr.out ⟨B_arr, by omega, by omega⟩ rfl (by decide) I_x.out)), R_gp, HF, HV⟩, by rw [posOf_at R_gp.out, hpq]; omega⟩
    ·
     have hv := HV.out
     rw [if_neg hk1_t] at hv
     replace HV := Lib.hid hv
     clear hv
     have hq1_t : ((kt_t : Int) == 1) = false := by simp only [beq_eq_false_iff_ne, ne_eq]; omega
     obtain ⟨d0_t, d1_t, d2_t, d3_t⟩ := z4c R_t.out
     obtain ⟨f0_t, f1_t, f2_t, f3_t⟩ := y4c R_t.out
     obtain ⟨d0_r, d1_r, d2_r, d3_r⟩ := z4c R_r.out
     obtain ⟨f0_r, f1_r, f2_r, f3_r⟩ := y4c R_r.out
     go_wp2_with fail
     clear d0_t f0_t d1_t f1_t d2_t f2_t d3_t f3_t
     clear d0_r f0_r d1_r f1_r d2_r f2_r d3_r f3_r
     obtain ⟨w14, hn⟩ : ∃ wZ, setFrom g_r 0 [.int .u8 k_x, .string s_x, .int .i64 n_x, .slice a_x m_x c_x] w6 = wZ := ⟨_, rfl⟩
     have R_r' := sf hn R_r rfl
     have HS := sg hn
     have he := hn
     simp only [setFrom, Nat.reduceAdd] at he
     rw [he]
     clear he
     clear hn
     replace R_gp := kj HS R_gp (by omega)
     replace R_t := kj HS R_t (by omega)
     replace I_x := Lib.hid (I_x.out.fr HS.out (fun b hb (h : b = g_r) => by have := hb.1; have := hb.2; omega))
     replace HF := fb HF HS (by omega)
     have R_r := R_r'
     clear R_r' HS
     (try simp only [Exit.inBlock, Exit.then])
     have hv := HV.out
     subst hv
     refine bodyPost_ret (results_st rfl Tryd.underlying37 (by kernel_rfl) _ _ g_r _ rfl rfl R_r.out) rfl ?_
     exact ⟨⟨_, rfl, I_x.out.mono (fun b _ hb => hb.1)⟩, HF.out, (Par.of HP0.out HF.out R_gp.out hq_q)⟩
end Go.Proofs.YtjabhmepafofmaaDoor
namespace Go.Proofs.YtjabhmepafofmaaDoor
open Go.RowKit

set_option maxHeartbeats 4000000 in
set_option maxRecDepth 100000 in
theorem rule_step {gp : Nat} {a : Option Addr} {c : Nat} {l : List Tok} {g : Gr} (h : Oks gp a c l g) : CT gp a c l 52 [] (stE xR) g.pRule := by
 intro w p hp0 ho
 have HO := Lib.hid ho
 have HP0 := Lib.hid hp0
 have HH := Lib.hid h
 have hq_p := hp0.le
 have hlen := hp0.len
 have HF : Hid (Fr (Just gp) w w) := Lib.hid (Fr.refl _ _)
 have R_gp : Hid (w.heap[gp]? = some (.cells #[.slice a l.length c, .int .i64 (p : Nat)] 60 (0, 0))) := Lib.hid hp0.blk
 obtain ⟨V, hV⟩ : ∃ V, Pr.run l (g.pRule) p = V := ⟨_, rfl⟩
 rw [hV] at HO ⊢
 clear ho hp0 h
 simp only [Gr.pRule, run_bind, run_skip, run_must, run_take, Pr.run, next, if_true, if_false, Bool.false_eq_true] at hV
 have HV := Lib.hid hV
 clear hV
 go_enter Tryd.func52, Tryd.ntmps52
 go_wp2_with fail
 generalize hn : w.alloc _ = w1
 generalize hg : w.heap.size = g_r
 have HS := fa hn
 have R_r := nb hn hg
 have L_gp_r := lb hg R_gp
 have B_r := bs hg HF
 clear hn hg
 replace R_gp := kn HS R_gp
 replace HF := fn HF HS
 clear HS
 go_upto_region 1 with fail
 go_wp2_with fail
 cases hr_x : Pr.run l g.pat p with
 | out =>
  simp only [hr_x, Re.andThen, run_bind, run_skip, run_must, run_take, Pr.run, next, if_true, if_false, Bool.false_eq_true] at HV
  exact absurd HV.out.symm HO.out
 | fail q =>
  simp only [hr_x, Re.andThen, run_bind, run_skip, run_must, run_take, Pr.run, next, if_true, if_false, Bool.false_eq_true] at HV
  refine ((HH.out.pat).bad (Par.of HP0.out HF.out R_gp.out hq_p) hr_x).mono ?_
  rintro e w2 ⟨rfl, hf, hp⟩
  have hv := HV.out
  subst hv
  exact ⟨rfl, rfl, HF.out.trans hf (fun _ _ h => h), hp⟩
 | ok x_x q3 =>
  simp only [hr_x, Re.andThen, run_bind, run_skip, run_must, run_take, Pr.run, next, if_true, if_false, Bool.false_eq_true] at HV
  have hsz_x : gp < w1.heap.size := lt_of_block R_gp.out
  obtain ⟨b_x, hB⟩ : ∃ bZ, w1.heap.size = bZ := ⟨_, rfl⟩
  have K_gp_x := lb hB R_gp
  have K_r_x := lb hB R_r
  have KB_x := bs hB HF
  clear hsz_x
  refine ((HH.out.pat).good (Par.of HP0.out HF.out R_gp.out hq_p) hr_x).mono ?_
  rintro e w4 ⟨⟨cs_x, rfl, hc⟩, hf, hp⟩
  rw [hB] at hc
  clear hB
  obtain ⟨h_x, hH⟩ : ∃ hZ, w4.heap.size = hZ := ⟨_, rfl⟩
  have I_x := im hH hc
  have Z_h_x : h_x ≤ w4.heap.size := Nat.le_of_eq hH.symm
  clear hc hH
  have HS := Lib.hid hf
  have RG := Lib.hid hp.blk
  have hq_q3 := hp.le
  clear hf hp
  replace R_r := kj HS R_r (by omega)
  replace HF := ft HF HS
  replace R_gp := RG
  clear HS RG
  obtain ⟨k_x, s_x, n_x, a_x, m_x, c_x, ecs⟩ := hcT I_x.out
  subst ecs
  go_wp2_with fail
  generalize hn : w4.alloc _ = w5
  generalize hg : w4.heap.size = g_x
  have HS := fa hn
  have R_x := nb hn hg
  have L_gp_x := lb hg R_gp
  have L_r_x := lb hg R_r
  have B_x := bs hg HF
  have M_h_x_x := mz hg Z_h_x
  clear hn hg
  replace R_gp := kn HS R_gp
  replace R_r := kn HS R_r
  replace I_x := ik I_x HS
  replace HF := fn HF HS
  replace Z_h_x := zt Z_h_x HS
  clear HS
  go_wp2_with fail
  cases hm_ar : seesB (l.getD q3 zTok) [⟨#[61, 62]⟩] with
  | false =>
   simp only [hm_ar, Re.andThen, run_bind, run_skip, run_must, run_take, Pr.run, next, if_true, if_false, Bool.false_eq_true] at HV
   refine (must_bad (Par.of HP0.out HF.out R_gp.out hq_q3) hm_ar).mono ?_
   rintro e w6 ⟨rfl, hf, hp⟩
   have hv := HV.out
   subst hv
   exact ⟨rfl, rfl, HF.out.trans hf (fun _ _ h => h), hp⟩
  | true =>
   simp only [hm_ar, Re.andThen, run_bind, run_skip, run_must, run_take, Pr.run, next, if_true, if_false, Bool.false_eq_true] at HV
   refine (must_good (Par.of HP0.out HF.out R_gp.out hq_q3) hm_ar).mono ?_
   rintro e w7 ⟨rfl, hf, hp⟩
   have HS := Lib.hid hf
   have RG := Lib.hid hp.blk
   have hq_q3P1 := hp.le
   clear hf hp
   replace R_r := kj HS R_r (by omega)
   replace R_x := kj HS R_x (by omega)
   replace I_x := ij I_x HS (by omega)
   replace HF := ft HF HS
   replace Z_h_x := zt Z_h_x HS
   replace R_gp := RG
   clear HS RG
   go_upto_region 3 with fail
   refine region_e (fun w' => w'.cell? ⟨g_x, 0, none⟩ = some (.int .u8 k_x) ∧ w'.cell? ⟨g_x, 1, none⟩ = some (.string s_x) ∧ w'.cell? ⟨g_x, 2, none⟩ = some (.int .i64 n_x) ∧ w'.cell? ⟨g_x, 3, none⟩ = some (.slice a_x m_x c_x)) [4] (by kernel_rfl) ?_ (fun hHeld => ?_)
   · exact ⟨cell_of ((Fr.drew w7).keeps R_x.out no_one) 0, cell_of ((Fr.drew w7).keeps R_x.out no_one) 1, cell_of ((Fr.drew w7).keeps R_x.out no_one) 2, cell_of ((Fr.drew w7).keeps R_x.out no_one) 3⟩
   obtain ⟨w8, hwd⟩ : ∃ wZ, wZ = w7.drew := ⟨_, rfl⟩
   have HS : Hid (Fr No w7 w8) := Lib.hid (by rw [hwd]; exact Fr.drew _)
   rw [← hwd] at hHeld ⊢
   clear hwd
   replace R_gp := kn HS R_gp
   replace R_r := kn HS R_r
   replace R_x := kn HS R_x
   replace I_x := ik I_x HS
   replace HF := fn HF HS
   replace Z_h_x := zt Z_h_x HS
   clear HS
   refine take_op 0 (some 8) (Op.load 74 ( .tmp 3)) 74 ?_ (by kernel_rfl) (by kernel_rfl) (by kernel_rfl) (fun _ _ _ h => h) ?_ (by assumption) ?_
   rotate_left
   · intro w hSw; (try dsimp only at hSw); go_simp; (try (with_reducible rfl))
   try simp only [Act.put, List.setIfInBounds_toArray, List.set_cons_zero, List.set_cons_succ]
   refine take_op 1 (some 9) (Op.move ( .tmp 0)) 58 ?_ (by kernel_rfl) (by kernel_rfl) (by kernel_rfl) (fun _ _ _ h => h) ?_ (by assumption) ?_
   rotate_left
   · intro w hSw; (try dsimp only at hSw); go_simp; (try (with_reducible rfl))
   try simp only [Act.put, List.setIfInBounds_toArray, List.set_cons_zero, List.set_cons_succ]
   refine ready_e (rs := [2]) (by kernel_rfl) (by simp) ?_
   refine (do_mid (o := _) rfl (fun K hK => ?_) none_e)
   go_simp
   go_at_call 31
   cases hr_e : Pr.run l g.exp (q3 + 1) with
   | out =>
    simp only [hr_e, Re.andThen, run_bind, run_skip, run_must, run_take, Pr.run, next, if_true, if_false, Bool.false_eq_true] at HV
    exact absurd HV.out.symm HO.out
   | fail q =>
    simp only [hr_e, Re.andThen, run_bind, run_skip, run_must, run_take, Pr.run, next, if_true, if_false, Bool.false_eq_true] at HV
    refine ((HH.out.exp).bad (Par.of HP0.out HF.out R_gp.out hq_q3P1) hr_e).mono ?_
    rintro e w9 ⟨rfl, hf, hp⟩
    have hv := HV.out
    subst hv
    exact ⟨rfl, rfl, HF.out.trans hf (fun _ _ h => h), hp⟩
   | ok x_e q10 =>
    simp only [hr_e, Re.andThen, run_bind, run_skip, run_must, run_take, Pr.run, next, if_true, if_false, Bool.false_eq_true] at HV
    have hsz_e : gp < w8.heap.size := lt_of_block R_gp.out
    obtain ⟨b_e, hB⟩ : ∃ bZ, w8.heap.size = bZ := ⟨_, rfl⟩
    have K_gp_e := lb hB R_gp
    have K_r_e := lb hB R_r
    have K_x_e := lb hB R_x
    have KB_e := bs hB HF
    clear hsz_e
    refine ((HH.out.exp).good (Par.of HP0.out HF.out R_gp.out hq_q3P1) hr_e).mono ?_
    rintro e w11 ⟨⟨cs_e, rfl, hc⟩, hf, hp⟩
    rw [hB] at hc
    clear hB
    obtain ⟨h_e, hH⟩ : ∃ hZ, w11.heap.size = hZ := ⟨_, rfl⟩
    have I_e := im hH hc
    have Z_h_e : h_e ≤ w11.heap.size := Nat.le_of_eq hH.symm
    clear hc hH
    have HS := Lib.hid hf
    have RG := Lib.hid hp.blk
    have hq_q10 := hp.le
    clear hf hp
    replace R_r := kj HS R_r (by omega)
    replace R_x := kj HS R_x (by omega)
    replace I_x := ij I_x HS (by omega)
    replace HF := ft HF HS
    replace Z_h_x := zt Z_h_x HS
    replace R_gp := RG
    clear HS RG
    obtain ⟨k_e, s_e, n_e, u_e, a1_e, m1_e, c1_e, a2_e, m2_e, c2_e, a3_e, m3_e, c3_e, ecs⟩ := hcE I_e.out
    subst ecs
    (try simp only [List.toArray])
    refine hK.out _ _ ?_ (fun hHeld => ?_)
    · exact ⟨cell_of R_x.out 0, cell_of R_x.out 1, cell_of R_x.out 2, cell_of R_x.out 3⟩
    clear hK K
    try dsimp only
    try simp only [Act.put, List.setIfInBounds_toArray, List.set_cons_zero, List.set_cons_succ]
    refine take_op 3 (some 11) (Op.build 76 #[(0,  .tmp 8), (1,  .tmp 10)]) 76 ?_ (by kernel_rfl) (by kernel_rfl) (by kernel_rfl) (fun _ _ _ h => h) ?_ (by assumption) ?_
    rotate_left
    · intro w hSw; (try dsimp only at hSw); go_simp; (try (with_reducible rfl))
    try simp only [Act.put, List.setIfInBounds_toArray, List.set_cons_zero, List.set_cons_succ]
    obtain ⟨d0_r, d1_r, d2_r, d3_r, d4_r, d5_r, d6_r, d7_r, d8_r, d9_r, d10_r⟩ := z11c R_r.out
    obtain ⟨f0_r, f1_r, f2_r, f3_r, f4_r, f5_r, f6_r, f7_r, f8_r, f9_r, f10_r⟩ := y11c R_r.out
    refine ready_e (rs := [4]) (by kernel_rfl) (by simp) ?_
    refine (do_late (o := _) rfl (by kernel_rfl) (fun K hK => ?_) none_e)
    go_simp
    clear d0_r f0_r d1_r f1_r d2_r f2_r d3_r f3_r d4_r f4_r d5_r f5_r d6_r f6_r d7_r f7_r d8_r f8_r d9_r f9_r d10_r f10_r
    obtain ⟨w12, hn⟩ : ∃ wZ, setFrom g_r 0 [.int .u8 k_x, .string s_x, .int .i64 n_x, .slice a_x m_x c_x, .int .u8 k_e, .string s_e, .int .i64 n_e, .string u_e, .slice a1_e m1_e c1_e, .slice a2_e m2_e c2_e, .slice a3_e m3_e c3_e] w11 = wZ := ⟨_, rfl⟩
    have R_r' := sf hn R_r rfl
    have HS := sg hn
    have he := hn
    simp only [setFrom, Nat.reduceAdd] at he
    rw [he]
    clear he
    clear hn
    replace R_gp := kj HS R_gp (by omega)
    replace R_x := kj HS R_x (by omega)
    replace I_x := ij I_x HS (by omega)
    replace I_e := ij I_e HS (by omega)
    replace HF := fb HF HS (by omega)
    replace Z_h_x := zt Z_h_x HS
    replace Z_h_e := zt Z_h_e HS
    have R_r := R_r'
    clear R_r' HS
    refine hK.out _ _ ?_
    clear hK K
    try dsimp only
    try simp only [Act.put, List.setIfInBounds_toArray, List.set_cons_zero, List.set_cons_succ]
    refine done_e (by kernel_rfl) ?_ _
    (try simp only [Exit.inBlock, Exit.then])
    go_wp2_with fail
    (try simp only [Exit.inBlock, Exit.then])
    have hv := HV.out
    subst hv
    refine bodyPost_ret (results_st rfl Tryd.underlying76 (by kernel_rfl) _ _ g_r _ rfl rfl R_r.out) rfl ?_
    exact ⟨⟨_, rfl, hcR_mk (c := [.int .u8 k_x, .string s_x, .int .i64 n_x, .slice a_x m_x c_x]) (d := [.int .u8 k_e, .string s_e, .int .i64 n_e, .string u_e, .slice a1_e m1_e c1_e, .slice a2_e m2_e c2_e, .slice a3_e m3_e c3_e]) (I_x.out.mono (fun b _ hb => by have := hb.1; omega)) (I_e.out.mono (fun b _ hb => by have := hb.1; omega))⟩, HF.out, (Par.of HP0.out HF.out R_gp.out hq_q10)⟩
end Go.Proofs.YtjabhmepafofmaaDoor
namespace Go.Proofs.YtjabhmepafofmaaDoor
open Go.RowKit

set_option maxHeartbeats 4000000 in
set_option maxRecDepth 100000 in
theorem con_step {gp : Nat} {a : Option Addr} {c : Nat} {l : List Tok} {g : Gr} (h : Oks gp a c l g) : CT gp a c l 36 [] (stE xC) g.pCon := by
 intro w p hp0 ho
 have HO := Lib.hid ho
 have HP0 := Lib.hid hp0
 have HH := Lib.hid h
 have hq_p := hp0.le
 have hlen := hp0.len
 have HF : Hid (Fr (Just gp) w w) := Lib.hid (Fr.refl _ _)
 have R_gp : Hid (w.heap[gp]? = some (.cells #[.slice a l.length c, .int .i64 (p : Nat)] 60 (0, 0))) := Lib.hid hp0.blk
 obtain ⟨V, hV⟩ : ∃ V, Pr.run l (g.pCon) p = V := ⟨_, rfl⟩
 rw [hV] at HO ⊢
 clear ho hp0 h
 simp only [Gr.pCon, run_bind, run_skip, run_must, run_take, Pr.run, next, if_true, if_false, Bool.false_eq_true] at hV
 have HV := Lib.hid hV
 clear hV
 go_enter Tryd.func36, Tryd.ntmps36
 go_wp2_with fail
 generalize hn : w.alloc _ = w1
 generalize hg : w.heap.size = g_r
 have HS := fa hn
 have R_r := nb hn hg
 have L_gp_r := lb hg R_gp
 have B_r := bs hg HF
 clear hn hg
 replace R_gp := kn HS R_gp
 replace HF := fn HF HS
 clear HS
 go_upto_region 1 with fail
 go_wp2_with fail
 by_cases hk_s : (l.getD p zTok).kind = 2
 ·
  simp only [hk_s, Re.andThen, run_bind, run_skip, run_must, run_take, Pr.run, next, if_true, if_false, Bool.false_eq_true] at HV
  refine (take_good (Par.of HP0.out HF.out R_gp.out hq_p) (by decide) hk_s).mono ?_
  rintro e w2 ⟨rfl, hf, hp⟩
  obtain ⟨tx_s, htx⟩ : ∃ s, (l.getD p zTok).text = s := ⟨_, rfl⟩
  rw [htx]
  have hv := HV.out
  rw [htx] at hv
  replace HV := Lib.hid hv
  clear hv htx
  have HS := Lib.hid hf
  have RG := Lib.hid hp.blk
  have hq_pP1 := hp.le
  clear hf hp
  replace R_r := kj HS R_r (by omega)
  replace HF := ft HF HS
  replace R_gp := RG
  clear HS RG
  go_upto_region 2 with fail
  generalize hn : w2.alloc _ = w3
  generalize hg : w2.heap.size = g_c
  have HS := fa hn
  have R_c := nb hn hg
  have L_gp_c := lb hg R_gp
  have L_r_c := lb hg R_r
  have B_c := bs hg HF
  clear hn hg
  replace R_gp := kn HS R_gp
  replace R_r := kn HS R_r
  replace HF := fn HF HS
  clear HS
  go_wp2_with fail
  generalize hn : w3.alloc _ = w4
  generalize hg : w3.heap.size = g_sk
  have HS := fa hn
  have R_sk := nb hn hg
  have L_gp_sk := lb hg R_gp
  have L_r_sk := lb hg R_r
  have L_c_sk := lb hg R_c
  have B_sk := bs hg HF
  clear hn hg
  replace R_gp := kn HS R_gp
  replace R_r := kn HS R_r
  replace R_c := kn HS R_c
  replace HF := fn HF HS
  clear HS
  cases hb_sk : seesB (l.getD (p + 1) zTok) [⟨#[111, 102]⟩] with
  | true =>
   simp only [hb_sk, run_bind, run_skip, run_must, run_take, Pr.run, next, if_true, if_false, Bool.false_eq_true] at HV
   refine (sk_any (ts := [⟨#[111, 102]⟩]) (n := 1) (Par.of HP0.out HF.out R_gp.out hq_pP1) R_sk.out rfl (by omega) hb_sk).mono ?_
   rintro e w5 ⟨rfl, hf, hp⟩
   replace hp : Par w5 gp a c l ((p + 1) + 1) := hp
   clear R_sk
   have HS := Lib.hid hf
   have RG := Lib.hid hp.blk
   have hq_pP1P1 := hp.le
   clear hf hp
   replace R_r := kj HS R_r (by omega)
   replace R_c := kj HS R_c (by omega)
   replace HF := ft HF HS
   replace R_gp := RG
   clear HS RG
   go_wp2_with fail
   cases hr_t : Pr.run l g.ty ((p + 1) + 1) with
   | out =>
    simp only [hr_t, Re.andThen, run_bind, run_skip, run_must, run_take, Pr.run, next, if_true, if_false, Bool.false_eq_true] at HV
    exact absurd HV.out.symm HO.out
   | fail q =>
    simp only [hr_t, Re.andThen, run_bind, run_skip, run_must, run_take, Pr.run, next, if_true, if_false, Bool.false_eq_true] at HV
    refine ((HH.out.ty).bad (Par.of HP0.out HF.out R_gp.out hq_pP1P1) hr_t).mono ?_
    rintro e w6 ⟨rfl, hf, hp⟩
    have hv := HV.out
    subst hv
    exact ⟨rfl, rfl, HF.out.trans hf (fun _ _ h => h), hp⟩
   | ok x_t q7 =>
    simp only [hr_t, Re.andThen, run_bind, run_skip, run_must, run_take, Pr.run, next, if_true, if_false, Bool.false_eq_true] at HV
    have hsz_t : gp < w5.heap.size := lt_of_block R_gp.out
    obtain ⟨b_t, hB⟩ : ∃ bZ, w5.heap.size = bZ := ⟨_, rfl⟩
    have K_gp_t := lb hB R_gp
    have K_r_t := lb hB R_r
    have K_c_t := lb hB R_c
    have KB_t := bs hB HF
    clear hsz_t
    refine ((HH.out.ty).good (Par.of HP0.out HF.out R_gp.out hq_pP1P1) hr_t).mono ?_
    rintro e w8 ⟨⟨cs_t, rfl, hc⟩, hf, hp⟩
    rw [hB] at hc
    clear hB
    obtain ⟨h_t, hH⟩ : ∃ hZ, w8.heap.size = hZ := ⟨_, rfl⟩
    have I_t := im hH hc
    have Z_h_t : h_t ≤ w8.heap.size := Nat.le_of_eq hH.symm
    clear hc hH
    have HS := Lib.hid hf
    have RG := Lib.hid hp.blk
    have hq_q7 := hp.le
    clear hf hp
    replace R_r := kj HS R_r (by omega)
    replace R_c := kj HS R_c (by omega)
    replace HF := ft HF HS
    replace R_gp := RG
    clear HS RG
    obtain ⟨k_t, s_t, n_t, a_t, m_t, c_t, ecs⟩ := hcT I_t.out
    subst ecs
    obtain ⟨d0_c, d1_c, d2_c, d3_c, d4_c, d5_c⟩ := z6c R_c.out
    obtain ⟨f0_c, f1_c, f2_c, f3_c, f4_c, f5_c⟩ := y6c R_c.out
    go_upto_region 4 with fail
    clear d0_c f0_c d1_c f1_c d2_c f2_c d3_c f3_c d4_c f4_c d5_c f5_c
    obtain ⟨w9, hn⟩ : ∃ wZ, setL g_c [(1, .bool true), (2, .int .u8 k_t), (3, .string s_t), (4, .int .i64 n_t), (5, .slice a_t m_t c_t)] w8 = wZ := ⟨_, rfl⟩
    have R_c' : Hid (w9.heap[g_c]? = some (.cells #[.string tx_s, .bool true, .int .u8 k_t, .string s_t, .int .i64 n_t, .slice a_t m_t c_t] 86 (0, 0))) := Lib.hid (by rw [← hn]; exact setL_block [(1, .bool true), (2, .int .u8 k_t), (3, .string s_t), (4, .int .i64 n_t), (5, .slice a_t m_t c_t)] _ _ R_c.out)
    have HS := sl hn
    have he := hn
    simp only [setL] at he
    rw [he]
    clear he
    clear hn
    replace R_gp := kj HS R_gp (by omega)
    replace R_r := kj HS R_r (by omega)
    replace I_t := ij I_t HS (by omega)
    replace HF := fb HF HS (by omega)
    replace Z_h_t := zt Z_h_t HS
    have R_c := R_c'
    clear R_c' HS
    obtain ⟨d0_c, d1_c, d2_c, d3_c, d4_c, d5_c⟩ := z6c R_c.out
    obtain ⟨f0_c, f1_c, f2_c, f3_c, f4_c, f5_c⟩ := y6c R_c.out
    obtain ⟨d0_r, d1_r, d2_r, d3_r, d4_r, d5_r⟩ := z6c R_r.out
    obtain ⟨f0_r, f1_r, f2_r, f3_r, f4_r, f5_r⟩ := y6c R_r.out
    go_wp2_with fail
    clear d0_c f0_c d1_c f1_c d2_c f2_c d3_c f3_c d4_c f4_c d5_c f5_c
    clear d0_r f0_r d1_r f1_r d2_r f2_r d3_r f3_r d4_r f4_r d5_r f5_r
    obtain ⟨w10, hn⟩ : ∃ wZ, setFrom g_r 0 [.string tx_s, .bool true, .int .u8 k_t, .string s_t, .int .i64 n_t, .slice a_t m_t c_t] w9 = wZ := ⟨_, rfl⟩
    have R_r' := sf hn R_r rfl
    have HS := sg hn
    have he := hn
    simp only [setFrom, Nat.reduceAdd] at he
    rw [he]
    clear he
    clear hn
    replace R_gp := kj HS R_gp (by omega)
    replace R_c := kj HS R_c (by omega)
    replace I_t := ij I_t HS (by omega)
    replace HF := fb HF HS (by omega)
    replace Z_h_t := zt Z_h_t HS
    have R_r := R_r'
    clear R_r' HS
    (try simp only [Exit.inBlock, Exit.then])
    have hv := HV.out
    subst hv
    refine bodyPost_ret (results_st rfl Tryd.underlying86 (by kernel_rfl) _ _ g_r _ rfl rfl R_r.out) rfl ?_
    exact ⟨⟨_, rfl, hcC_mk tx_s true (I_t.out.mono (fun b _ hb => by have := hb.1; omega))⟩, HF.out, (Par.of HP0.out HF.out R_gp.out hq_q7)⟩
  | false =>
   simp only [hb_sk, run_bind, run_skip, run_must, run_take, Pr.run, next, if_true, if_false, Bool.false_eq_true] at HV
   refine (sk_any (ts := [⟨#[111, 102]⟩]) (n := 1) (Par.of HP0.out HF.out R_gp.out hq_pP1) R_sk.out rfl (by omega) hb_sk).mono ?_
   rintro e w11 ⟨rfl, hf, hp⟩
   replace hp : Par w11 gp a c l (p + 1) := hp
   clear R_sk
   have HS := Lib.hid hf
   have RG := Lib.hid hp.blk
   have hq_pP1 := hp.le
   clear hf hp
   replace R_r := kj HS R_r (by omega)
   replace R_c := kj HS R_c (by omega)
   replace HF := ft HF HS
   replace R_gp := RG
   clear HS RG
   obtain ⟨d0_c, d1_c, d2_c, d3_c, d4_c, d5_c⟩ := z6c R_c.out
   obtain ⟨f0_c, f1_c, f2_c, f3_c, f4_c, f5_c⟩ := y6c R_c.out
   obtain ⟨d0_r, d1_r, d2_r, d3_r, d4_r, d5_r⟩ := z6c R_r.out
   obtain ⟨f0_r, f1_r, f2_r, f3_r, f4_r, f5_r⟩ := y6c R_r.out
   go_wp2_with fail
   clear d0_c f0_c d1_c f1_c d2_c f2_c d3_c f3_c d4_c f4_c d5_c f5_c
   clear d0_r f0_r d1_r f1_r d2_r f2_r d3_r f3_r d4_r f4_r d5_r f5_r
   obtain ⟨w12, hn⟩ : ∃ wZ, setFrom g_r 0 [.string tx_s, .bool false, .int .u8 0, .string ⟨#[]⟩, .int .i64 0, .slice none 0 0] w11 = wZ := ⟨_, rfl⟩
   have R_r' := sf hn R_r rfl
   have HS := sg hn
   have he := hn
   simp only [setFrom, Nat.reduceAdd] at he
   rw [he]
   clear he
   clear hn
   replace R_gp := kj HS R_gp (by omega)
   replace R_c := kj HS R_c (by omega)
   replace HF := fb HF HS (by omega)
   have R_r := R_r'
   clear R_r' HS
   (try simp only [Exit.inBlock, Exit.then])
   have hv := HV.out
   subst hv
   refine bodyPost_ret (results_st rfl Tryd.underlying86 (by kernel_rfl) _ _ g_r _ rfl rfl R_r.out) rfl ?_
   exact ⟨⟨_, rfl, hcC_mk tx_s false hc_zT⟩, HF.out, (Par.of HP0.out HF.out R_gp.out hq_pP1)⟩
 ·
  simp only [hk_s, Re.andThen, run_bind, run_skip, run_must, run_take, Pr.run, next, if_true, if_false, Bool.false_eq_true] at HV
  refine (take_bad (Par.of HP0.out HF.out R_gp.out hq_p) (by decide) hk_s).mono ?_
  rintro e w13 ⟨rfl, hf, hp⟩
  have hv := HV.out
  subst hv
  exact ⟨rfl, rfl, HF.out.trans hf (fun _ _ h => h), hp⟩
end Go.Proofs.YtjabhmepafofmaaDoor
namespace Go.Proofs.YtjabhmepafofmaaDoor
open Go.RowKit

set_option maxHeartbeats 4000000 in
set_option maxRecDepth 100000 in
theorem prefix_step {gp : Nat} {a : Option Addr} {c : Nat} {l : List Tok} {g : Gr} (h : Oks gp a c l g) : CT gp a c l 83 [] (stE xE) g.pPrefix := by
 intro w p hp0 ho
 have HO := Lib.hid ho
 have HP0 := Lib.hid hp0
 have HH := Lib.hid h
 have hq_p := hp0.le
 have hlen := hp0.len
 have HF : Hid (Fr (Just gp) w w) := Lib.hid (Fr.refl _ _)
 have R_gp : Hid (w.heap[gp]? = some (.cells #[.slice a l.length c, .int .i64 (p : Nat)] 60 (0, 0))) := Lib.hid hp0.blk
 obtain ⟨V, hV⟩ : ∃ V, Pr.run l (g.pPrefix) p = V := ⟨_, rfl⟩
 rw [hV] at HO ⊢
 clear ho hp0 h
 simp only [Gr.pPrefix, run_bind, run_skip, run_must, run_take, Pr.run, next, if_true, if_false, Bool.false_eq_true] at hV
 have HV := Lib.hid hV
 clear hV
 go_enter Tryd.func83, Tryd.ntmps83
 go_wp2_with fail
 generalize hn : w.alloc _ = w1
 generalize hg : w.heap.size = g_r
 have HS := fa hn
 have R_r := nb hn hg
 have L_gp_r := lb hg R_gp
 have B_r := bs hg HF
 clear hn hg
 replace R_gp := kn HS R_gp
 replace HF := fn HF HS
 clear HS
 go_upto_region 1 with fail
 go_wp2_with fail
 obtain ⟨⟨kt_t, st_t, mt_t, qt_t⟩, ht⟩ : ∃ t, l.getD p zTok = t := ⟨_, rfl⟩
 refine (next_any gp a c l p w1 (Par.of HP0.out HF.out R_gp.out hq_p)).mono ?_
 rintro e w2 ⟨rfl, hf⟩
 rw [ht]
 simp only [tokV]
 have hv := HV.out
 (try simp only [Re.andThen, run_bind, run_skip, run_must, run_take, Pr.run, next, if_true, if_false, Bool.false_eq_true] at hv)
 (try simp only [ht] at hv)
 replace HV := Lib.hid hv
 have HT_t := Lib.hid ht
 clear hv ht
 have HS := Lib.hid hf
 clear hf
 replace R_gp := kn HS R_gp
 replace R_r := kn HS R_r
 replace HF := fn HF HS
 clear HS
 go_upto_region 2 with fail
 generalize hn : w2.alloc _ = w3
 generalize hg : w2.heap.size = g_t
 have HS := fa hn
 have R_t := nb hn hg
 have L_gp_t := lb hg R_gp
 have L_r_t := lb hg R_r
 have B_t := bs hg HF
 clear hn hg
 replace R_gp := kn HS R_gp
 replace R_r := kn HS R_r
 replace HF := fn HF HS
 clear HS
 go_wp2_with fail
 generalize hn : w3.alloc _ = w4
 generalize hg : w3.heap.size = g_sk
 have HS := fa hn
 have R_sk := nb hn hg
 have L_gp_sk := lb hg R_gp
 have L_r_sk := lb hg R_r
 have L_t_sk := lb hg R_t
 have B_sk := bs hg HF
 clear hn hg
 replace R_gp := kn HS R_gp
 replace R_r := kn HS R_r
 replace R_t := kn HS R_t
 replace HF := fn HF HS
 clear HS
 cases hb_sk : seesB (l.getD p zTok) [⟨#[33]⟩, ⟨#[126]⟩] with
 | true =>
  have hb_sk' := hb_sk
  rw [HT_t.out] at hb_sk'
  simp only [hb_sk, hb_sk', run_bind, run_skip, run_must, run_take, Pr.run, next, if_true, if_false, Bool.false_eq_true] at HV
  refine (sk_any (ts := [⟨#[33]⟩, ⟨#[126]⟩]) (n := 2) (Par.of HP0.out HF.out R_gp.out hq_p) R_sk.out rfl (by omega) hb_sk).mono ?_
  rintro e w5 ⟨rfl, hf, hp⟩
  replace hp : Par w5 gp a c l (p + 1) := hp
  clear R_sk
  have HS := Lib.hid hf
  have RG := Lib.hid hp.blk
  have hq_pP1 := hp.le
  clear hf hp
  replace R_r := kj HS R_r (by omega)
  replace R_t := kj HS R_t (by omega)
  replace HF := ft HF HS
  replace R_gp := RG
  clear HS RG
  go_upto_region 3 with fail
  refine region_e (fun w' => w'.cell? ⟨g_t, 0, none⟩ = some (.int .u8 kt_t) ∧ w'.cell? ⟨g_t, 1, none⟩ = some (.string st_t) ∧ w'.cell? ⟨g_t, 2, none⟩ = some (.int .i64 mt_t) ∧ w'.cell? ⟨g_t, 3, none⟩ = some (.int .i64 qt_t)) [6] (by kernel_rfl) ?_ (fun hHeld => ?_)
  · exact ⟨cell_of ((Fr.drew w5).keeps R_t.out no_one) 0, cell_of ((Fr.drew w5).keeps R_t.out no_one) 1, cell_of ((Fr.drew w5).keeps R_t.out no_one) 2, cell_of ((Fr.drew w5).keeps R_t.out no_one) 3⟩
  obtain ⟨w6, hwd⟩ : ∃ wZ, wZ = w5.drew := ⟨_, rfl⟩
  have HS : Hid (Fr No w5 w6) := Lib.hid (by rw [hwd]; exact Fr.drew _)
  rw [← hwd] at hHeld ⊢
  clear hwd
  replace R_gp := kn HS R_gp
  replace R_r := kn HS R_r
  replace R_t := kn HS R_t
  replace HF := fn HF HS
  clear HS
  refine take_op 0 (some 9) (Op.fieldAddr 49 ( .tmp 3) 1) 0 ?_ (by kernel_rfl) (by kernel_rfl) (by kernel_rfl) (fun _ _ _ h => h) ?_ (by assumption) ?_
  rotate_left
  · intro w hSw; (try dsimp only at hSw); go_simp; (try (with_reducible rfl))
  try simp only [Act.put, List.setIfInBounds_toArray, List.set_cons_zero, List.set_cons_succ]
  refine take_op 1 (some 10) (Op.load 9 ( .tmp 9)) 9 ?_ (by kernel_rfl) (by kernel_rfl) (by kernel_rfl) (fun _ _ _ h => h) ?_ (by assumption) ?_
  rotate_left
  · intro w hSw; (try dsimp only at hSw); go_simp; (try (with_reducible rfl))
  try simp only [Act.put, List.setIfInBounds_toArray, List.set_cons_zero, List.set_cons_succ]
  refine take_op 2 (some 11) (Op.move ( .tmp 0)) 58 ?_ (by kernel_rfl) (by kernel_rfl) (by kernel_rfl) (fun _ _ _ h => h) ?_ (by assumption) ?_
  rotate_left
  · intro w hSw; (try dsimp only at hSw); go_simp; (try (with_reducible rfl))
  try simp only [Act.put, List.setIfInBounds_toArray, List.set_cons_zero, List.set_cons_succ]
  refine ready_e (rs := [3]) (by kernel_rfl) (by simp) ?_
  refine (do_mid (o := _) rfl (fun K hK => ?_) none_e)
  go_simp
  go_at_call 83
  cases hr_e : Pr.run l g.prefix_ (p + 1) with
  | out =>
   simp only [hr_e, Re.andThen, run_bind, run_skip, run_must, run_take, Pr.run, next, if_true, if_false, Bool.false_eq_true] at HV
   exact absurd HV.out.symm HO.out
  | fail q =>
   simp only [hr_e, Re.andThen, run_bind, run_skip, run_must, run_take, Pr.run, next, if_true, if_false, Bool.false_eq_true] at HV
   refine ((HH.out.prefix_).bad (Par.of HP0.out HF.out R_gp.out hq_pP1) hr_e).mono ?_
   rintro e w7 ⟨rfl, hf, hp⟩
   have hv := HV.out
   subst hv
   exact ⟨rfl, rfl, HF.out.trans hf (fun _ _ h => h), hp⟩
  | ok x_e q8 =>
   simp only [hr_e, Re.andThen, run_bind, run_skip, run_must, run_take, Pr.run, next, if_true, if_false, Bool.false_eq_true] at HV
   have hsz_e : gp < w6.heap.size := lt_of_block R_gp.out
   obtain ⟨b_e, hB⟩ : ∃ bZ, w6.heap.size = bZ := ⟨_, rfl⟩
   have K_gp_e := lb hB R_gp
   have K_r_e := lb hB R_r
   have K_t_e := lb hB R_t
   have KB_e := bs hB HF
   clear hsz_e
   refine ((HH.out.prefix_).good (Par.of HP0.out HF.out R_gp.out hq_pP1) hr_e).mono ?_
   rintro e w9 ⟨⟨cs_e, rfl, hc⟩, hf, hp⟩
   rw [hB] at hc
   clear hB
   obtain ⟨h_e, hH⟩ : ∃ hZ, w9.heap.size = hZ := ⟨_, rfl⟩
   have I_e := im hH hc
   have Z_h_e : h_e ≤ w9.heap.size := Nat.le_of_eq hH.symm
   clear hc hH
   have HS := Lib.hid hf
   have RG := Lib.hid hp.blk
   have hq_q8 := hp.le
   clear hf hp
   replace R_r := kj HS R_r (by omega)
   replace R_t := kj HS R_t (by omega)
   replace HF := ft HF HS
   replace R_gp := RG
   clear HS RG
   obtain ⟨k_e, s_e, n_e, u_e, a1_e, m1_e, c1_e, a2_e, m2_e, c2_e, a3_e, m3_e, c3_e, ecs⟩ := hcE I_e.out
   subst ecs
   (try simp only [List.toArray])
   refine hK.out _ _ ?_ (fun hHeld => ?_)
   · exact ⟨cell_of R_t.out 0, cell_of R_t.out 1, cell_of R_t.out 2, cell_of R_t.out 3⟩
   clear hK K
   try dsimp only
   try simp only [Act.put, List.setIfInBounds_toArray, List.set_cons_zero, List.set_cons_succ]
   refine ready_e (rs := [4]) (by kernel_rfl) (by simp) ?_
   refine (do_mid (o := _) rfl (fun K hK => ?_) none_e)
   go_simp
   generalize hn : w9.alloc _ = w10
   generalize hg : w9.heap.size = g_arr
   have HS := fa hn
   have R_arr := nb hn hg
   have L_gp_arr := lb hg R_gp
   have L_r_arr := lb hg R_r
   have L_t_arr := lb hg R_t
   have B_arr := bs hg HF
   have M_h_e_arr := mz hg Z_h_e
   clear hn hg
   replace R_gp := kn HS R_gp
   replace R_r := kn HS R_r
   replace R_t := kn HS R_t
   replace I_e := ik I_e HS
   replace HF := fn HF HS
   replace Z_h_e := zt Z_h_e HS
   clear HS
   refine hK.out _ _ ?_ (fun hHeld => ?_)
   · exact ⟨cell_of R_t.out 0, cell_of R_t.out 1, cell_of R_t.out 2, cell_of R_t.out 3⟩
   clear hK K
   try dsimp only
   try simp only [Act.put, List.setIfInBounds_toArray, List.set_cons_zero, List.set_cons_succ]
   refine take_op 5 (some 14) (Op.build 32 #[(0,  .const (.int .u8 15)), (1,  .tmp 10), (4,  .tmp 13)]) 32 ?_ (by kernel_rfl) (by kernel_rfl) (by kernel_rfl) (fun _ _ _ h => h) ?_ (by assumption) ?_
   rotate_left
   · intro w hSw; (try dsimp only at hSw); go_simp; (try (with_reducible rfl))
   try simp only [Act.put, List.setIfInBounds_toArray, List.set_cons_zero, List.set_cons_succ]
   obtain ⟨d0_r, d1_r, d2_r, d3_r, d4_r, d5_r, d6_r⟩ := z7c R_r.out
   obtain ⟨f0_r, f1_r, f2_r, f3_r, f4_r, f5_r, f6_r⟩ := y7c R_r.out
   refine ready_e (rs := [6]) (by kernel_rfl) (by simp) ?_
   refine (do_late (o := _) rfl (by kernel_rfl) (fun K hK => ?_) none_e)
   go_simp
   clear d0_r f0_r d1_r f1_r d2_r f2_r d3_r f3_r d4_r f4_r d5_r f5_r d6_r f6_r
   obtain ⟨w11, hn⟩ : ∃ wZ, setFrom g_r 0 [.int .u8 15, .string st_t, .int .i64 0, .string ⟨#[]⟩, .slice (some ⟨g_arr, 0, none⟩) 1 1, .slice none 0 0, .slice none 0 0] w10 = wZ := ⟨_, rfl⟩
   have R_r' := sf hn R_r rfl
   have HS := sg hn
   have he := hn
   simp only [setFrom, Nat.reduceAdd] at he
   rw [he]
   clear he
   clear hn
   replace R_gp := kj HS R_gp (by omega)
   replace R_t := kj HS R_t (by omega)
   replace R_arr := kj HS R_arr (by omega)
   replace I_e := ij I_e HS (by omega)
   replace HF := fb HF HS (by omega)
   replace Z_h_e := zt Z_h_e HS
   have R_r := R_r'
   clear R_r' HS
   refine hK.out _ _ ?_
   clear hK K
   try dsimp only
   try simp only [Act.put, List.setIfInBounds_toArray, List.set_cons_zero, List.set_cons_succ]
   refine done_e (by kernel_rfl) ?_ _
   (try simp only [Exit.inBlock, Exit.then])
   go_wp2_with fail
   (try simp only [Exit.inBlock, Exit.then])
   have hv := HV.out
   subst hv
   refine bodyPost_ret (results_st rfl Tryd.underlying32 (by kernel_rfl) _ _ g_r _ rfl rfl R_r.out) rfl ?_
   exact ⟨⟨_, rfl, hcE_kids 15 st_t 0 nob (hx_one (c := [.int .u8 k_e, .string s_e, .int .i64 n_e, .string u_e, .slice a1_e m1_e c1_e, .slice a2_e m2_e c2_e, .slice a3_e m3_e c3_e]) R_arr.out B_arr rfl (by decide) (I_e.out.mono (fun b _ hb => by have := hb.1; omega)))⟩, HF.out, (Par.of HP0.out HF.out R_gp.out hq_q8)⟩
 | false =>
  have hb_sk' := hb_sk
  rw [HT_t.out] at hb_sk'
  simp only [hb_sk, hb_sk', run_bind, run_skip, run_must, run_take, Pr.run, next, if_true, if_false, Bool.false_eq_true] at HV
  refine (sk_any (ts := [⟨#[33]⟩, ⟨#[126]⟩]) (n := 2) (Par.of HP0.out HF.out R_gp.out hq_p) R_sk.out rfl (by omega) hb_sk).mono ?_
  rintro e w12 ⟨rfl, hf, hp⟩
  replace hp : Par w12 gp a c l p := hp
  clear R_sk
  have HS := Lib.hid hf
  have RG := Lib.hid hp.blk
  have hq_p := hp.le
  clear hf hp
  replace R_r := kj HS R_r (by omega)
  replace R_t := kj HS R_t (by omega)
  replace HF := ft HF HS
  replace R_gp := RG
  clear HS RG
  go_wp2_with fail
  cases hr_e : Pr.run l g.atom p with
  | out =>
   simp only [hr_e, Re.andThen, run_bind, run_skip, run_must, run_take, Pr.run, next, if_true, if_false, Bool.false_eq_true] at HV
   exact absurd HV.out.symm HO.out
  | fail q =>
   simp only [hr_e, Re.andThen, run_bind, run_skip, run_must, run_take, Pr.run, next, if_true, if_false, Bool.false_eq_true] at HV
   refine ((HH.out.atom).bad (Par.of HP0.out HF.out R_gp.out hq_p) hr_e).mono ?_
   rintro e w13 ⟨rfl, hf, hp⟩
   have hv := HV.out
   subst hv
   exact ⟨rfl, rfl, HF.out.trans hf (fun _ _ h => h), hp⟩
  | ok x_e q14 =>
   simp only [hr_e, Re.andThen, run_bind, run_skip, run_must, run_take, Pr.run, next, if_true, if_false, Bool.false_eq_true] at HV
   have hsz_e : gp < w12.heap.size := lt_of_block R_gp.out
   obtain ⟨b_e, hB⟩ : ∃ bZ, w12.heap.size = bZ := ⟨_, rfl⟩
   have K_gp_e := lb hB R_gp
   have K_r_e := lb hB R_r
   have K_t_e := lb hB R_t
   have KB_e := bs hB HF
   clear hsz_e
   refine ((HH.out.atom).good (Par.of HP0.out HF.out R_gp.out hq_p) hr_e).mono ?_
   rintro e w15 ⟨⟨cs_e, rfl, hc⟩, hf, hp⟩
   rw [hB] at hc
   clear hB
   obtain ⟨h_e, hH⟩ : ∃ hZ, w15.heap.size = hZ := ⟨_, rfl⟩
   have I_e := im hH hc
   have Z_h_e : h_e ≤ w15.heap.size := Nat.le_of_eq hH.symm
   clear hc hH
   have HS := Lib.hid hf
   have RG := Lib.hid hp.blk
   have hq_q14 := hp.le
   clear hf hp
   replace R_r := kj HS R_r (by omega)
   replace R_t := kj HS R_t (by omega)
   replace HF := ft HF HS
   replace R_gp := RG
   clear HS RG
   obtain ⟨k_e, s_e, n_e, u_e, a1_e, m1_e, c1_e, a2_e, m2_e, c2_e, a3_e, m3_e, c3_e, ecs⟩ := hcE I_e.out
   subst ecs
   obtain ⟨d0_r, d1_r, d2_r, d3_r, d4_r, d5_r, d6_r⟩ := z7c R_r.out
   obtain ⟨f0_r, f1_r, f2_r, f3_r, f4_r, f5_r, f6_r⟩ := y7c R_r.out
   go_wp2_with fail
   clear d0_r f0_r d1_r f1_r d2_r f2_r d3_r f3_r d4_r f4_r d5_r f5_r d6_r f6_r
   obtain ⟨w16, hn⟩ : ∃ wZ, setFrom g_r 0 [.int .u8 k_e, .string s_e, .int .i64 n_e, .string u_e, .slice a1_e m1_e c1_e, .slice a2_e m2_e c2_e, .slice a3_e m3_e c3_e] w15 = wZ := ⟨_, rfl⟩
   have R_r' := sf hn R_r rfl
   have HS := sg hn
   have he := hn
   simp only [setFrom, Nat.reduceAdd] at he
   rw [he]
   clear he
   clear hn
   replace R_gp := kj HS R_gp (by omega)
   replace R_t := kj HS R_t (by omega)
   replace I_e := ij I_e HS (by omega)
   replace HF := fb HF HS (by omega)
   replace Z_h_e := zt Z_h_e HS
   have R_r := R_r'
   clear R_r' HS
   (try simp only [Exit.inBlock, Exit.then])
   have hv := HV.out
   subst hv
   refine bodyPost_ret (results_st rfl Tryd.underlying32 (by kernel_rfl) _ _ g_r _ rfl rfl R_r.out) rfl ?_
   exact ⟨⟨_, rfl, I_e.out.mono (fun b _ hb => by have := hb.1; omega)⟩, HF.out, (Par.of HP0.out HF.out R_gp.out hq_q14)⟩
end Go.Proofs.YtjabhmepafofmaaDoor
