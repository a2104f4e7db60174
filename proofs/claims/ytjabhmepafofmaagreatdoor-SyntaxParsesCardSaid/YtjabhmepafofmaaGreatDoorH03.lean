/- Wex -/
import Derived.Test.YtjabhmepafofmaaGreatDoorG05
import Derived.Test.YtjabhmepafofmaaGreatDoorH02
import Derived.Test.YtjabhmepafofmaaGreatDoorH37
set_option linter.unusedVariables false
set_option linter.unusedSimpArgs false
namespace Go.Proofs.YtjabhmepafofmaaGreatDoor
open Go.RowKit
set_option maxHeartbeats 4000000 in
set_option maxRecDepth 100000 in
theorem exp_step {gp : Nat} {a : Option Addr} {c : Nat} {l : List Tok} {g : Gr} {n : Nat} (h : Oks gp a c l g) : CT gp a c l 24 [] (stE xE) (g.pExp n) := by
 intro w p hp0 ho
 have HO := Lib.hid ho
 have HP0 := Lib.hid hp0
 have HH := Lib.hid h
 have hq_p := hp0.le
 have hlen := hp0.len
 have HF : Hid (Fr (Just gp) w w) := Lib.hid (Fr.refl _ _)
 have R_gp : Hid (w.heap[gp]? = some (.cells #[.slice a l.length c, .int .i64 (p : Nat)] 49 (0, 0))) := Lib.hid hp0.blk
 obtain ⟨V, hV⟩ : ∃ V, Pr.run l ((g.pExp n)) p = V := ⟨_, rfl⟩
 rw [hV] at HO ⊢
 clear ho hp0 h
 simp only [Gr.pExp, run_bind, run_skip, run_must, run_take, Pr.run, next, if_true, if_false, Bool.false_eq_true] at hV
 have HV := Lib.hid hV
 clear hV
 go_enter Tryz.func24, Tryz.ntmps24
 have hgw : gp < w.heap.size := lt_of_block HP0.out.blk
 go_upto_region 1 with fail
 generalize hn : w.alloc _ = w1
 generalize hg : w.heap.size = g_r
 have HS := fa hn
 have R_r := nb hn hg
 have L_gp_r := lb hg R_gp
 have B_r := bs hg HF
 clear hn hg
 replace R_gp := kn HS R_gp
 replace HF := fn HF HS
 clear HS
 go_wp2_with fail
 generalize hn : w1.alloc _ = w2
 generalize hg : w1.heap.size = g_sk
 have HS := fa hn
 have R_sk := nb hn hg
 have L_gp_sk := lb hg R_gp
 have L_r_sk := lb hg R_r
 have B_sk := bs hg HF
 clear hn hg
 replace R_gp := kn HS R_gp
 replace R_r := kn HS R_r
 replace HF := fn HF HS
 clear HS
 cases hb_sk : seesB (l.getD p zTok) [⟨#[102, 110]⟩] with
 | true =>
  simp only [hb_sk, Re.andThen, run_bind, run_skip, run_must, run_take, Pr.run, next, if_true, if_false, Bool.false_eq_true] at HV
  refine (sk_any (ts := [⟨#[102, 110]⟩]) (n := 1) (Par.of HP0.out HF.out R_gp.out hq_p) R_sk.out rfl (by omega) hb_sk).mono ?_
  rintro e w3 ⟨rfl, hf, hp⟩
  replace hp : Par w3 gp a c l (p + 1) := hp
  clear R_sk
  have HS := Lib.hid hf
  have RG := Lib.hid hp.blk
  have hq_pP1 := hp.le
  clear hf hp
  replace R_r := kj HS R_r (by omega)
  replace HF := ft HF HS
  replace R_gp := RG
  clear HS RG
  go_wp2_with fail
  by_cases hk_s : (l.getD (p + 1) zTok).kind = 1
  ·
   simp only [hk_s, Re.andThen, run_bind, run_skip, run_must, run_take, Pr.run, next, if_true, if_false, Bool.false_eq_true] at HV
   refine (take_good (Par.of HP0.out HF.out R_gp.out hq_pP1) (by decide) hk_s).mono ?_
   rintro e w4 ⟨rfl, hf, hp⟩
   obtain ⟨tx_s, htx⟩ : ∃ s, (l.getD (p + 1) zTok).text = s := ⟨_, rfl⟩
   rw [htx]
   have hv := HV.out
   rw [htx] at hv
   replace HV := Lib.hid hv
   clear hv htx
   have HS := Lib.hid hf
   have RG := Lib.hid hp.blk
   have hq_pP1P1 := hp.le
   clear hf hp
   replace R_r := kj HS R_r (by omega)
   replace HF := ft HF HS
   replace R_gp := RG
   clear HS RG
   go_wp2_with fail
   cases hm_ar : seesB (l.getD ((p + 1) + 1) zTok) [⟨#[61, 62]⟩] with
   | false =>
    simp only [hm_ar, Re.andThen, run_bind, run_skip, run_must, run_take, Pr.run, next, if_true, if_false, Bool.false_eq_true] at HV
    refine (must_bad (Par.of HP0.out HF.out R_gp.out hq_pP1P1) hm_ar).mono ?_
    rintro e w5 ⟨rfl, hf, hp⟩
    have hv := HV.out
    subst hv
    exact ⟨rfl, rfl, HF.out.trans hf (fun _ _ h => h), hp⟩
   | true =>
    simp only [hm_ar, Re.andThen, run_bind, run_skip, run_must, run_take, Pr.run, next, if_true, if_false, Bool.false_eq_true] at HV
    refine (must_good (Par.of HP0.out HF.out R_gp.out hq_pP1P1) hm_ar).mono ?_
    rintro e w6 ⟨rfl, hf, hp⟩
    have HS := Lib.hid hf
    have RG := Lib.hid hp.blk
    have hq_pP1P1P1 := hp.le
    clear hf hp
    replace R_r := kj HS R_r (by omega)
    replace HF := ft HF HS
    replace R_gp := RG
    clear HS RG
    go_wp2_with fail
    cases hr_e : Pr.run l g.exp (((p + 1) + 1) + 1) with
    | out =>
     simp only [hr_e, Re.andThen, run_bind, run_skip, run_must, run_take, Pr.run, next, if_true, if_false, Bool.false_eq_true] at HV
     exact absurd HV.out.symm HO.out
    | fail q =>
     simp only [hr_e, Re.andThen, run_bind, run_skip, run_must, run_take, Pr.run, next, if_true, if_false, Bool.false_eq_true] at HV
     refine ((HH.out.exp).bad (Par.of HP0.out HF.out R_gp.out hq_pP1P1P1) hr_e).mono ?_
     rintro e w7 ⟨rfl, hf, hp⟩
     have hv := HV.out
     subst hv
     exact ⟨rfl, rfl, HF.out.trans hf (fun _ _ h => h), hp⟩
    | ok x_e q8 =>
     simp only [hr_e, Re.andThen, run_bind, run_skip, run_must, run_take, Pr.run, next, if_true, if_false, Bool.false_eq_true] at HV
     have hsz_e : gp < w6.heap.size := lt_of_block R_gp.out
     obtain ⟨b_e, hB⟩ : ∃ bZ, w6.heap.size = bZ := ⟨_, rfl⟩
     have K_gp_e := lb hB R_gp
     have K_r_e := lb hB R_r
     have KB_e := bs hB HF
     clear hsz_e
     refine ((HH.out.exp).good (Par.of HP0.out HF.out R_gp.out hq_pP1P1P1) hr_e).mono ?_
     rintro e w9 ⟨⟨cs_e, rfl, hc⟩, hf, hp⟩
     rw [hB] at hc
     clear hB
     obtain ⟨h_e, hH⟩ : ∃ hZ, w9.heap.size = hZ := ⟨_, rfl⟩
     have I_e := im hH hc
     have Z_h_e : h_e ≤ w9.heap.size := Nat.le_of_eq hH.symm
     clear hc hH
     have HS := Lib.hid hf
     have RG := Lib.hid hp.blk
     have hq_q8 := hp.le
     clear hf hp
     replace R_r := kj HS R_r (by omega)
     replace HF := ft HF HS
     replace R_gp := RG
     clear HS RG
     obtain ⟨k_e, s_e, n_e, u_e, a1_e, m1_e, c1_e, a2_e, m2_e, c2_e, a3_e, m3_e, c3_e, ecs⟩ := hcE I_e.out
     subst ecs
     obtain ⟨d0_r, d1_r, d2_r, d3_r, d4_r, d5_r, d6_r⟩ := z7c R_r.out
     obtain ⟨f0_r, f1_r, f2_r, f3_r, f4_r, f5_r, f6_r⟩ := y7c R_r.out
     have hltr : g_r < w9.heap.size := lt_of_block R_r.out
     go_wp2_with fail
     clear d0_r f0_r d1_r f1_r d2_r f2_r d3_r f3_r d4_r f4_r d5_r f5_r d6_r f6_r
     clear hltr
     obtain ⟨g_arr, hg⟩ : ∃ gZ, w9.heap.size = gZ := ⟨_, rfl⟩
     rw [hg]
     have L_gp_arr := lb hg R_gp
     have L_r_arr := lb hg R_r
     have B_arr := bs hg HF
     have M_h_e_arr := mz hg Z_h_e
     obtain ⟨w10, hn⟩ : ∃ wZ, setFrom g_r 0 [.int .u8 7, .string tx_s, .int .i64 0, .string ⟨#[]⟩, .slice (some ⟨g_arr, 0, none⟩) 1 1, .slice none 0 0, .slice none 0 0] w9 = wZ := ⟨_, rfl⟩
     have R_r' := sf hn R_r rfl
     have HS := sg hn
     have he := hn
     simp only [setFrom, Nat.reduceAdd] at he
     rw [he]
     clear he
     have hsz := (congrArg (fun w => w.heap.size) hn).symm.trans ((setFrom_size _ _ _ _).trans hg)
     clear hg
     (try dsimp only at hsz)
     clear hn
     replace R_gp := kj HS R_gp (by omega)
     replace I_e := ij I_e HS (by omega)
     replace HF := fb HF HS (by omega)
     replace Z_h_e := zt Z_h_e HS
     have R_r := R_r'
     clear R_r' HS
     obtain ⟨w11, hn⟩ : ∃ wZ, w10.alloc (.cells #[.int .u8 k_e, .string s_e, .int .i64 n_e, .string u_e, .slice a1_e m1_e c1_e, .slice a2_e m2_e c2_e, .slice a3_e m3_e c3_e] 44) = wZ := ⟨_, rfl⟩
     rw [hn]
     have HS := fa hn
     have R_arr : Hid (w11.heap[g_arr]? = some (.cells #[.int .u8 k_e, .string s_e, .int .i64 n_e, .string u_e, .slice a1_e m1_e c1_e, .slice a2_e m2_e c2_e, .slice a3_e m3_e c3_e] 44 (0, 0))) := Lib.hid (by rw [← hn, ← hsz]; exact new_block _ _)
     clear hn hsz
     replace R_gp := kn HS R_gp
     replace R_r := kn HS R_r
     replace I_e := ik I_e HS
     replace HF := fn HF HS
     replace Z_h_e := zt Z_h_e HS
     clear HS
     (try simp only [Exit.inBlock, Exit.then])
     have hv := HV.out
     subst hv
     refine bodyPost_ret (results_st rfl Tryz.underlying44 (by kernel_rfl) _ _ g_r _ rfl rfl R_r.out) rfl ?_
     exact ⟨⟨_, rfl, hcE_kids 7 tx_s 0 nob (hx_one (c := [.int .u8 k_e, .string s_e, .int .i64 n_e, .string u_e, .slice a1_e m1_e c1_e, .slice a2_e m2_e c2_e, .slice a3_e m3_e c3_e]) R_arr.out B_arr rfl (by decide) (I_e.out.mono (fun b _ hb => by have := hb.1; omega)))⟩, HF.out, (Par.of HP0.out HF.out R_gp.out hq_q8)⟩
  ·
   simp only [hk_s, Re.andThen, run_bind, run_skip, run_must, run_take, Pr.run, next, if_true, if_false, Bool.false_eq_true] at HV
   refine (take_bad (Par.of HP0.out HF.out R_gp.out hq_pP1) (by decide) hk_s).mono ?_
   rintro e w12 ⟨rfl, hf, hp⟩
   have hv := HV.out
   subst hv
   exact ⟨rfl, rfl, HF.out.trans hf (fun _ _ h => h), hp⟩
 | false =>
  simp only [hb_sk, Re.andThen, run_bind, run_skip, run_must, run_take, Pr.run, next, if_true, if_false, Bool.false_eq_true] at HV
  refine (sk_any (ts := [⟨#[102, 110]⟩]) (n := 1) (Par.of HP0.out HF.out R_gp.out hq_p) R_sk.out rfl (by omega) hb_sk).mono ?_
  rintro e w13 ⟨rfl, hf, hp⟩
  replace hp : Par w13 gp a c l p := hp
  clear R_sk
  have HS := Lib.hid hf
  have RG := Lib.hid hp.blk
  have hq_p := hp.le
  clear hf hp
  replace R_r := kj HS R_r (by omega)
  replace HF := ft HF HS
  replace R_gp := RG
  clear HS RG
  go_wp2_with fail
  generalize hn : w13.alloc _ = w14
  generalize hg : w13.heap.size = g_sk
  have HS := fa hn
  have R_sk := nb hn hg
  have L_gp_sk := lb hg R_gp
  have L_r_sk := lb hg R_r
  have B_sk := bs hg HF
  clear hn hg
  replace R_gp := kn HS R_gp
  replace R_r := kn HS R_r
  replace HF := fn HF HS
  clear HS
  cases hb_sk : seesB (l.getD p zTok) [⟨#[99, 97, 115, 101]⟩] with
  | true =>
   simp only [hb_sk, Re.andThen, run_bind, run_skip, run_must, run_take, Pr.run, next, if_true, if_false, Bool.false_eq_true] at HV
   refine (sk_any (ts := [⟨#[99, 97, 115, 101]⟩]) (n := 1) (Par.of HP0.out HF.out R_gp.out hq_p) R_sk.out rfl (by omega) hb_sk).mono ?_
   rintro e w15 ⟨rfl, hf, hp⟩
   replace hp : Par w15 gp a c l (p + 1) := hp
   clear R_sk
   have HS := Lib.hid hf
   have RG := Lib.hid hp.blk
   have hq_pP1 := hp.le
   clear hf hp
   replace R_r := kj HS R_r (by omega)
   replace HF := ft HF HS
   replace R_gp := RG
   clear HS RG
   go_wp2_with fail
   cases hr_e : Pr.run l g.exp (p + 1) with
   | out =>
    simp only [hr_e, Re.andThen, run_bind, run_skip, run_must, run_take, Pr.run, next, if_true, if_false, Bool.false_eq_true] at HV
    exact absurd HV.out.symm HO.out
   | fail q =>
    simp only [hr_e, Re.andThen, run_bind, run_skip, run_must, run_take, Pr.run, next, if_true, if_false, Bool.false_eq_true] at HV
    refine ((HH.out.exp).bad (Par.of HP0.out HF.out R_gp.out hq_pP1) hr_e).mono ?_
    rintro e w16 ⟨rfl, hf, hp⟩
    have hv := HV.out
    subst hv
    exact ⟨rfl, rfl, HF.out.trans hf (fun _ _ h => h), hp⟩
   | ok x_e q17 =>
    simp only [hr_e, Re.andThen, run_bind, run_skip, run_must, run_take, Pr.run, next, if_true, if_false, Bool.false_eq_true] at HV
    have hsz_e : gp < w15.heap.size := lt_of_block R_gp.out
    obtain ⟨b_e, hB⟩ : ∃ bZ, w15.heap.size = bZ := ⟨_, rfl⟩
    have K_gp_e := lb hB R_gp
    have K_r_e := lb hB R_r
    have KB_e := bs hB HF
    clear hsz_e
    refine ((HH.out.exp).good (Par.of HP0.out HF.out R_gp.out hq_pP1) hr_e).mono ?_
    rintro e w18 ⟨⟨cs_e, rfl, hc⟩, hf, hp⟩
    rw [hB] at hc
    clear hB
    obtain ⟨h_e, hH⟩ : ∃ hZ, w18.heap.size = hZ := ⟨_, rfl⟩
    have I_e := im hH hc
    have Z_h_e : h_e ≤ w18.heap.size := Nat.le_of_eq hH.symm
    clear hc hH
    have HS := Lib.hid hf
    have RG := Lib.hid hp.blk
    have hq_q17 := hp.le
    clear hf hp
    replace R_r := kj HS R_r (by omega)
    replace HF := ft HF HS
    replace R_gp := RG
    clear HS RG
    obtain ⟨k_e, s_e, n_e, u_e, a1_e, m1_e, c1_e, a2_e, m2_e, c2_e, a3_e, m3_e, c3_e, ecs⟩ := hcE I_e.out
    subst ecs
    go_upto_region 7 with fail
    generalize hn : w18.alloc _ = w19
    generalize hg : w18.heap.size = g_t
    have HS := fa hn
    have R_t := nb hn hg
    have L_gp_t := lb hg R_gp
    have L_r_t := lb hg R_r
    have B_t := bs hg HF
    have M_h_e_t := mz hg Z_h_e
    clear hn hg
    replace R_gp := kn HS R_gp
    replace R_r := kn HS R_r
    replace I_e := ik I_e HS
    replace HF := fn HF HS
    replace Z_h_e := zt Z_h_e HS
    clear HS
    go_wp2_with fail
    cases hm_of : seesB (l.getD q17 zTok) [⟨#[111, 102]⟩] with
    | false =>
     simp only [hm_of, Re.andThen, run_bind, run_skip, run_must, run_take, Pr.run, next, if_true, if_false, Bool.false_eq_true] at HV
     refine (must_bad (Par.of HP0.out HF.out R_gp.out hq_q17) hm_of).mono ?_
     rintro e w20 ⟨rfl, hf, hp⟩
     have hv := HV.out
     subst hv
     exact ⟨rfl, rfl, HF.out.trans hf (fun _ _ h => h), hp⟩
    | true =>
     simp only [hm_of, Re.andThen, run_bind, run_skip, run_must, run_take, Pr.run, next, if_true, if_false, Bool.false_eq_true] at HV
     refine (must_good (Par.of HP0.out HF.out R_gp.out hq_q17) hm_of).mono ?_
     rintro e w21 ⟨rfl, hf, hp⟩
     have HS := Lib.hid hf
     have RG := Lib.hid hp.blk
     have hq_q17P1 := hp.le
     clear hf hp
     replace R_r := kj HS R_r (by omega)
     replace R_t := kj HS R_t (by omega)
     replace I_e := ij I_e HS (by omega)
     replace HF := ft HF HS
     replace Z_h_e := zt Z_h_e HS
     replace R_gp := RG
     clear HS RG
     go_upto_region 8 with fail
     refine region_e (fun w' => w'.cell? ⟨g_t, 0, none⟩ = some (.int .u8 k_e) ∧ w'.cell? ⟨g_t, 1, none⟩ = some (.string s_e) ∧ w'.cell? ⟨g_t, 2, none⟩ = some (.int .i64 n_e) ∧ w'.cell? ⟨g_t, 3, none⟩ = some (.string u_e) ∧ w'.cell? ⟨g_t, 4, none⟩ = some (.slice a1_e m1_e c1_e) ∧ w'.cell? ⟨g_t, 5, none⟩ = some (.slice a2_e m2_e c2_e) ∧ w'.cell? ⟨g_t, 6, none⟩ = some (.slice a3_e m3_e c3_e)) [7] (by kernel_rfl) ?_ (fun hHeld => ?_)
     · exact ⟨cell_of ((Fr.drew w21).keeps R_t.out no_one) 0, cell_of ((Fr.drew w21).keeps R_t.out no_one) 1, cell_of ((Fr.drew w21).keeps R_t.out no_one) 2, cell_of ((Fr.drew w21).keeps R_t.out no_one) 3, cell_of ((Fr.drew w21).keeps R_t.out no_one) 4, cell_of ((Fr.drew w21).keeps R_t.out no_one) 5, cell_of ((Fr.drew w21).keeps R_t.out no_one) 6⟩
     obtain ⟨w22, hwd⟩ : ∃ wZ, wZ = w21.drew := ⟨_, rfl⟩
     have HS : Hid (Fr No w21 w22) := Lib.hid (by rw [hwd]; exact Fr.drew _)
     rw [← hwd] at hHeld ⊢
     clear hwd
     replace R_gp := kn HS R_gp
     replace R_r := kn HS R_r
     replace R_t := kn HS R_t
     replace I_e := ik I_e HS
     replace HF := fn HF HS
     replace Z_h_e := zt Z_h_e HS
     clear HS
     refine take_op 0 (some 30) (Op.load 44 ( .tmp 4)) 44 ?_ (by kernel_rfl) (by kernel_rfl) (by kernel_rfl) (fun _ _ _ h => h) ?_ (by assumption) ?_
     rotate_left
     · intro w hSw; (try dsimp only at hSw); go_simp; (try (with_reducible rfl))
     try simp only [Act.put, List.setIfInBounds_toArray, List.set_cons_zero, List.set_cons_succ]
     refine take_op 2 (some 32) (Op.move ( .tmp 0)) 47 ?_ (by kernel_rfl) (by kernel_rfl) (by kernel_rfl) (fun _ _ _ h => h) ?_ (by assumption) ?_
     rotate_left
     · intro w hSw; (try dsimp only at hSw); go_simp; (try (with_reducible rfl))
     try simp only [Act.put, List.setIfInBounds_toArray, List.set_cons_zero, List.set_cons_succ]
     refine take_op 3 (some 33) (Op.move ( .tmp 0)) 47 ?_ (by kernel_rfl) (by kernel_rfl) (by kernel_rfl) (fun _ _ _ h => h) ?_ (by assumption) ?_
     rotate_left
     · intro w hSw; (try dsimp only at hSw); go_simp; (try (with_reducible rfl))
     try simp only [Act.put, List.setIfInBounds_toArray, List.set_cons_zero, List.set_cons_succ]
     refine take_op 4 (some 34) (Op.makeFunc (Fn.func 54) #[ .tmp 33] #[]) 100 ?_ (by kernel_rfl) (by kernel_rfl) (by kernel_rfl) (fun _ _ _ h => h) ?_ (by assumption) ?_
     rotate_left
     · intro w hSw; (try dsimp only at hSw); go_simp; (try (with_reducible rfl))
     try simp only [Act.put, List.setIfInBounds_toArray, List.set_cons_zero, List.set_cons_succ]
     refine ready_e (rs := [1, 5]) (by kernel_rfl) (by simp) ?_
     refine (do_mid (o := _) rfl (fun K hK => ?_) (do_mid (o := _) rfl (fun K hK => ?_) none_e))
     ·
      go_simp
      generalize hn : w22.alloc _ = w23
      generalize hg : w22.heap.size = g_arr
      have HS := fa hn
      have R_arr := nb hn hg
      have L_gp_arr := lb hg R_gp
      have L_r_arr := lb hg R_r
      have L_t_arr := lb hg R_t
      have B_arr := bs hg HF
      have M_h_e_arr := mz hg Z_h_e
      clear hn hg
      replace R_gp := kn HS R_gp
      replace R_r := kn HS R_r
      replace R_t := kn HS R_t
      replace I_e := ik I_e HS
      replace HF := fn HF HS
      replace Z_h_e := zt Z_h_e HS
      clear HS
      refine hK.out _ _ ?_ (fun hHeld => ?_)
      · exact ⟨cell_of R_t.out 0, cell_of R_t.out 1, cell_of R_t.out 2, cell_of R_t.out 3, cell_of R_t.out 4, cell_of R_t.out 5, cell_of R_t.out 6⟩
      clear hK K
      try dsimp only
      try simp only [Act.put, List.setIfInBounds_toArray, List.set_cons_zero, List.set_cons_succ]
      refine ready_e (rs := [5]) (by kernel_rfl) (by simp) ?_
      refine (do_mid (o := _) rfl (fun K hK => ?_) none_e)
      go_simp
      go_at_call 53
      cases hr_q : Pr.run l (some_ n ⟨#[124]⟩ g.rule) (q17 + 1) with
      | out =>
       simp only [hr_q, Re.andThen, run_bind, run_skip, run_must, run_take, Pr.run, next, if_true, if_false, Bool.false_eq_true] at HV
       exact absurd HV.out.symm HO.out
      | fail q =>
       simp only [hr_q, Re.andThen, run_bind, run_skip, run_must, run_take, Pr.run, next, if_true, if_false, Bool.false_eq_true] at HV
       refine (((some_rule enters54 HH.out.rule ⟨#[124]⟩ n)).bad (Par.of HP0.out HF.out R_gp.out hq_q17P1) hr_q).mono ?_
       rintro e w24 ⟨rfl, hf, hp⟩
       have hv := HV.out
       subst hv
       exact ⟨rfl, rfl, HF.out.trans hf (fun _ _ h => h), hp⟩
      | ok x_q q25 =>
       simp only [hr_q, Re.andThen, run_bind, run_skip, run_must, run_take, Pr.run, next, if_true, if_false, Bool.false_eq_true] at HV
       have hsz_q : gp < w23.heap.size := lt_of_block R_gp.out
       obtain ⟨b_q, hB⟩ : ∃ bZ, w23.heap.size = bZ := ⟨_, rfl⟩
       have K_gp_q := lb hB R_gp
       have K_r_q := lb hB R_r
       have K_t_q := lb hB R_t
       have K_arr_q := lb hB R_arr
       have KB_q := bs hB HF
       clear hsz_q
       refine (((some_rule enters54 HH.out.rule ⟨#[124]⟩ n)).good (Par.of HP0.out HF.out R_gp.out hq_q17P1) hr_q).mono ?_
       rintro e w26 ⟨⟨v_q, rfl, hc⟩, hf, hp⟩
       rw [hB] at hc
       clear hB
       obtain ⟨h_q, hH⟩ : ∃ hZ, w26.heap.size = hZ := ⟨_, rfl⟩
       have I_q := imx hH hc
       have Z_h_q : h_q ≤ w26.heap.size := Nat.le_of_eq hH.symm
       clear hc hH
       have HS := Lib.hid hf
       have RG := Lib.hid hp.blk
       have hq_q25 := hp.le
       clear hf hp
       replace R_r := kj HS R_r (by omega)
       replace R_t := kj HS R_t (by omega)
       replace R_arr := kj HS R_arr (by omega)
       replace I_e := ij I_e HS (by omega)
       replace HF := ft HF HS
       replace Z_h_e := zt Z_h_e HS
       replace R_gp := RG
       clear HS RG
       obtain ⟨al_q, cl_q, evl⟩ := hx_slice I_q.out
       subst evl
       obtain ⟨nl_q, hnl⟩ : ∃ n, List.length (List.map xR x_q) = n := ⟨_, rfl⟩
       rw [hnl] at I_q ⊢
       clear hnl
       refine hK.out _ _ ?_ (fun hHeld => ?_)
       · exact ⟨cell_of R_t.out 0, cell_of R_t.out 1, cell_of R_t.out 2, cell_of R_t.out 3, cell_of R_t.out 4, cell_of R_t.out 5, cell_of R_t.out 6⟩
       clear hK K
       try dsimp only
       try simp only [Act.put, List.setIfInBounds_toArray, List.set_cons_zero, List.set_cons_succ]
       refine take_op 6 (some 36) (Op.build 44 #[(0,  .const (.int .u8 11)), (4,  .tmp 31), (5,  .tmp 35)]) 44 ?_ (by kernel_rfl) (by kernel_rfl) (by kernel_rfl) (fun _ _ _ h => h) ?_ (by assumption) ?_
       rotate_left
       · intro w hSw; (try dsimp only at hSw); go_simp; (try (with_reducible rfl))
       try simp only [Act.put, List.setIfInBounds_toArray, List.set_cons_zero, List.set_cons_succ]
       obtain ⟨d0_r, d1_r, d2_r, d3_r, d4_r, d5_r, d6_r⟩ := z7c R_r.out
       obtain ⟨f0_r, f1_r, f2_r, f3_r, f4_r, f5_r, f6_r⟩ := y7c R_r.out
       refine ready_e (rs := [7]) (by kernel_rfl) (by simp) ?_
       refine (do_late (o := _) rfl (by kernel_rfl) (fun K hK => ?_) none_e)
       go_simp
       clear d0_r f0_r d1_r f1_r d2_r f2_r d3_r f3_r d4_r f4_r d5_r f5_r d6_r f6_r
       obtain ⟨w27, hn⟩ : ∃ wZ, setFrom g_r 0 [.int .u8 11, .string ⟨#[]⟩, .int .i64 0, .string ⟨#[]⟩, .slice (some ⟨g_arr, 0, none⟩) 1 1, .slice al_q nl_q cl_q, .slice none 0 0] w26 = wZ := ⟨_, rfl⟩
       have R_r' := sf hn R_r rfl
       have HS := sg hn
       have he := hn
       simp only [setFrom, Nat.reduceAdd] at he
       rw [he]
       clear he
       clear hn
       replace R_gp := kj HS R_gp (by omega)
       replace R_t := kj HS R_t (by omega)
       replace R_arr := kj HS R_arr (by omega)
       replace I_e := ij I_e HS (by omega)
       replace I_q := ijx I_q HS (by omega)
       replace HF := fb HF HS (by omega)
       replace Z_h_e := zt Z_h_e HS
       replace Z_h_q := zt Z_h_q HS
       have R_r := R_r'
       clear R_r' HS
       refine hK.out _ _ ?_
       clear hK K
       try dsimp only
       try simp only [Act.put, List.setIfInBounds_toArray, List.set_cons_zero, List.set_cons_succ]
       refine done_e (by kernel_rfl) ?_ _
       (try simp only [Exit.inBlock, Exit.then])
       go_wp2_with fail
       (try simp only [Exit.inBlock, Exit.then])
       have hv := HV.out
       subst hv
       refine bodyPost_ret (results_st rfl Tryz.underlying44 (by kernel_rfl) _ _ g_r _ rfl rfl R_r.out) rfl ?_
       exact ⟨⟨_, rfl, hcE_mk 11 nob 0 nob (hx_one (c := [.int .u8 k_e, .string s_e, .int .i64 n_e, .string u_e, .slice a1_e m1_e c1_e, .slice a2_e m2_e c2_e, .slice a3_e m3_e c3_e]) R_arr.out B_arr rfl (by decide) (I_e.out.mono (fun b _ hb => by have := hb.1; omega))) (I_q.out.mono (fun b _ hb => by have := hb.1; omega)) (hx_nil _)⟩, HF.out, (Par.of HP0.out HF.out R_gp.out hq_q25)⟩
     ·
      go_simp
      go_at_call 53
      cases hr_q : Pr.run l (some_ n ⟨#[124]⟩ g.rule) (q17 + 1) with
      | out =>
       simp only [hr_q, Re.andThen, run_bind, run_skip, run_must, run_take, Pr.run, next, if_true, if_false, Bool.false_eq_true] at HV
       exact absurd HV.out.symm HO.out
      | fail q =>
       simp only [hr_q, Re.andThen, run_bind, run_skip, run_must, run_take, Pr.run, next, if_true, if_false, Bool.false_eq_true] at HV
       refine (((some_rule enters54 HH.out.rule ⟨#[124]⟩ n)).bad (Par.of HP0.out HF.out R_gp.out hq_q17P1) hr_q).mono ?_
       rintro e w28 ⟨rfl, hf, hp⟩
       have hv := HV.out
       subst hv
       exact ⟨rfl, rfl, HF.out.trans hf (fun _ _ h => h), hp⟩
      | ok x_q q29 =>
       simp only [hr_q, Re.andThen, run_bind, run_skip, run_must, run_take, Pr.run, next, if_true, if_false, Bool.false_eq_true] at HV
       have hsz_q : gp < w22.heap.size := lt_of_block R_gp.out
       obtain ⟨b_q, hB⟩ : ∃ bZ, w22.heap.size = bZ := ⟨_, rfl⟩
       have K_gp_q := lb hB R_gp
       have K_r_q := lb hB R_r
       have K_t_q := lb hB R_t
       have KB_q := bs hB HF
       clear hsz_q
       refine (((some_rule enters54 HH.out.rule ⟨#[124]⟩ n)).good (Par.of HP0.out HF.out R_gp.out hq_q17P1) hr_q).mono ?_
       rintro e w30 ⟨⟨v_q, rfl, hc⟩, hf, hp⟩
       rw [hB] at hc
       clear hB
       obtain ⟨h_q, hH⟩ : ∃ hZ, w30.heap.size = hZ := ⟨_, rfl⟩
       have I_q := imx hH hc
       have Z_h_q : h_q ≤ w30.heap.size := Nat.le_of_eq hH.symm
       clear hc hH
       have HS := Lib.hid hf
       have RG := Lib.hid hp.blk
       have hq_q29 := hp.le
       clear hf hp
       replace R_r := kj HS R_r (by omega)
       replace R_t := kj HS R_t (by omega)
       replace I_e := ij I_e HS (by omega)
       replace HF := ft HF HS
       replace Z_h_e := zt Z_h_e HS
       replace R_gp := RG
       clear HS RG
       obtain ⟨al_q, cl_q, evl⟩ := hx_slice I_q.out
       subst evl
       obtain ⟨nl_q, hnl⟩ : ∃ n, List.length (List.map xR x_q) = n := ⟨_, rfl⟩
       rw [hnl] at I_q ⊢
       clear hnl
       refine hK.out _ _ ?_ (fun hHeld => ?_)
       · exact ⟨cell_of R_t.out 0, cell_of R_t.out 1, cell_of R_t.out 2, cell_of R_t.out 3, cell_of R_t.out 4, cell_of R_t.out 5, cell_of R_t.out 6⟩
       clear hK K
       try dsimp only
       try simp only [Act.put, List.setIfInBounds_toArray, List.set_cons_zero, List.set_cons_succ]
       refine ready_e (rs := [1]) (by kernel_rfl) (by simp) ?_
       refine (do_mid (o := _) rfl (fun K hK => ?_) none_e)
       go_simp
       generalize hn : w30.alloc _ = w31
       generalize hg : w30.heap.size = g_arr
       have HS := fa hn
       have R_arr := nb hn hg
       have L_gp_arr := lb hg R_gp
       have L_r_arr := lb hg R_r
       have L_t_arr := lb hg R_t
       have B_arr := bs hg HF
       have M_h_e_arr := mz hg Z_h_e
       have M_h_q_arr := mz hg Z_h_q
       clear hn hg
       replace R_gp := kn HS R_gp
       replace R_r := kn HS R_r
       replace R_t := kn HS R_t
       replace I_e := ik I_e HS
       replace I_q := ikx I_q HS
       replace HF := fn HF HS
       replace Z_h_e := zt Z_h_e HS
       replace Z_h_q := zt Z_h_q HS
       clear HS
       refine hK.out _ _ ?_ (fun hHeld => ?_)
       · exact ⟨cell_of R_t.out 0, cell_of R_t.out 1, cell_of R_t.out 2, cell_of R_t.out 3, cell_of R_t.out 4, cell_of R_t.out 5, cell_of R_t.out 6⟩
       clear hK K
       try dsimp only
       try simp only [Act.put, List.setIfInBounds_toArray, List.set_cons_zero, List.set_cons_succ]
       refine take_op 6 (some 36) (Op.build 44 #[(0,  .const (.int .u8 11)), (4,  .tmp 31), (5,  .tmp 35)]) 44 ?_ (by kernel_rfl) (by kernel_rfl) (by kernel_rfl) (fun _ _ _ h => h) ?_ (by assumption) ?_
       rotate_left
       · intro w hSw; (try dsimp only at hSw); go_simp; (try (with_reducible rfl))
       try simp only [Act.put, List.setIfInBounds_toArray, List.set_cons_zero, List.set_cons_succ]
       obtain ⟨d0_r, d1_r, d2_r, d3_r, d4_r, d5_r, d6_r⟩ := z7c R_r.out
       obtain ⟨f0_r, f1_r, f2_r, f3_r, f4_r, f5_r, f6_r⟩ := y7c R_r.out
       refine ready_e (rs := [7]) (by kernel_rfl) (by simp) ?_
       refine (do_late (o := _) rfl (by kernel_rfl) (fun K hK => ?_) none_e)
       go_simp
       clear d0_r f0_r d1_r f1_r d2_r f2_r d3_r f3_r d4_r f4_r d5_r f5_r d6_r f6_r
       obtain ⟨w32, hn⟩ : ∃ wZ, setFrom g_r 0 [.int .u8 11, .string ⟨#[]⟩, .int .i64 0, .string ⟨#[]⟩, .slice (some ⟨g_arr, 0, none⟩) 1 1, .slice al_q nl_q cl_q, .slice none 0 0] w31 = wZ := ⟨_, rfl⟩
       have R_r' := sf hn R_r rfl
       have HS := sg hn
       have he := hn
       simp only [setFrom, Nat.reduceAdd] at he
       rw [he]
       clear he
       clear hn
       replace R_gp := kj HS R_gp (by omega)
       replace R_t := kj HS R_t (by omega)
       replace R_arr := kj HS R_arr (by omega)
       replace I_e := ij I_e HS (by omega)
       replace I_q := ijx I_q HS (by omega)
       replace HF := fb HF HS (by omega)
       replace Z_h_e := zt Z_h_e HS
       replace Z_h_q := zt Z_h_q HS
       have R_r := R_r'
       clear R_r' HS
       refine hK.out _ _ ?_
       clear hK K
       try dsimp only
       try simp only [Act.put, List.setIfInBounds_toArray, List.set_cons_zero, List.set_cons_succ]
       refine done_e (by kernel_rfl) ?_ _
       (try simp only [Exit.inBlock, Exit.then])
       go_wp2_with fail
       (try simp only [Exit.inBlock, Exit.then])
       have hv := HV.out
       subst hv
       refine bodyPost_ret (results_st rfl Tryz.underlying44 (by kernel_rfl) _ _ g_r _ rfl rfl R_r.out) rfl ?_
       exact ⟨⟨_, rfl, hcE_mk 11 nob 0 nob (hx_one (c := [.int .u8 k_e, .string s_e, .int .i64 n_e, .string u_e, .slice a1_e m1_e c1_e, .slice a2_e m2_e c2_e, .slice a3_e m3_e c3_e]) R_arr.out B_arr rfl (by decide) (I_e.out.mono (fun b _ hb => by have := hb.1; omega))) (I_q.out.mono (fun b _ hb => by have := hb.1; omega)) (hx_nil _)⟩, HF.out, (Par.of HP0.out HF.out R_gp.out hq_q29)⟩
  | false =>
   simp only [hb_sk, Re.andThen, run_bind, run_skip, run_must, run_take, Pr.run, next, if_true, if_false, Bool.false_eq_true] at HV
   refine (sk_any (ts := [⟨#[99, 97, 115, 101]⟩]) (n := 1) (Par.of HP0.out HF.out R_gp.out hq_p) R_sk.out rfl (by omega) hb_sk).mono ?_
   rintro e w33 ⟨rfl, hf, hp⟩
   replace hp : Par w33 gp a c l p := hp
   clear R_sk
   have HS := Lib.hid hf
   have RG := Lib.hid hp.blk
   have hq_p := hp.le
   clear hf hp
   replace R_r := kj HS R_r (by omega)
   replace HF := ft HF HS
   replace R_gp := RG
   clear HS RG
   go_wp2_with fail
   generalize hn : w33.alloc _ = w34
   generalize hg : w33.heap.size = g_sk
   have HS := fa hn
   have R_sk := nb hn hg
   have L_gp_sk := lb hg R_gp
   have L_r_sk := lb hg R_r
   have B_sk := bs hg HF
   clear hn hg
   replace R_gp := kn HS R_gp
   replace R_r := kn HS R_r
   replace HF := fn HF HS
   clear HS
   cases hb_sk : seesB (l.getD p zTok) [⟨#[105, 102]⟩] with
   | true =>
    simp only [hb_sk, Re.andThen, run_bind, run_skip, run_must, run_take, Pr.run, next, if_true, if_false, Bool.false_eq_true] at HV
    refine (sk_any (ts := [⟨#[105, 102]⟩]) (n := 1) (Par.of HP0.out HF.out R_gp.out hq_p) R_sk.out rfl (by omega) hb_sk).mono ?_
    rintro e w35 ⟨rfl, hf, hp⟩
    replace hp : Par w35 gp a c l (p + 1) := hp
    clear R_sk
    have HS := Lib.hid hf
    have RG := Lib.hid hp.blk
    have hq_pP1 := hp.le
    clear hf hp
    replace R_r := kj HS R_r (by omega)
    replace HF := ft HF HS
    replace R_gp := RG
    clear HS RG
    go_wp2_with fail
    cases hr_e : Pr.run l g.exp (p + 1) with
    | out =>
     simp only [hr_e, Re.andThen, run_bind, run_skip, run_must, run_take, Pr.run, next, if_true, if_false, Bool.false_eq_true] at HV
     exact absurd HV.out.symm HO.out
    | fail q =>
     simp only [hr_e, Re.andThen, run_bind, run_skip, run_must, run_take, Pr.run, next, if_true, if_false, Bool.false_eq_true] at HV
     refine ((HH.out.exp).bad (Par.of HP0.out HF.out R_gp.out hq_pP1) hr_e).mono ?_
     rintro e w36 ⟨rfl, hf, hp⟩
     have hv := HV.out
     subst hv
     exact ⟨rfl, rfl, HF.out.trans hf (fun _ _ h => h), hp⟩
    | ok x_e q37 =>
     simp only [hr_e, Re.andThen, run_bind, run_skip, run_must, run_take, Pr.run, next, if_true, if_false, Bool.false_eq_true] at HV
     have hsz_e : gp < w35.heap.size := lt_of_block R_gp.out
     obtain ⟨b_e, hB⟩ : ∃ bZ, w35.heap.size = bZ := ⟨_, rfl⟩
     have K_gp_e := lb hB R_gp
     have K_r_e := lb hB R_r
     have KB_e := bs hB HF
     clear hsz_e
     refine ((HH.out.exp).good (Par.of HP0.out HF.out R_gp.out hq_pP1) hr_e).mono ?_
     rintro e w38 ⟨⟨cs_e, rfl, hc⟩, hf, hp⟩
     rw [hB] at hc
     clear hB
     obtain ⟨h_e, hH⟩ : ∃ hZ, w38.heap.size = hZ := ⟨_, rfl⟩
     have I_e := im hH hc
     have Z_h_e : h_e ≤ w38.heap.size := Nat.le_of_eq hH.symm
     clear hc hH
     have HS := Lib.hid hf
     have RG := Lib.hid hp.blk
     have hq_q37 := hp.le
     clear hf hp
     replace R_r := kj HS R_r (by omega)
     replace HF := ft HF HS
     replace R_gp := RG
     clear HS RG
     obtain ⟨k_e, s_e, n_e, u_e, a1_e, m1_e, c1_e, a2_e, m2_e, c2_e, a3_e, m3_e, c3_e, ecs⟩ := hcE I_e.out
     subst ecs
     go_upto_region 11 with fail
     generalize hn : w38.alloc _ = w39
     generalize hg : w38.heap.size = g_arr
     have HS := fa hn
     have R_arr := nb hn hg
     have hsz_arr : w39.heap.size = g_arr + 1 := by rw [← hn, ← hg]; exact alloc_size _ _
     have L_gp_arr := lb hg R_gp
     have L_r_arr := lb hg R_r
     have B_arr := bs hg HF
     have M_h_e_arr := mz hg Z_h_e
     clear hn hg
     replace R_gp := kn HS R_gp
     replace R_r := kn HS R_r
     replace I_e := ik I_e HS
     replace HF := fn HF HS
     replace Z_h_e := zt Z_h_e HS
     clear HS
     obtain ⟨w40, hn⟩ : ∃ wZ, w39.alloc (.cells #[.int .u8 9, .string ⟨#[]⟩, .int .i64 0, .string ⟨#[]⟩, .slice (some ⟨g_arr, 0, none⟩) 1 1, .slice none 0 0, .slice none 0 0] 44) = wZ := ⟨_, rfl⟩
     obtain ⟨g_t, hg⟩ : ∃ gZ, w39.heap.size = gZ := ⟨_, rfl⟩
     rw [hn, hsz_arr.symm.trans hg]
     clear hsz_arr
     have HS := fa hn
     have R_t := nb hn hg
     have L_gp_t := lb hg R_gp
     have L_r_t := lb hg R_r
     have L_arr_t := lb hg R_arr
     have B_t := bs hg HF
     have M_h_e_t := mz hg Z_h_e
     clear hn hg
     replace R_gp := kn HS R_gp
     replace R_r := kn HS R_r
     replace R_arr := kn HS R_arr
     replace I_e := ik I_e HS
     replace HF := fn HF HS
     replace Z_h_e := zt Z_h_e HS
     clear HS
     go_wp2_with fail
     generalize hn : w40.alloc _ = w41
     generalize hg : w40.heap.size = g_tx
     have HS := fa hn
     have R_tx := nb hn hg
     have L_gp_tx := lb hg R_gp
     have L_r_tx := lb hg R_r
     have L_arr_tx := lb hg R_arr
     have L_t_tx := lb hg R_t
     have B_tx := bs hg HF
     have M_h_e_tx := mz hg Z_h_e
     clear hn hg
     replace R_gp := kn HS R_gp
     replace R_r := kn HS R_r
     replace R_arr := kn HS R_arr
     replace R_t := kn HS R_t
     replace I_e := ik I_e HS
     replace HF := fn HF HS
     replace Z_h_e := zt Z_h_e HS
     clear HS
     have O_k : Hid (OutG RX 44 7 (fun b => w.heap.size ≤ b ∧ b ≠ g_r ∧ b ≠ g_t ∧ b ≠ g_tx) w.heap.size w41 (.slice (some ⟨g_arr, 0, none⟩) 1 1) 1 ([x_e].map xE)) := Lib.hid (out_lits (cs := [[.int .u8 k_e, .string s_e, .int .i64 n_e, .string u_e, .slice a1_e m1_e c1_e, .slice a2_e m2_e c2_e, .slice a3_e m3_e c3_e]]) R_arr.out B_arr rfl rfl (fun c hc => by rw [List.mem_singleton.1 hc]; rfl) (by omega) (fun j t c hj hc => by
      have hj0 : j < 1 := (List.getElem?_eq_some_iff.1 hj).1
      obtain rfl : j = 0 := by omega
      cases hj
      cases hc
      exact I_e.out.mono (fun b _ hb => ⟨⟨by have := hb.1; omega, by have := hb.1; omega, by have := hb.2; omega, by have := hb.2; omega⟩, fun (h : b = g_arr) => by have := hb.2; omega⟩)))
     have hvi : Hid (Pr.run l (g.ifT [x_e]) q37 = V) := Lib.hid (by
      have hv := HV.out
      simp only [Gr.ifT, Gr.ifE, Re.andThen, run_bind, run_skip, run_must, run_take, Pr.run, next, if_true, if_false, Bool.false_eq_true, List.cons_append, List.nil_append]
      exact hv)
     go_loopw [47] (fun v wx => ∃ (i : Int) (q m : Nat) (acc : List E) (av : Option Addr) (cv : Nat) (M : Pr E), v = .int .i64 i ∧ (i = 0 ∧ M = g.ifT acc ∨ i = 1 ∧ M = g.ifE acc ∨ i = 2 ∧ M = .ret (Gr.mkE 9 nob acc)) ∧ (m : Int) = i + 1 ∧ q ≤ l.length ∧ Hid (OutG RX 44 7 (fun b => w.heap.size ≤ b ∧ b ≠ g_r ∧ b ≠ g_t ∧ b ≠ g_tx) w.heap.size wx (.slice av m cv) m (acc.map xE)) ∧ Hid (wx.heap[g_t]? = some (.cells #[.int .u8 9, .string ⟨#[]⟩, .int .i64 0, .string ⟨#[]⟩, .slice av m cv, .slice none 0 0, .slice none 0 0] 44 (0, 0))) ∧ Hid (wx.heap[g_r]? = some (.cells #[.int .u8 0, .string ⟨#[]⟩, .int .i64 0, .string ⟨#[]⟩, .slice none 0 0, .slice none 0 0, .slice none 0 0] 44 (0, 0))) ∧ Hid (wx.heap[g_tx]? = some (.cells #[.string ⟨#[116, 104, 101, 110]⟩, .string ⟨#[101, 108, 115, 101]⟩] 9 (0, 0))) ∧ Hid (Av (.slice av m cv) g_t) ∧ Hid (Av (.slice av m cv) g_r) ∧ Hid (Av (.slice av m cv) g_tx) ∧ Hid (wx.heap[gp]? = some (.cells #[.slice a l.length c, .int .i64 (q : Nat)] 49 (0, 0))) ∧ Hid (Fr (Just gp) w wx) ∧ Hid (Pr.run l M q = V)) (fun v wx => 2 - intOf v)
     case atStart => exact ⟨0, q37, 1, [x_e], _, _, _, rfl, .inl ⟨rfl, rfl⟩, rfl, hq_q37, O_k, R_t, R_r, R_tx, Lib.hid (av_ne (by omega)), Lib.hid (av_ne (by omega)), Lib.hid (av_ne (by omega)), R_gp, HF, hvi⟩
     case round =>
      clear O_k R_t R_r R_tx R_arr I_e R_gp HF HV Z_h_e hvi
      obtain ⟨i, q, m, acc, av, cv, M, rfl, hiM, hmi, hq_q, O_k, R_t, R_r, R_tx, A_t, A_r, A_tx, R_gp, HF, HV⟩ := hrel
      obtain ⟨wL, hwL⟩ : ∃ wL, wL = wr := ⟨wr, rfl⟩
      rw [← hwL] at O_k R_t R_r R_tx R_gp HF ⊢
      clear hwL
      rcases hiM with ⟨rfl, rfl⟩ | ⟨rfl, rfl⟩ | ⟨rfl, rfl⟩
      ·
       obtain rfl : m = 1 := by omega
       simp only [Gr.ifT, Re.andThen, run_bind, run_skip, run_must, run_take, Pr.run, next, if_true, if_false, Bool.false_eq_true] at HV
       obtain ⟨d0_tx, d1_tx⟩ := z2c R_tx.out
       obtain ⟨f0_tx, f1_tx⟩ := y2c R_tx.out
       go_wp2_with fail
       clear d0_tx f0_tx d1_tx f1_tx
       cases hm_then : seesB (l.getD q zTok) [⟨#[116, 104, 101, 110]⟩] with
       | false =>
        simp only [hm_then, Re.andThen, run_bind, run_skip, run_must, run_take, Pr.run, next, if_true, if_false, Bool.false_eq_true] at HV
        refine (must_bad (Par.of HP0.out HF.out R_gp.out hq_q) hm_then).mono ?_
        rintro e w42 ⟨rfl, hf, hp⟩
        have hv := HV.out
        subst hv
        exact ⟨rfl, rfl, HF.out.trans hf (fun _ _ h => h), hp⟩
       | true =>
        simp only [hm_then, Re.andThen, run_bind, run_skip, run_must, run_take, Pr.run, next, if_true, if_false, Bool.false_eq_true] at HV
        refine (must_good (Par.of HP0.out HF.out R_gp.out hq_q) hm_then).mono ?_
        rintro e w43 ⟨rfl, hf, hp⟩
        have HS := Lib.hid hf
        have RG := Lib.hid hp.blk
        have hq_qP1 := hp.le
        clear hf hp
        replace R_r := kj HS R_r (by omega)
        replace R_t := kj HS R_t (by omega)
        replace R_tx := kj HS R_tx (by omega)
        replace O_k := oj O_k HS (by omega) (fun b hb => by have := hb.1; omega)
        replace HF := ft HF HS
        replace R_gp := RG
        clear HS RG
        go_upto_region 15 with fail
        refine region_e (fun w' => w'.cell? ⟨g_t, 0, none⟩ = some (.int .u8 9) ∧ w'.cell? ⟨g_t, 1, none⟩ = some (.string ⟨#[]⟩) ∧ w'.cell? ⟨g_t, 2, none⟩ = some (.int .i64 0) ∧ w'.cell? ⟨g_t, 3, none⟩ = some (.string ⟨#[]⟩) ∧ w'.cell? ⟨g_t, 4, none⟩ = some (.slice av 1 cv) ∧ w'.cell? ⟨g_t, 5, none⟩ = some (.slice none 0 0) ∧ w'.cell? ⟨g_t, 6, none⟩ = some (.slice none 0 0)) [7] (by kernel_rfl) ?_ (fun hHeld => ?_)
        · exact ⟨cell_of ((Fr.drew w43).keeps R_t.out no_one) 0, cell_of ((Fr.drew w43).keeps R_t.out no_one) 1, cell_of ((Fr.drew w43).keeps R_t.out no_one) 2, cell_of ((Fr.drew w43).keeps R_t.out no_one) 3, cell_of ((Fr.drew w43).keeps R_t.out no_one) 4, cell_of ((Fr.drew w43).keeps R_t.out no_one) 5, cell_of ((Fr.drew w43).keeps R_t.out no_one) 6⟩
        obtain ⟨w44, hwd⟩ : ∃ wZ, wZ = w43.drew := ⟨_, rfl⟩
        have HS : Hid (Fr No w43 w44) := Lib.hid (by rw [hwd]; exact Fr.drew _)
        rw [← hwd] at hHeld ⊢
        clear hwd
        replace R_gp := kn HS R_gp
        replace R_r := kn HS R_r
        replace R_t := kn HS R_t
        replace R_tx := kn HS R_tx
        replace O_k := on HS O_k
        replace HF := fn HF HS
        clear HS
        refine take_op 0 (some 54) (Op.fieldAddr 44 ( .tmp 5) 4) 0 ?_ (by kernel_rfl) (by kernel_rfl) (by kernel_rfl) (fun _ _ _ h => h) ?_ (by assumption) ?_
        rotate_left
        · intro w hSw; (try dsimp only at hSw); go_simp; (try (with_reducible rfl))
        try simp only [Act.put, List.setIfInBounds_toArray, List.set_cons_zero, List.set_cons_succ]
        refine take_op 1 (some 55) (Op.load 41 ( .tmp 54)) 41 ?_ (by kernel_rfl) (by kernel_rfl) (by kernel_rfl) (fun _ _ _ h => h) ?_ (by assumption) ?_
        rotate_left
        · intro w hSw; (try dsimp only at hSw); go_simp; (try (with_reducible rfl))
        try simp only [Act.put, List.setIfInBounds_toArray, List.set_cons_zero, List.set_cons_succ]
        refine take_op 2 (some 56) (Op.move ( .tmp 0)) 47 ?_ (by kernel_rfl) (by kernel_rfl) (by kernel_rfl) (fun _ _ _ h => h) ?_ (by assumption) ?_
        rotate_left
        · intro w hSw; (try dsimp only at hSw); go_simp; (try (with_reducible rfl))
        try simp only [Act.put, List.setIfInBounds_toArray, List.set_cons_zero, List.set_cons_succ]
        refine ready_e (rs := [3]) (by kernel_rfl) (by simp) ?_
        refine (do_mid (o := _) rfl (fun K hK => ?_) none_e)
        go_simp
        go_at_call 24
        cases hr_y : Pr.run l g.exp (q + 1) with
        | out =>
         simp only [hr_y, Re.andThen, run_bind, run_skip, run_must, run_take, Pr.run, next, if_true, if_false, Bool.false_eq_true] at HV
         exact absurd HV.out.symm HO.out
        | fail q =>
         simp only [hr_y, Re.andThen, run_bind, run_skip, run_must, run_take, Pr.run, next, if_true, if_false, Bool.false_eq_true] at HV
         refine ((HH.out.exp).bad (Par.of HP0.out HF.out R_gp.out hq_qP1) hr_y).mono ?_
         rintro e w45 ⟨rfl, hf, hp⟩
         have hv := HV.out
         subst hv
         exact ⟨rfl, rfl, HF.out.trans hf (fun _ _ h => h), hp⟩
        | ok x_y q46 =>
         simp only [hr_y, Re.andThen, run_bind, run_skip, run_must, run_take, Pr.run, next, if_true, if_false, Bool.false_eq_true] at HV
         have hsz_y : gp < w44.heap.size := lt_of_block R_gp.out
         obtain ⟨b_y, hB⟩ : ∃ bZ, w44.heap.size = bZ := ⟨_, rfl⟩
         have K_gp_y := lb hB R_gp
         have K_r_y := lb hB R_r
         have K_t_y := lb hB R_t
         have K_tx_y := lb hB R_tx
         have KB_y := bs hB HF
         clear hsz_y
         have OB_k_y : Hid (∀ b, (Value.slice av 1 cv).ownBlock = some b → b < b_y) := Lib.hid (fun bb hbb => by rw [← hB]; exact (O_k.out.block hbb).2)
         refine ((HH.out.exp).good (Par.of HP0.out HF.out R_gp.out hq_qP1) hr_y).mono ?_
         rintro e w47 ⟨⟨cs_y, rfl, hc⟩, hf, hp⟩
         rw [hB] at hc
         clear hB
         obtain ⟨h_y, hH⟩ : ∃ hZ, w47.heap.size = hZ := ⟨_, rfl⟩
         have I_y := im hH hc
         have Z_h_y : h_y ≤ w47.heap.size := Nat.le_of_eq hH.symm
         clear hc hH
         have HS := Lib.hid hf
         have RG := Lib.hid hp.blk
         have hq_q46 := hp.le
         clear hf hp
         replace R_r := kj HS R_r (by omega)
         replace R_t := kj HS R_t (by omega)
         replace R_tx := kj HS R_tx (by omega)
         replace O_k := oj O_k HS (by omega) (fun b hb => by have := hb.1; omega)
         replace HF := ft HF HS
         replace R_gp := RG
         clear HS RG
         obtain ⟨k_y, s_y, n_y, u_y, a1_y, m1_y, c1_y, a2_y, m2_y, c2_y, a3_y, m3_y, c3_y, ecs⟩ := hcE I_y.out
         subst ecs
         refine hK.out _ _ ?_ (fun hHeld => ?_)
         · exact ⟨cell_of R_t.out 0, cell_of R_t.out 1, cell_of R_t.out 2, cell_of R_t.out 3, cell_of R_t.out 4, cell_of R_t.out 5, cell_of R_t.out 6⟩
         clear hK K
         try dsimp only
         try simp only [Act.put, List.setIfInBounds_toArray, List.set_cons_zero, List.set_cons_succ]
         refine ready_e (rs := [4]) (by kernel_rfl) (by simp) ?_
         refine (do_mid (o := _) rfl (fun K hK => ?_) none_e)
         go_simp
         generalize hn : w47.alloc _ = w48
         generalize hg : w47.heap.size = g_one
         have HS := fa hn
         have R_one := nb hn hg
         have L_gp_one := lb hg R_gp
         have L_r_one := lb hg R_r
         have L_t_one := lb hg R_t
         have L_tx_one := lb hg R_tx
         have B_one := bs hg HF
         have M_h_y_one := mz hg Z_h_y
         clear hn hg
         replace R_gp := kn HS R_gp
         replace R_r := kn HS R_r
         replace R_t := kn HS R_t
         replace R_tx := kn HS R_tx
         replace I_y := ik I_y HS
         replace O_k := on HS O_k
         replace HF := fn HF HS
         replace Z_h_y := zt Z_h_y HS
         clear HS
         refine hK.out _ _ ?_ (fun hHeld => ?_)
         · exact ⟨cell_of R_t.out 0, cell_of R_t.out 1, cell_of R_t.out 2, cell_of R_t.out 3, cell_of R_t.out 4, cell_of R_t.out 5, cell_of R_t.out 6⟩
         clear hK K
         try dsimp only
         try simp only [Act.put, List.setIfInBounds_toArray, List.set_cons_zero, List.set_cons_succ]
         refine ready_e (rs := [5]) (by kernel_rfl) (by simp) ?_
         refine (do_mid (o := _) rfl (fun K hK => ?_) none_e)
         refine step_push keptX elemE rfl _ _ 41 rfl Tryz.underlying41 (fun b => w.heap.size ≤ b ∧ b ≠ g_r ∧ b ≠ g_t ∧ b ≠ g_tx) (w.heap.size) (.slice av 1 cv) 1 (acc.map xE) rfl O_k.out _ [.int .u8 k_y, .string s_y, .int .i64 n_y, .string u_y, .slice a1_y m1_y c1_y, .slice a2_y m2_y c2_y, .slice a3_y m3_y c3_y] 44 rfl R_one.out (by simp [Value.oneCell']) rfl (xE x_y) (I_y.out.mono (ok' := fun b => (fun b => w.heap.size ≤ b ∧ b ≠ g_r ∧ b ≠ g_t ∧ b ≠ g_tx) b ∧ Av (.slice av 1 cv) b) (fun b _ hb => ⟨⟨by have := hb.1; omega, by have := hb.1; omega, by have := hb.1; omega, by have := hb.1; omega⟩, fun eb => by have := OB_k_y.out b eb; have := hb.1; omega⟩)) (by unfold maxLen; omega) (by omega) (HF.out.size) ?_
         intro a49 c49 wn49 HON HGN
         clear R_one
         have A_r' := Lib.hid (HGN.out.avs R_r.out A_r.out)
         replace R_r := Lib.hid (HGN.out.keeps R_r.out A_r.out)
         have A_r := A_r'
         clear A_r'
         have A_t' := Lib.hid (HGN.out.avs R_t.out A_t.out)
         replace R_t := Lib.hid (HGN.out.keeps R_t.out A_t.out)
         have A_t := A_t'
         clear A_t'
         have A_tx' := Lib.hid (HGN.out.avs R_tx.out A_tx.out)
         replace R_tx := Lib.hid (HGN.out.keeps R_tx.out A_tx.out)
         have A_tx := A_tx'
         clear A_tx'
         replace R_gp := Lib.hid (HGN.out.fr.keeps R_gp.out (fun hb => by have hb : w.heap.size ≤ gp := hb; omega))
         replace HF := Lib.hid (HF.out.trans HGN.out.fr (fun i hi hb => by have hb : w.heap.size ≤ i := hb; omega))
         replace Z_h_y := Nat.le_trans Z_h_y HGN.out.fr.size
         have O_k' := Lib.hid (by have h := HON.out; rw [show acc.map xE ++ [xE x_y] = (acc ++ [x_y]).map xE by rw [List.map_append]; rfl] at h; exact h)
         clear HON HGN
         clear O_k
         have O_k := O_k'
         clear O_k'
         refine hK.out _ _ ?_ (fun hHeld => ?_)
         · exact ⟨cell_of R_t.out 0, cell_of R_t.out 1, cell_of R_t.out 2, cell_of R_t.out 3, cell_of R_t.out 4, cell_of R_t.out 5, cell_of R_t.out 6⟩
         clear hK K
         try dsimp only
         try simp only [Act.put, List.setIfInBounds_toArray, List.set_cons_zero, List.set_cons_succ]
         refine take_op 6 (some 60) (Op.fieldAddr 44 ( .tmp 5) 4) 0 ?_ (by kernel_rfl) (by kernel_rfl) (by kernel_rfl) (fun _ _ _ h => h) ?_ (by assumption) ?_
         rotate_left
         · intro w hSw; (try dsimp only at hSw); go_simp; (try (with_reducible rfl))
         try simp only [Act.put, List.setIfInBounds_toArray, List.set_cons_zero, List.set_cons_succ]
         obtain ⟨d0_t, d1_t, d2_t, d3_t, d4_t, d5_t, d6_t⟩ := z7c R_t.out
         obtain ⟨f0_t, f1_t, f2_t, f3_t, f4_t, f5_t, f6_t⟩ := y7c R_t.out
         refine ready_e (rs := [7]) (by kernel_rfl) (by simp) ?_
         refine (do_late (o := _) rfl (by kernel_rfl) (fun K hK => ?_) none_e)
         go_simp
         clear d0_t f0_t d1_t f1_t d2_t f2_t d3_t f3_t d4_t f4_t d5_t f5_t d6_t f6_t
         obtain ⟨w50, hn⟩ : ∃ wZ, setL g_t [(4, .slice a49 2 c49)] wn49 = wZ := ⟨_, rfl⟩
         have R_t' : Hid (w50.heap[g_t]? = some (.cells #[.int .u8 9, .string ⟨#[]⟩, .int .i64 0, .string ⟨#[]⟩, .slice a49 2 c49, .slice none 0 0, .slice none 0 0] 44 (0, 0))) := Lib.hid (by rw [← hn]; exact (setLs_block [(4, .slice a49 2 c49)] [.int .u8 9, .string ⟨#[]⟩, .int .i64 0, .string ⟨#[]⟩, .slice av 1 cv, .slice none 0 0, .slice none 0 0] _ R_t.out).trans rfl)
         have HS := sl hn
         have he := hn
         simp only [setL] at he
         rw [he]
         clear he
         clear hn
         replace R_gp := kj HS R_gp (by omega)
         replace R_r := kj HS R_r (by omega)
         replace R_tx := kj HS R_tx (by omega)
         replace O_k := Lib.hid (O_k.out.keep keptX HS.out (fun b hb (h : b = g_t) => by have := hb.1; have := hb.2; omega) (fun b hb (h : b = g_t) => A_t.out (by rw [← h]; exact hb)))
         replace HF := fb HF HS (by omega)
         replace Z_h_y := zt Z_h_y HS
         have R_t := R_t'
         clear R_t' HS
         refine hK.out _ _ ?_
         clear hK K
         try dsimp only
         try simp only [Act.put, List.setIfInBounds_toArray, List.set_cons_zero, List.set_cons_succ]
         refine done_e (by kernel_rfl) ?_ _
         (try simp only [Exit.inBlock, Exit.then])
         go_wp2_with fail
         exact ⟨⟨1, q46, 2, acc ++ [x_y], _, _, _, rfl, .inr (.inl ⟨rfl, rfl⟩), rfl, hq_q46, O_k, R_t, R_r, R_tx, A_t, A_r, A_tx, R_gp, HF, HV⟩, by decide⟩
      ·
       obtain rfl : m = 2 := by omega
       simp only [Gr.ifE, Re.andThen, run_bind, run_skip, run_must, run_take, Pr.run, next, if_true, if_false, Bool.false_eq_true] at HV
       obtain ⟨d0_tx, d1_tx⟩ := z2c R_tx.out
       obtain ⟨f0_tx, f1_tx⟩ := y2c R_tx.out
       go_wp2_with fail
       clear d0_tx f0_tx d1_tx f1_tx
       cases hm_else : seesB (l.getD q zTok) [⟨#[101, 108, 115, 101]⟩] with
       | false =>
        simp only [hm_else, Re.andThen, run_bind, run_skip, run_must, run_take, Pr.run, next, if_true, if_false, Bool.false_eq_true] at HV
        refine (must_bad (Par.of HP0.out HF.out R_gp.out hq_q) hm_else).mono ?_
        rintro e w51 ⟨rfl, hf, hp⟩
        have hv := HV.out
        subst hv
        exact ⟨rfl, rfl, HF.out.trans hf (fun _ _ h => h), hp⟩
       | true =>
        simp only [hm_else, Re.andThen, run_bind, run_skip, run_must, run_take, Pr.run, next, if_true, if_false, Bool.false_eq_true] at HV
        refine (must_good (Par.of HP0.out HF.out R_gp.out hq_q) hm_else).mono ?_
        rintro e w52 ⟨rfl, hf, hp⟩
        have HS := Lib.hid hf
        have RG := Lib.hid hp.blk
        have hq_qP1 := hp.le
        clear hf hp
        replace R_r := kj HS R_r (by omega)
        replace R_t := kj HS R_t (by omega)
        replace R_tx := kj HS R_tx (by omega)
        replace O_k := oj O_k HS (by omega) (fun b hb => by have := hb.1; omega)
        replace HF := ft HF HS
        replace R_gp := RG
        clear HS RG
        go_upto_region 15 with fail
        refine region_e (fun w' => w'.cell? ⟨g_t, 0, none⟩ = some (.int .u8 9) ∧ w'.cell? ⟨g_t, 1, none⟩ = some (.string ⟨#[]⟩) ∧ w'.cell? ⟨g_t, 2, none⟩ = some (.int .i64 0) ∧ w'.cell? ⟨g_t, 3, none⟩ = some (.string ⟨#[]⟩) ∧ w'.cell? ⟨g_t, 4, none⟩ = some (.slice av 2 cv) ∧ w'.cell? ⟨g_t, 5, none⟩ = some (.slice none 0 0) ∧ w'.cell? ⟨g_t, 6, none⟩ = some (.slice none 0 0)) [7] (by kernel_rfl) ?_ (fun hHeld => ?_)
        · exact ⟨cell_of ((Fr.drew w52).keeps R_t.out no_one) 0, cell_of ((Fr.drew w52).keeps R_t.out no_one) 1, cell_of ((Fr.drew w52).keeps R_t.out no_one) 2, cell_of ((Fr.drew w52).keeps R_t.out no_one) 3, cell_of ((Fr.drew w52).keeps R_t.out no_one) 4, cell_of ((Fr.drew w52).keeps R_t.out no_one) 5, cell_of ((Fr.drew w52).keeps R_t.out no_one) 6⟩
        obtain ⟨w53, hwd⟩ : ∃ wZ, wZ = w52.drew := ⟨_, rfl⟩
        have HS : Hid (Fr No w52 w53) := Lib.hid (by rw [hwd]; exact Fr.drew _)
        rw [← hwd] at hHeld ⊢
        clear hwd
        replace R_gp := kn HS R_gp
        replace R_r := kn HS R_r
        replace R_t := kn HS R_t
        replace R_tx := kn HS R_tx
        replace O_k := on HS O_k
        replace HF := fn HF HS
        clear HS
        refine take_op 0 (some 54) (Op.fieldAddr 44 ( .tmp 5) 4) 0 ?_ (by kernel_rfl) (by kernel_rfl) (by kernel_rfl) (fun _ _ _ h => h) ?_ (by assumption) ?_
        rotate_left
        · intro w hSw; (try dsimp only at hSw); go_simp; (try (with_reducible rfl))
        try simp only [Act.put, List.setIfInBounds_toArray, List.set_cons_zero, List.set_cons_succ]
        refine take_op 1 (some 55) (Op.load 41 ( .tmp 54)) 41 ?_ (by kernel_rfl) (by kernel_rfl) (by kernel_rfl) (fun _ _ _ h => h) ?_ (by assumption) ?_
        rotate_left
        · intro w hSw; (try dsimp only at hSw); go_simp; (try (with_reducible rfl))
        try simp only [Act.put, List.setIfInBounds_toArray, List.set_cons_zero, List.set_cons_succ]
        refine take_op 2 (some 56) (Op.move ( .tmp 0)) 47 ?_ (by kernel_rfl) (by kernel_rfl) (by kernel_rfl) (fun _ _ _ h => h) ?_ (by assumption) ?_
        rotate_left
        · intro w hSw; (try dsimp only at hSw); go_simp; (try (with_reducible rfl))
        try simp only [Act.put, List.setIfInBounds_toArray, List.set_cons_zero, List.set_cons_succ]
        refine ready_e (rs := [3]) (by kernel_rfl) (by simp) ?_
        refine (do_mid (o := _) rfl (fun K hK => ?_) none_e)
        go_simp
        go_at_call 24
        cases hr_y : Pr.run l g.exp (q + 1) with
        | out =>
         simp only [hr_y, Re.andThen, run_bind, run_skip, run_must, run_take, Pr.run, next, if_true, if_false, Bool.false_eq_true] at HV
         exact absurd HV.out.symm HO.out
        | fail q =>
         simp only [hr_y, Re.andThen, run_bind, run_skip, run_must, run_take, Pr.run, next, if_true, if_false, Bool.false_eq_true] at HV
         refine ((HH.out.exp).bad (Par.of HP0.out HF.out R_gp.out hq_qP1) hr_y).mono ?_
         rintro e w54 ⟨rfl, hf, hp⟩
         have hv := HV.out
         subst hv
         exact ⟨rfl, rfl, HF.out.trans hf (fun _ _ h => h), hp⟩
        | ok x_y q55 =>
         simp only [hr_y, Re.andThen, run_bind, run_skip, run_must, run_take, Pr.run, next, if_true, if_false, Bool.false_eq_true] at HV
         have hsz_y : gp < w53.heap.size := lt_of_block R_gp.out
         obtain ⟨b_y, hB⟩ : ∃ bZ, w53.heap.size = bZ := ⟨_, rfl⟩
         have K_gp_y := lb hB R_gp
         have K_r_y := lb hB R_r
         have K_t_y := lb hB R_t
         have K_tx_y := lb hB R_tx
         have KB_y := bs hB HF
         clear hsz_y
         have OB_k_y : Hid (∀ b, (Value.slice av 2 cv).ownBlock = some b → b < b_y) := Lib.hid (fun bb hbb => by rw [← hB]; exact (O_k.out.block hbb).2)
         refine ((HH.out.exp).good (Par.of HP0.out HF.out R_gp.out hq_qP1) hr_y).mono ?_
         rintro e w56 ⟨⟨cs_y, rfl, hc⟩, hf, hp⟩
         rw [hB] at hc
         clear hB
         obtain ⟨h_y, hH⟩ : ∃ hZ, w56.heap.size = hZ := ⟨_, rfl⟩
         have I_y := im hH hc
         have Z_h_y : h_y ≤ w56.heap.size := Nat.le_of_eq hH.symm
         clear hc hH
         have HS := Lib.hid hf
         have RG := Lib.hid hp.blk
         have hq_q55 := hp.le
         clear hf hp
         replace R_r := kj HS R_r (by omega)
         replace R_t := kj HS R_t (by omega)
         replace R_tx := kj HS R_tx (by omega)
         replace O_k := oj O_k HS (by omega) (fun b hb => by have := hb.1; omega)
         replace HF := ft HF HS
         replace R_gp := RG
         clear HS RG
         obtain ⟨k_y, s_y, n_y, u_y, a1_y, m1_y, c1_y, a2_y, m2_y, c2_y, a3_y, m3_y, c3_y, ecs⟩ := hcE I_y.out
         subst ecs
         refine hK.out _ _ ?_ (fun hHeld => ?_)
         · exact ⟨cell_of R_t.out 0, cell_of R_t.out 1, cell_of R_t.out 2, cell_of R_t.out 3, cell_of R_t.out 4, cell_of R_t.out 5, cell_of R_t.out 6⟩
         clear hK K
         try dsimp only
         try simp only [Act.put, List.setIfInBounds_toArray, List.set_cons_zero, List.set_cons_succ]
         refine ready_e (rs := [4]) (by kernel_rfl) (by simp) ?_
         refine (do_mid (o := _) rfl (fun K hK => ?_) none_e)
         go_simp
         generalize hn : w56.alloc _ = w57
         generalize hg : w56.heap.size = g_one
         have HS := fa hn
         have R_one := nb hn hg
         have L_gp_one := lb hg R_gp
         have L_r_one := lb hg R_r
         have L_t_one := lb hg R_t
         have L_tx_one := lb hg R_tx
         have B_one := bs hg HF
         have M_h_y_one := mz hg Z_h_y
         clear hn hg
         replace R_gp := kn HS R_gp
         replace R_r := kn HS R_r
         replace R_t := kn HS R_t
         replace R_tx := kn HS R_tx
         replace I_y := ik I_y HS
         replace O_k := on HS O_k
         replace HF := fn HF HS
         replace Z_h_y := zt Z_h_y HS
         clear HS
         refine hK.out _ _ ?_ (fun hHeld => ?_)
         · exact ⟨cell_of R_t.out 0, cell_of R_t.out 1, cell_of R_t.out 2, cell_of R_t.out 3, cell_of R_t.out 4, cell_of R_t.out 5, cell_of R_t.out 6⟩
         clear hK K
         try dsimp only
         try simp only [Act.put, List.setIfInBounds_toArray, List.set_cons_zero, List.set_cons_succ]
         refine ready_e (rs := [5]) (by kernel_rfl) (by simp) ?_
         refine (do_mid (o := _) rfl (fun K hK => ?_) none_e)
         refine step_push keptX elemE rfl _ _ 41 rfl Tryz.underlying41 (fun b => w.heap.size ≤ b ∧ b ≠ g_r ∧ b ≠ g_t ∧ b ≠ g_tx) (w.heap.size) (.slice av 2 cv) 2 (acc.map xE) rfl O_k.out _ [.int .u8 k_y, .string s_y, .int .i64 n_y, .string u_y, .slice a1_y m1_y c1_y, .slice a2_y m2_y c2_y, .slice a3_y m3_y c3_y] 44 rfl R_one.out (by simp [Value.oneCell']) rfl (xE x_y) (I_y.out.mono (ok' := fun b => (fun b => w.heap.size ≤ b ∧ b ≠ g_r ∧ b ≠ g_t ∧ b ≠ g_tx) b ∧ Av (.slice av 2 cv) b) (fun b _ hb => ⟨⟨by have := hb.1; omega, by have := hb.1; omega, by have := hb.1; omega, by have := hb.1; omega⟩, fun eb => by have := OB_k_y.out b eb; have := hb.1; omega⟩)) (by unfold maxLen; omega) (by omega) (HF.out.size) ?_
         intro a58 c58 wn58 HON HGN
         clear R_one
         have A_r' := Lib.hid (HGN.out.avs R_r.out A_r.out)
         replace R_r := Lib.hid (HGN.out.keeps R_r.out A_r.out)
         have A_r := A_r'
         clear A_r'
         have A_t' := Lib.hid (HGN.out.avs R_t.out A_t.out)
         replace R_t := Lib.hid (HGN.out.keeps R_t.out A_t.out)
         have A_t := A_t'
         clear A_t'
         have A_tx' := Lib.hid (HGN.out.avs R_tx.out A_tx.out)
         replace R_tx := Lib.hid (HGN.out.keeps R_tx.out A_tx.out)
         have A_tx := A_tx'
         clear A_tx'
         replace R_gp := Lib.hid (HGN.out.fr.keeps R_gp.out (fun hb => by have hb : w.heap.size ≤ gp := hb; omega))
         replace HF := Lib.hid (HF.out.trans HGN.out.fr (fun i hi hb => by have hb : w.heap.size ≤ i := hb; omega))
         replace Z_h_y := Nat.le_trans Z_h_y HGN.out.fr.size
         have O_k' := Lib.hid (by have h := HON.out; rw [show acc.map xE ++ [xE x_y] = (acc ++ [x_y]).map xE by rw [List.map_append]; rfl] at h; exact h)
         clear HON HGN
         clear O_k
         have O_k := O_k'
         clear O_k'
         refine hK.out _ _ ?_ (fun hHeld => ?_)
         · exact ⟨cell_of R_t.out 0, cell_of R_t.out 1, cell_of R_t.out 2, cell_of R_t.out 3, cell_of R_t.out 4, cell_of R_t.out 5, cell_of R_t.out 6⟩
         clear hK K
         try dsimp only
         try simp only [Act.put, List.setIfInBounds_toArray, List.set_cons_zero, List.set_cons_succ]
         refine take_op 6 (some 60) (Op.fieldAddr 44 ( .tmp 5) 4) 0 ?_ (by kernel_rfl) (by kernel_rfl) (by kernel_rfl) (fun _ _ _ h => h) ?_ (by assumption) ?_
         rotate_left
         · intro w hSw; (try dsimp only at hSw); go_simp; (try (with_reducible rfl))
         try simp only [Act.put, List.setIfInBounds_toArray, List.set_cons_zero, List.set_cons_succ]
         obtain ⟨d0_t, d1_t, d2_t, d3_t, d4_t, d5_t, d6_t⟩ := z7c R_t.out
         obtain ⟨f0_t, f1_t, f2_t, f3_t, f4_t, f5_t, f6_t⟩ := y7c R_t.out
         refine ready_e (rs := [7]) (by kernel_rfl) (by simp) ?_
         refine (do_late (o := _) rfl (by kernel_rfl) (fun K hK => ?_) none_e)
         go_simp
         clear d0_t f0_t d1_t f1_t d2_t f2_t d3_t f3_t d4_t f4_t d5_t f5_t d6_t f6_t
         obtain ⟨w59, hn⟩ : ∃ wZ, setL g_t [(4, .slice a58 3 c58)] wn58 = wZ := ⟨_, rfl⟩
         have R_t' : Hid (w59.heap[g_t]? = some (.cells #[.int .u8 9, .string ⟨#[]⟩, .int .i64 0, .string ⟨#[]⟩, .slice a58 3 c58, .slice none 0 0, .slice none 0 0] 44 (0, 0))) := Lib.hid (by rw [← hn]; exact (setLs_block [(4, .slice a58 3 c58)] [.int .u8 9, .string ⟨#[]⟩, .int .i64 0, .string ⟨#[]⟩, .slice av 2 cv, .slice none 0 0, .slice none 0 0] _ R_t.out).trans rfl)
         have HS := sl hn
         have he := hn
         simp only [setL] at he
         rw [he]
         clear he
         clear hn
         replace R_gp := kj HS R_gp (by omega)
         replace R_r := kj HS R_r (by omega)
         replace R_tx := kj HS R_tx (by omega)
         replace O_k := Lib.hid (O_k.out.keep keptX HS.out (fun b hb (h : b = g_t) => by have := hb.1; have := hb.2; omega) (fun b hb (h : b = g_t) => A_t.out (by rw [← h]; exact hb)))
         replace HF := fb HF HS (by omega)
         replace Z_h_y := zt Z_h_y HS
         have R_t := R_t'
         clear R_t' HS
         refine hK.out _ _ ?_
         clear hK K
         try dsimp only
         try simp only [Act.put, List.setIfInBounds_toArray, List.set_cons_zero, List.set_cons_succ]
         refine done_e (by kernel_rfl) ?_ _
         (try simp only [Exit.inBlock, Exit.then])
         go_wp2_with fail
         exact ⟨⟨2, q55, 3, acc ++ [x_y], _, _, _, rfl, .inr (.inr ⟨rfl, rfl⟩), rfl, hq_q55, O_k, R_t, R_r, R_tx, A_t, A_r, A_tx, R_gp, HF, HV⟩, by decide⟩
      ·
       obtain ⟨d0_t, d1_t, d2_t, d3_t, d4_t, d5_t, d6_t⟩ := z7c R_t.out
       obtain ⟨f0_t, f1_t, f2_t, f3_t, f4_t, f5_t, f6_t⟩ := y7c R_t.out
       obtain ⟨d0_r, d1_r, d2_r, d3_r, d4_r, d5_r, d6_r⟩ := z7c R_r.out
       obtain ⟨f0_r, f1_r, f2_r, f3_r, f4_r, f5_r, f6_r⟩ := y7c R_r.out
       go_wp2_with fail
       clear d0_t f0_t d1_t f1_t d2_t f2_t d3_t f3_t d4_t f4_t d5_t f5_t d6_t f6_t
       clear d0_r f0_r d1_r f1_r d2_r f2_r d3_r f3_r d4_r f4_r d5_r f5_r d6_r f6_r
       obtain ⟨w60, hn⟩ : ∃ wZ, setFrom g_r 0 [.int .u8 9, .string ⟨#[]⟩, .int .i64 0, .string ⟨#[]⟩, .slice av m cv, .slice none 0 0, .slice none 0 0] wL = wZ := ⟨_, rfl⟩
       have R_r' := sf hn R_r rfl
       have HS := sg hn
       have he := hn
       simp only [setFrom, Nat.reduceAdd] at he
       rw [he]
       clear he
       clear hn
       replace R_gp := kj HS R_gp (by omega)
       replace R_t := kj HS R_t (by omega)
       replace R_tx := kj HS R_tx (by omega)
       replace O_k := Lib.hid (O_k.out.keep keptX HS.out (fun b hb (h : b = g_r) => by have := hb.1; have := hb.2; omega) (fun b hb (h : b = g_r) => A_r.out (by rw [← h]; exact hb)))
       replace HF := fb HF HS (by omega)
       have R_r := R_r'
       clear R_r' HS
       simp only [Pr.run] at HV
       (try simp only [Exit.inBlock, Exit.then])
       have hv := HV.out
       subst hv
       refine bodyPost_ret (results_st rfl Tryz.underlying44 (by kernel_rfl) _ _ g_r _ rfl rfl R_r.out) rfl ?_
       exact ⟨⟨_, rfl, hcE_kids 9 nob 0 nob (hx_of_out O_k.out (by decide) (fun b hb _ => hb) (fun b _ hb => hb.1))⟩, HF.out, (Par.of HP0.out HF.out R_gp.out hq_q)⟩
   | false =>
    simp only [hb_sk, Re.andThen, run_bind, run_skip, run_must, run_take, Pr.run, next, if_true, if_false, Bool.false_eq_true] at HV
    refine (sk_any (ts := [⟨#[105, 102]⟩]) (n := 1) (Par.of HP0.out HF.out R_gp.out hq_p) R_sk.out rfl (by omega) hb_sk).mono ?_
    rintro e w61 ⟨rfl, hf, hp⟩
    replace hp : Par w61 gp a c l p := hp
    clear R_sk
    have HS := Lib.hid hf
    have RG := Lib.hid hp.blk
    have hq_p := hp.le
    clear hf hp
    replace R_r := kj HS R_r (by omega)
    replace HF := ft HF HS
    replace R_gp := RG
    clear HS RG
    go_wp2_with fail
    generalize hn : w61.alloc _ = w62
    generalize hg : w61.heap.size = g_sk
    have HS := fa hn
    have R_sk := nb hn hg
    have L_gp_sk := lb hg R_gp
    have L_r_sk := lb hg R_r
    have B_sk := bs hg HF
    clear hn hg
    replace R_gp := kn HS R_gp
    replace R_r := kn HS R_r
    replace HF := fn HF HS
    clear HS
    cases hb_sk : seesB (l.getD p zTok) [⟨#[114, 97, 105, 115, 101]⟩] with
    | true =>
     simp only [hb_sk, Re.andThen, run_bind, run_skip, run_must, run_take, Pr.run, next, if_true, if_false, Bool.false_eq_true] at HV
     refine (sk_any (ts := [⟨#[114, 97, 105, 115, 101]⟩]) (n := 1) (Par.of HP0.out HF.out R_gp.out hq_p) R_sk.out rfl (by omega) hb_sk).mono ?_
     rintro e w63 ⟨rfl, hf, hp⟩
     replace hp : Par w63 gp a c l (p + 1) := hp
     clear R_sk
     have HS := Lib.hid hf
     have RG := Lib.hid hp.blk
     have hq_pP1 := hp.le
     clear hf hp
     replace R_r := kj HS R_r (by omega)
     replace HF := ft HF HS
     replace R_gp := RG
     clear HS RG
     go_wp2_with fail
     cases hr_e : Pr.run l g.exp (p + 1) with
     | out =>
      simp only [hr_e, Re.andThen, run_bind, run_skip, run_must, run_take, Pr.run, next, if_true, if_false, Bool.false_eq_true] at HV
      exact absurd HV.out.symm HO.out
     | fail q =>
      simp only [hr_e, Re.andThen, run_bind, run_skip, run_must, run_take, Pr.run, next, if_true, if_false, Bool.false_eq_true] at HV
      refine ((HH.out.exp).bad (Par.of HP0.out HF.out R_gp.out hq_pP1) hr_e).mono ?_
      rintro e w64 ⟨rfl, hf, hp⟩
      have hv := HV.out
      subst hv
      exact ⟨rfl, rfl, HF.out.trans hf (fun _ _ h => h), hp⟩
     | ok x_e q65 =>
      simp only [hr_e, Re.andThen, run_bind, run_skip, run_must, run_take, Pr.run, next, if_true, if_false, Bool.false_eq_true] at HV
      have hsz_e : gp < w63.heap.size := lt_of_block R_gp.out
      obtain ⟨b_e, hB⟩ : ∃ bZ, w63.heap.size = bZ := ⟨_, rfl⟩
      have K_gp_e := lb hB R_gp
      have K_r_e := lb hB R_r
      have KB_e := bs hB HF
      clear hsz_e
      refine ((HH.out.exp).good (Par.of HP0.out HF.out R_gp.out hq_pP1) hr_e).mono ?_
      rintro e w66 ⟨⟨cs_e, rfl, hc⟩, hf, hp⟩
      rw [hB] at hc
      clear hB
      obtain ⟨h_e, hH⟩ : ∃ hZ, w66.heap.size = hZ := ⟨_, rfl⟩
      have I_e := im hH hc
      have Z_h_e : h_e ≤ w66.heap.size := Nat.le_of_eq hH.symm
      clear hc hH
      have HS := Lib.hid hf
      have RG := Lib.hid hp.blk
      have hq_q65 := hp.le
      clear hf hp
      replace R_r := kj HS R_r (by omega)
      replace HF := ft HF HS
      replace R_gp := RG
      clear HS RG
      obtain ⟨k_e, s_e, n_e, u_e, a1_e, m1_e, c1_e, a2_e, m2_e, c2_e, a3_e, m3_e, c3_e, ecs⟩ := hcE I_e.out
      subst ecs
      obtain ⟨d0_r, d1_r, d2_r, d3_r, d4_r, d5_r, d6_r⟩ := z7c R_r.out
      obtain ⟨f0_r, f1_r, f2_r, f3_r, f4_r, f5_r, f6_r⟩ := y7c R_r.out
      have hltr : g_r < w66.heap.size := lt_of_block R_r.out
      go_wp2_with fail
      clear d0_r f0_r d1_r f1_r d2_r f2_r d3_r f3_r d4_r f4_r d5_r f5_r d6_r f6_r
      clear hltr
      obtain ⟨g_arr, hg⟩ : ∃ gZ, w66.heap.size = gZ := ⟨_, rfl⟩
      rw [hg]
      have L_gp_arr := lb hg R_gp
      have L_r_arr := lb hg R_r
      have B_arr := bs hg HF
      have M_h_e_arr := mz hg Z_h_e
      obtain ⟨w67, hn⟩ : ∃ wZ, setFrom g_r 0 [.int .u8 13, .string ⟨#[]⟩, .int .i64 0, .string ⟨#[]⟩, .slice (some ⟨g_arr, 0, none⟩) 1 1, .slice none 0 0, .slice none 0 0] w66 = wZ := ⟨_, rfl⟩
      have R_r' := sf hn R_r rfl
      have HS := sg hn
      have he := hn
      simp only [setFrom, Nat.reduceAdd] at he
      rw [he]
      clear he
      have hsz := (congrArg (fun w => w.heap.size) hn).symm.trans ((setFrom_size _ _ _ _).trans hg)
      clear hg
      (try dsimp only at hsz)
      clear hn
      replace R_gp := kj HS R_gp (by omega)
      replace I_e := ij I_e HS (by omega)
      replace HF := fb HF HS (by omega)
      replace Z_h_e := zt Z_h_e HS
      have R_r := R_r'
      clear R_r' HS
      obtain ⟨w68, hn⟩ : ∃ wZ, w67.alloc (.cells #[.int .u8 k_e, .string s_e, .int .i64 n_e, .string u_e, .slice a1_e m1_e c1_e, .slice a2_e m2_e c2_e, .slice a3_e m3_e c3_e] 44) = wZ := ⟨_, rfl⟩
      rw [hn]
      have HS := fa hn
      have R_arr : Hid (w68.heap[g_arr]? = some (.cells #[.int .u8 k_e, .string s_e, .int .i64 n_e, .string u_e, .slice a1_e m1_e c1_e, .slice a2_e m2_e c2_e, .slice a3_e m3_e c3_e] 44 (0, 0))) := Lib.hid (by rw [← hn, ← hsz]; exact new_block _ _)
      clear hn hsz
      replace R_gp := kn HS R_gp
      replace R_r := kn HS R_r
      replace I_e := ik I_e HS
      replace HF := fn HF HS
      replace Z_h_e := zt Z_h_e HS
      clear HS
      (try simp only [Exit.inBlock, Exit.then])
      have hv := HV.out
      subst hv
      refine bodyPost_ret (results_st rfl Tryz.underlying44 (by kernel_rfl) _ _ g_r _ rfl rfl R_r.out) rfl ?_
      exact ⟨⟨_, rfl, hcE_kids 13 ⟨#[]⟩ 0 nob (hx_one (c := [.int .u8 k_e, .string s_e, .int .i64 n_e, .string u_e, .slice a1_e m1_e c1_e, .slice a2_e m2_e c2_e, .slice a3_e m3_e c3_e]) R_arr.out B_arr rfl (by decide) (I_e.out.mono (fun b _ hb => by have := hb.1; omega)))⟩, HF.out, (Par.of HP0.out HF.out R_gp.out hq_q65)⟩
    | false =>
     simp only [hb_sk, Re.andThen, run_bind, run_skip, run_must, run_take, Pr.run, next, if_true, if_false, Bool.false_eq_true] at HV
     refine (sk_any (ts := [⟨#[114, 97, 105, 115, 101]⟩]) (n := 1) (Par.of HP0.out HF.out R_gp.out hq_p) R_sk.out rfl (by omega) hb_sk).mono ?_
     rintro e w69 ⟨rfl, hf, hp⟩
     replace hp : Par w69 gp a c l p := hp
     clear R_sk
     have HS := Lib.hid hf
     have RG := Lib.hid hp.blk
     have hq_p := hp.le
     clear hf hp
     replace R_r := kj HS R_r (by omega)
     replace HF := ft HF HS
     replace R_gp := RG
     clear HS RG
     go_wp2_with fail
     cases hr_e : Pr.run l (g.level 0) p with
     | out =>
      simp only [hr_e, Re.andThen, run_bind, run_skip, run_must, run_take, Pr.run, next, if_true, if_false, Bool.false_eq_true] at HV
      exact absurd HV.out.symm HO.out
     | fail q =>
      simp only [hr_e, Re.andThen, run_bind, run_skip, run_must, run_take, Pr.run, next, if_true, if_false, Bool.false_eq_true] at HV
      refine ((HH.out.level 0 (by decide)).bad (Par.of HP0.out HF.out R_gp.out hq_p) hr_e).mono ?_
      rintro e w70 ⟨rfl, hf, hp⟩
      have hv := HV.out
      subst hv
      exact ⟨rfl, rfl, HF.out.trans hf (fun _ _ h => h), hp⟩
     | ok x_e q71 =>
      simp only [hr_e, Re.andThen, run_bind, run_skip, run_must, run_take, Pr.run, next, if_true, if_false, Bool.false_eq_true] at HV
      have hsz_e : gp < w69.heap.size := lt_of_block R_gp.out
      obtain ⟨b_e, hB⟩ : ∃ bZ, w69.heap.size = bZ := ⟨_, rfl⟩
      have K_gp_e := lb hB R_gp
      have K_r_e := lb hB R_r
      have KB_e := bs hB HF
      clear hsz_e
      refine ((HH.out.level 0 (by decide)).good (Par.of HP0.out HF.out R_gp.out hq_p) hr_e).mono ?_
      rintro e w72 ⟨⟨cs_e, rfl, hc⟩, hf, hp⟩
      rw [hB] at hc
      clear hB
      obtain ⟨h_e, hH⟩ : ∃ hZ, w72.heap.size = hZ := ⟨_, rfl⟩
      have I_e := im hH hc
      have Z_h_e : h_e ≤ w72.heap.size := Nat.le_of_eq hH.symm
      clear hc hH
      have HS := Lib.hid hf
      have RG := Lib.hid hp.blk
      have hq_q71 := hp.le
      clear hf hp
      replace R_r := kj HS R_r (by omega)
      replace HF := ft HF HS
      replace R_gp := RG
      clear HS RG
      obtain ⟨k_e, s_e, n_e, u_e, a1_e, m1_e, c1_e, a2_e, m2_e, c2_e, a3_e, m3_e, c3_e, ecs⟩ := hcE I_e.out
      subst ecs
      go_upto_region 21 with fail
      generalize hn : w72.alloc _ = w73
      generalize hg : w72.heap.size = g_t
      have HS := fa hn
      have R_t := nb hn hg
      have L_gp_t := lb hg R_gp
      have L_r_t := lb hg R_r
      have B_t := bs hg HF
      have M_h_e_t := mz hg Z_h_e
      clear hn hg
      replace R_gp := kn HS R_gp
      replace R_r := kn HS R_r
      replace I_e := ik I_e HS
      replace HF := fn HF HS
      replace Z_h_e := zt Z_h_e HS
      clear HS
      go_wp2_with fail
      generalize hn : w73.alloc _ = w74
      generalize hg : w73.heap.size = g_sk
      have HS := fa hn
      have R_sk := nb hn hg
      have L_gp_sk := lb hg R_gp
      have L_r_sk := lb hg R_r
      have L_t_sk := lb hg R_t
      have B_sk := bs hg HF
      have M_h_e_sk := mz hg Z_h_e
      clear hn hg
      replace R_gp := kn HS R_gp
      replace R_r := kn HS R_r
      replace R_t := kn HS R_t
      replace I_e := ik I_e HS
      replace HF := fn HF HS
      replace Z_h_e := zt Z_h_e HS
      clear HS
      cases hb_sk : seesB (l.getD q71 zTok) [⟨#[104, 97, 110, 100, 108, 101]⟩] with
      | true =>
       simp only [hb_sk, Re.andThen, run_bind, run_skip, run_must, run_take, Pr.run, next, if_true, if_false, Bool.false_eq_true] at HV
       refine (sk_any (ts := [⟨#[104, 97, 110, 100, 108, 101]⟩]) (n := 1) (Par.of HP0.out HF.out R_gp.out hq_q71) R_sk.out rfl (by omega) hb_sk).mono ?_
       rintro e w75 ⟨rfl, hf, hp⟩
       replace hp : Par w75 gp a c l (q71 + 1) := hp
       clear R_sk
       have HS := Lib.hid hf
       have RG := Lib.hid hp.blk
       have hq_q71P1 := hp.le
       clear hf hp
       replace R_r := kj HS R_r (by omega)
       replace R_t := kj HS R_t (by omega)
       replace I_e := ij I_e HS (by omega)
       replace HF := ft HF HS
       replace Z_h_e := zt Z_h_e HS
       replace R_gp := RG
       clear HS RG
       go_upto_region 22 with fail
       refine region_e (fun w' => w'.cell? ⟨g_t, 0, none⟩ = some (.int .u8 k_e) ∧ w'.cell? ⟨g_t, 1, none⟩ = some (.string s_e) ∧ w'.cell? ⟨g_t, 2, none⟩ = some (.int .i64 n_e) ∧ w'.cell? ⟨g_t, 3, none⟩ = some (.string u_e) ∧ w'.cell? ⟨g_t, 4, none⟩ = some (.slice a1_e m1_e c1_e) ∧ w'.cell? ⟨g_t, 5, none⟩ = some (.slice a2_e m2_e c2_e) ∧ w'.cell? ⟨g_t, 6, none⟩ = some (.slice a3_e m3_e c3_e)) [7] (by kernel_rfl) ?_ (fun hHeld => ?_)
       · exact ⟨cell_of ((Fr.drew w75).keeps R_t.out no_one) 0, cell_of ((Fr.drew w75).keeps R_t.out no_one) 1, cell_of ((Fr.drew w75).keeps R_t.out no_one) 2, cell_of ((Fr.drew w75).keeps R_t.out no_one) 3, cell_of ((Fr.drew w75).keeps R_t.out no_one) 4, cell_of ((Fr.drew w75).keeps R_t.out no_one) 5, cell_of ((Fr.drew w75).keeps R_t.out no_one) 6⟩
       obtain ⟨w76, hwd⟩ : ∃ wZ, wZ = w75.drew := ⟨_, rfl⟩
       have HS : Hid (Fr No w75 w76) := Lib.hid (by rw [hwd]; exact Fr.drew _)
       rw [← hwd] at hHeld ⊢
       clear hwd
       replace R_gp := kn HS R_gp
       replace R_r := kn HS R_r
       replace R_t := kn HS R_t
       replace I_e := ik I_e HS
       replace HF := fn HF HS
       replace Z_h_e := zt Z_h_e HS
       clear HS
       refine take_op 0 (some 76) (Op.load 44 ( .tmp 8)) 44 ?_ (by kernel_rfl) (by kernel_rfl) (by kernel_rfl) (fun _ _ _ h => h) ?_ (by assumption) ?_
       rotate_left
       · intro w hSw; (try dsimp only at hSw); go_simp; (try (with_reducible rfl))
       try simp only [Act.put, List.setIfInBounds_toArray, List.set_cons_zero, List.set_cons_succ]
       refine take_op 2 (some 78) (Op.move ( .tmp 0)) 47 ?_ (by kernel_rfl) (by kernel_rfl) (by kernel_rfl) (fun _ _ _ h => h) ?_ (by assumption) ?_
       rotate_left
       · intro w hSw; (try dsimp only at hSw); go_simp; (try (with_reducible rfl))
       try simp only [Act.put, List.setIfInBounds_toArray, List.set_cons_zero, List.set_cons_succ]
       refine take_op 3 (some 79) (Op.move ( .tmp 0)) 47 ?_ (by kernel_rfl) (by kernel_rfl) (by kernel_rfl) (fun _ _ _ h => h) ?_ (by assumption) ?_
       rotate_left
       · intro w hSw; (try dsimp only at hSw); go_simp; (try (with_reducible rfl))
       try simp only [Act.put, List.setIfInBounds_toArray, List.set_cons_zero, List.set_cons_succ]
       refine take_op 4 (some 80) (Op.makeFunc (Fn.func 54) #[ .tmp 79] #[]) 100 ?_ (by kernel_rfl) (by kernel_rfl) (by kernel_rfl) (fun _ _ _ h => h) ?_ (by assumption) ?_
       rotate_left
       · intro w hSw; (try dsimp only at hSw); go_simp; (try (with_reducible rfl))
       try simp only [Act.put, List.setIfInBounds_toArray, List.set_cons_zero, List.set_cons_succ]
       refine ready_e (rs := [1, 5]) (by kernel_rfl) (by simp) ?_
       refine (do_mid (o := _) rfl (fun K hK => ?_) (do_mid (o := _) rfl (fun K hK => ?_) none_e))
       ·
        go_simp
        generalize hn : w76.alloc _ = w77
        generalize hg : w76.heap.size = g_arr
        have HS := fa hn
        have R_arr := nb hn hg
        have L_gp_arr := lb hg R_gp
        have L_r_arr := lb hg R_r
        have L_t_arr := lb hg R_t
        have B_arr := bs hg HF
        have M_h_e_arr := mz hg Z_h_e
        clear hn hg
        replace R_gp := kn HS R_gp
        replace R_r := kn HS R_r
        replace R_t := kn HS R_t
        replace I_e := ik I_e HS
        replace HF := fn HF HS
        replace Z_h_e := zt Z_h_e HS
        clear HS
        refine hK.out _ _ ?_ (fun hHeld => ?_)
        · exact ⟨cell_of R_t.out 0, cell_of R_t.out 1, cell_of R_t.out 2, cell_of R_t.out 3, cell_of R_t.out 4, cell_of R_t.out 5, cell_of R_t.out 6⟩
        clear hK K
        try dsimp only
        try simp only [Act.put, List.setIfInBounds_toArray, List.set_cons_zero, List.set_cons_succ]
        refine ready_e (rs := [5]) (by kernel_rfl) (by simp) ?_
        refine (do_mid (o := _) rfl (fun K hK => ?_) none_e)
        go_simp
        go_at_call 53
        cases hr_q : Pr.run l (some_ n ⟨#[124]⟩ g.rule) (q71 + 1) with
        | out =>
         simp only [hr_q, Re.andThen, run_bind, run_skip, run_must, run_take, Pr.run, next, if_true, if_false, Bool.false_eq_true] at HV
         exact absurd HV.out.symm HO.out
        | fail q =>
         simp only [hr_q, Re.andThen, run_bind, run_skip, run_must, run_take, Pr.run, next, if_true, if_false, Bool.false_eq_true] at HV
         refine (((some_rule enters54 HH.out.rule ⟨#[124]⟩ n)).bad (Par.of HP0.out HF.out R_gp.out hq_q71P1) hr_q).mono ?_
         rintro e w78 ⟨rfl, hf, hp⟩
         have hv := HV.out
         subst hv
         exact ⟨rfl, rfl, HF.out.trans hf (fun _ _ h => h), hp⟩
        | ok x_q q79 =>
         simp only [hr_q, Re.andThen, run_bind, run_skip, run_must, run_take, Pr.run, next, if_true, if_false, Bool.false_eq_true] at HV
         have hsz_q : gp < w77.heap.size := lt_of_block R_gp.out
         obtain ⟨b_q, hB⟩ : ∃ bZ, w77.heap.size = bZ := ⟨_, rfl⟩
         have K_gp_q := lb hB R_gp
         have K_r_q := lb hB R_r
         have K_t_q := lb hB R_t
         have K_arr_q := lb hB R_arr
         have KB_q := bs hB HF
         clear hsz_q
         refine (((some_rule enters54 HH.out.rule ⟨#[124]⟩ n)).good (Par.of HP0.out HF.out R_gp.out hq_q71P1) hr_q).mono ?_
         rintro e w80 ⟨⟨v_q, rfl, hc⟩, hf, hp⟩
         rw [hB] at hc
         clear hB
         obtain ⟨h_q, hH⟩ : ∃ hZ, w80.heap.size = hZ := ⟨_, rfl⟩
         have I_q := imx hH hc
         have Z_h_q : h_q ≤ w80.heap.size := Nat.le_of_eq hH.symm
         clear hc hH
         have HS := Lib.hid hf
         have RG := Lib.hid hp.blk
         have hq_q79 := hp.le
         clear hf hp
         replace R_r := kj HS R_r (by omega)
         replace R_t := kj HS R_t (by omega)
         replace R_arr := kj HS R_arr (by omega)
         replace I_e := ij I_e HS (by omega)
         replace HF := ft HF HS
         replace Z_h_e := zt Z_h_e HS
         replace R_gp := RG
         clear HS RG
         obtain ⟨al_q, cl_q, evl⟩ := hx_slice I_q.out
         subst evl
         obtain ⟨nl_q, hnl⟩ : ∃ n, List.length (List.map xR x_q) = n := ⟨_, rfl⟩
         rw [hnl] at I_q ⊢
         clear hnl
         refine hK.out _ _ ?_ (fun hHeld => ?_)
         · exact ⟨cell_of R_t.out 0, cell_of R_t.out 1, cell_of R_t.out 2, cell_of R_t.out 3, cell_of R_t.out 4, cell_of R_t.out 5, cell_of R_t.out 6⟩
         clear hK K
         try dsimp only
         try simp only [Act.put, List.setIfInBounds_toArray, List.set_cons_zero, List.set_cons_succ]
         refine take_op 6 (some 82) (Op.build 44 #[(0,  .const (.int .u8 12)), (4,  .tmp 77), (5,  .tmp 81)]) 44 ?_ (by kernel_rfl) (by kernel_rfl) (by kernel_rfl) (fun _ _ _ h => h) ?_ (by assumption) ?_
         rotate_left
         · intro w hSw; (try dsimp only at hSw); go_simp; (try (with_reducible rfl))
         try simp only [Act.put, List.setIfInBounds_toArray, List.set_cons_zero, List.set_cons_succ]
         obtain ⟨d0_r, d1_r, d2_r, d3_r, d4_r, d5_r, d6_r⟩ := z7c R_r.out
         obtain ⟨f0_r, f1_r, f2_r, f3_r, f4_r, f5_r, f6_r⟩ := y7c R_r.out
         refine ready_e (rs := [7]) (by kernel_rfl) (by simp) ?_
         refine (do_late (o := _) rfl (by kernel_rfl) (fun K hK => ?_) none_e)
         go_simp
         clear d0_r f0_r d1_r f1_r d2_r f2_r d3_r f3_r d4_r f4_r d5_r f5_r d6_r f6_r
         obtain ⟨w81, hn⟩ : ∃ wZ, setFrom g_r 0 [.int .u8 12, .string ⟨#[]⟩, .int .i64 0, .string ⟨#[]⟩, .slice (some ⟨g_arr, 0, none⟩) 1 1, .slice al_q nl_q cl_q, .slice none 0 0] w80 = wZ := ⟨_, rfl⟩
         have R_r' := sf hn R_r rfl
         have HS := sg hn
         have he := hn
         simp only [setFrom, Nat.reduceAdd] at he
         rw [he]
         clear he
         clear hn
         replace R_gp := kj HS R_gp (by omega)
         replace R_t := kj HS R_t (by omega)
         replace R_arr := kj HS R_arr (by omega)
         replace I_e := ij I_e HS (by omega)
         replace I_q := ijx I_q HS (by omega)
         replace HF := fb HF HS (by omega)
         replace Z_h_e := zt Z_h_e HS
         replace Z_h_q := zt Z_h_q HS
         have R_r := R_r'
         clear R_r' HS
         refine hK.out _ _ ?_
         clear hK K
         try dsimp only
         try simp only [Act.put, List.setIfInBounds_toArray, List.set_cons_zero, List.set_cons_succ]
         refine done_e (by kernel_rfl) ?_ _
         (try simp only [Exit.inBlock, Exit.then])
         go_wp2_with fail
         (try simp only [Exit.inBlock, Exit.then])
         have hv := HV.out
         subst hv
         refine bodyPost_ret (results_st rfl Tryz.underlying44 (by kernel_rfl) _ _ g_r _ rfl rfl R_r.out) rfl ?_
         exact ⟨⟨_, rfl, hcE_mk 12 nob 0 nob (hx_one (c := [.int .u8 k_e, .string s_e, .int .i64 n_e, .string u_e, .slice a1_e m1_e c1_e, .slice a2_e m2_e c2_e, .slice a3_e m3_e c3_e]) R_arr.out B_arr rfl (by decide) (I_e.out.mono (fun b _ hb => by have := hb.1; omega))) (I_q.out.mono (fun b _ hb => by have := hb.1; omega)) (hx_nil _)⟩, HF.out, (Par.of HP0.out HF.out R_gp.out hq_q79)⟩
       ·
        go_simp
        go_at_call 53
        cases hr_q : Pr.run l (some_ n ⟨#[124]⟩ g.rule) (q71 + 1) with
        | out =>
         simp only [hr_q, Re.andThen, run_bind, run_skip, run_must, run_take, Pr.run, next, if_true, if_false, Bool.false_eq_true] at HV
         exact absurd HV.out.symm HO.out
        | fail q =>
         simp only [hr_q, Re.andThen, run_bind, run_skip, run_must, run_take, Pr.run, next, if_true, if_false, Bool.false_eq_true] at HV
         refine (((some_rule enters54 HH.out.rule ⟨#[124]⟩ n)).bad (Par.of HP0.out HF.out R_gp.out hq_q71P1) hr_q).mono ?_
         rintro e w82 ⟨rfl, hf, hp⟩
         have hv := HV.out
         subst hv
         exact ⟨rfl, rfl, HF.out.trans hf (fun _ _ h => h), hp⟩
        | ok x_q q83 =>
         simp only [hr_q, Re.andThen, run_bind, run_skip, run_must, run_take, Pr.run, next, if_true, if_false, Bool.false_eq_true] at HV
         have hsz_q : gp < w76.heap.size := lt_of_block R_gp.out
         obtain ⟨b_q, hB⟩ : ∃ bZ, w76.heap.size = bZ := ⟨_, rfl⟩
         have K_gp_q := lb hB R_gp
         have K_r_q := lb hB R_r
         have K_t_q := lb hB R_t
         have KB_q := bs hB HF
         clear hsz_q
         refine (((some_rule enters54 HH.out.rule ⟨#[124]⟩ n)).good (Par.of HP0.out HF.out R_gp.out hq_q71P1) hr_q).mono ?_
         rintro e w84 ⟨⟨v_q, rfl, hc⟩, hf, hp⟩
         rw [hB] at hc
         clear hB
         obtain ⟨h_q, hH⟩ : ∃ hZ, w84.heap.size = hZ := ⟨_, rfl⟩
         have I_q := imx hH hc
         have Z_h_q : h_q ≤ w84.heap.size := Nat.le_of_eq hH.symm
         clear hc hH
         have HS := Lib.hid hf
         have RG := Lib.hid hp.blk
         have hq_q83 := hp.le
         clear hf hp
         replace R_r := kj HS R_r (by omega)
         replace R_t := kj HS R_t (by omega)
         replace I_e := ij I_e HS (by omega)
         replace HF := ft HF HS
         replace Z_h_e := zt Z_h_e HS
         replace R_gp := RG
         clear HS RG
         obtain ⟨al_q, cl_q, evl⟩ := hx_slice I_q.out
         subst evl
         obtain ⟨nl_q, hnl⟩ : ∃ n, List.length (List.map xR x_q) = n := ⟨_, rfl⟩
         rw [hnl] at I_q ⊢
         clear hnl
         refine hK.out _ _ ?_ (fun hHeld => ?_)
         · exact ⟨cell_of R_t.out 0, cell_of R_t.out 1, cell_of R_t.out 2, cell_of R_t.out 3, cell_of R_t.out 4, cell_of R_t.out 5, cell_of R_t.out 6⟩
         clear hK K
         try dsimp only
         try simp only [Act.put, List.setIfInBounds_toArray, List.set_cons_zero, List.set_cons_succ]
         refine ready_e (rs := [1]) (by kernel_rfl) (by simp) ?_
         refine (do_mid (o := _) rfl (fun K hK => ?_) none_e)
         go_simp
         generalize hn : w84.alloc _ = w85
         generalize hg : w84.heap.size = g_arr
         have HS := fa hn
         have R_arr := nb hn hg
         have L_gp_arr := lb hg R_gp
         have L_r_arr := lb hg R_r
         have L_t_arr := lb hg R_t
         have B_arr := bs hg HF
         have M_h_e_arr := mz hg Z_h_e
         have M_h_q_arr := mz hg Z_h_q
         clear hn hg
         replace R_gp := kn HS R_gp
         replace R_r := kn HS R_r
         replace R_t := kn HS R_t
         replace I_e := ik I_e HS
         replace I_q := ikx I_q HS
         replace HF := fn HF HS
         replace Z_h_e := zt Z_h_e HS
         replace Z_h_q := zt Z_h_q HS
         clear HS
         refine hK.out _ _ ?_ (fun hHeld => ?_)
         · exact ⟨cell_of R_t.out 0, cell_of R_t.out 1, cell_of R_t.out 2, cell_of R_t.out 3, cell_of R_t.out 4, cell_of R_t.out 5, cell_of R_t.out 6⟩
         clear hK K
         try dsimp only
         try simp only [Act.put, List.setIfInBounds_toArray, List.set_cons_zero, List.set_cons_succ]
         refine take_op 6 (some 82) (Op.build 44 #[(0,  .const (.int .u8 12)), (4,  .tmp 77), (5,  .tmp 81)]) 44 ?_ (by kernel_rfl) (by kernel_rfl) (by kernel_rfl) (fun _ _ _ h => h) ?_ (by assumption) ?_
         rotate_left
         · intro w hSw; (try dsimp only at hSw); go_simp; (try (with_reducible rfl))
         try simp only [Act.put, List.setIfInBounds_toArray, List.set_cons_zero, List.set_cons_succ]
         obtain ⟨d0_r, d1_r, d2_r, d3_r, d4_r, d5_r, d6_r⟩ := z7c R_r.out
         obtain ⟨f0_r, f1_r, f2_r, f3_r, f4_r, f5_r, f6_r⟩ := y7c R_r.out
         refine ready_e (rs := [7]) (by kernel_rfl) (by simp) ?_
         refine (do_late (o := _) rfl (by kernel_rfl) (fun K hK => ?_) none_e)
         go_simp
         clear d0_r f0_r d1_r f1_r d2_r f2_r d3_r f3_r d4_r f4_r d5_r f5_r d6_r f6_r
         obtain ⟨w86, hn⟩ : ∃ wZ, setFrom g_r 0 [.int .u8 12, .string ⟨#[]⟩, .int .i64 0, .string ⟨#[]⟩, .slice (some ⟨g_arr, 0, none⟩) 1 1, .slice al_q nl_q cl_q, .slice none 0 0] w85 = wZ := ⟨_, rfl⟩
         have R_r' := sf hn R_r rfl
         have HS := sg hn
         have he := hn
         simp only [setFrom, Nat.reduceAdd] at he
         rw [he]
         clear he
         clear hn
         replace R_gp := kj HS R_gp (by omega)
         replace R_t := kj HS R_t (by omega)
         replace R_arr := kj HS R_arr (by omega)
         replace I_e := ij I_e HS (by omega)
         replace I_q := ijx I_q HS (by omega)
         replace HF := fb HF HS (by omega)
         replace Z_h_e := zt Z_h_e HS
         replace Z_h_q := zt Z_h_q HS
         have R_r := R_r'
         clear R_r' HS
         refine hK.out _ _ ?_
         clear hK K
         try dsimp only
         try simp only [Act.put, List.setIfInBounds_toArray, List.set_cons_zero, List.set_cons_succ]
         refine done_e (by kernel_rfl) ?_ _
         (try simp only [Exit.inBlock, Exit.then])
         go_wp2_with fail
         (try simp only [Exit.inBlock, Exit.then])
         have hv := HV.out
         subst hv
         refine bodyPost_ret (results_st rfl Tryz.underlying44 (by kernel_rfl) _ _ g_r _ rfl rfl R_r.out) rfl ?_
         exact ⟨⟨_, rfl, hcE_mk 12 nob 0 nob (hx_one (c := [.int .u8 k_e, .string s_e, .int .i64 n_e, .string u_e, .slice a1_e m1_e c1_e, .slice a2_e m2_e c2_e, .slice a3_e m3_e c3_e]) R_arr.out B_arr rfl (by decide) (I_e.out.mono (fun b _ hb => by have := hb.1; omega))) (I_q.out.mono (fun b _ hb => by have := hb.1; omega)) (hx_nil _)⟩, HF.out, (Par.of HP0.out HF.out R_gp.out hq_q83)⟩
      | false =>
       simp only [hb_sk, Re.andThen, run_bind, run_skip, run_must, run_take, Pr.run, next, if_true, if_false, Bool.false_eq_true] at HV
       refine (sk_any (ts := [⟨#[104, 97, 110, 100, 108, 101]⟩]) (n := 1) (Par.of HP0.out HF.out R_gp.out hq_q71) R_sk.out rfl (by omega) hb_sk).mono ?_
       rintro e w87 ⟨rfl, hf, hp⟩
       replace hp : Par w87 gp a c l q71 := hp
       clear R_sk
       have HS := Lib.hid hf
       have RG := Lib.hid hp.blk
       have hq_q71 := hp.le
       clear hf hp
       replace R_r := kj HS R_r (by omega)
       replace R_t := kj HS R_t (by omega)
       replace I_e := ij I_e HS (by omega)
       replace HF := ft HF HS
       replace Z_h_e := zt Z_h_e HS
       replace R_gp := RG
       clear HS RG
       obtain ⟨d0_t, d1_t, d2_t, d3_t, d4_t, d5_t, d6_t⟩ := z7c R_t.out
       obtain ⟨f0_t, f1_t, f2_t, f3_t, f4_t, f5_t, f6_t⟩ := y7c R_t.out
       obtain ⟨d0_r, d1_r, d2_r, d3_r, d4_r, d5_r, d6_r⟩ := z7c R_r.out
       obtain ⟨f0_r, f1_r, f2_r, f3_r, f4_r, f5_r, f6_r⟩ := y7c R_r.out
       go_wp2_with fail
       clear d0_t f0_t d1_t f1_t d2_t f2_t d3_t f3_t d4_t f4_t d5_t f5_t d6_t f6_t
       clear d0_r f0_r d1_r f1_r d2_r f2_r d3_r f3_r d4_r f4_r d5_r f5_r d6_r f6_r
       obtain ⟨w88, hn⟩ : ∃ wZ, setFrom g_r 0 [.int .u8 k_e, .string s_e, .int .i64 n_e, .string u_e, .slice a1_e m1_e c1_e, .slice a2_e m2_e c2_e, .slice a3_e m3_e c3_e] w87 = wZ := ⟨_, rfl⟩
       have R_r' := sf hn R_r rfl
       have HS := sg hn
       have he := hn
       simp only [setFrom, Nat.reduceAdd] at he
       rw [he]
       clear he
       clear hn
       replace R_gp := kj HS R_gp (by omega)
       replace R_t := kj HS R_t (by omega)
       replace I_e := ij I_e HS (by omega)
       replace HF := fb HF HS (by omega)
       replace Z_h_e := zt Z_h_e HS
       have R_r := R_r'
       clear R_r' HS
       (try simp only [Exit.inBlock, Exit.then])
       have hv := HV.out
       subst hv
       refine bodyPost_ret (results_st rfl Tryz.underlying44 (by kernel_rfl) _ _ g_r _ rfl rfl R_r.out) rfl ?_
       exact ⟨⟨_, rfl, I_e.out.mono (fun b _ hb => by have := hb.1; omega)⟩, HF.out, (Par.of HP0.out HF.out R_gp.out hq_q71)⟩
end Go.Proofs.YtjabhmepafofmaaGreatDoor
