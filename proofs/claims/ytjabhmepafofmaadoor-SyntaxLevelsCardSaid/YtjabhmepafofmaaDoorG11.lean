/- Declarations. -/
import Derived.Test.YtjabhmepafofmaaDoorG02
import Derived.Test.YtjabhmepafofmaaDoorG05
import Derived.Test.YtjabhmepafofmaaDoorG03
set_option linter.unusedVariables false
set_option linter.unusedSimpArgs false
namespace Go.Proofs.YtjabhmepafofmaaDoor
open Go.RowKit

set_option maxHeartbeats 8000000 in
set_option maxRecDepth 100000 in
theorem dec_datatype {gp : Nat} {a : Option Addr} {c : Nat} {l : List Tok} {g : Gr} {n : Nat} (h : Oks gp a c l g) (w : World) (p : Nat) (hp0 : Par w gp a c l p) (ho : Pr.run l (g.pDec n true) p ≠ .out) (h_val : seesB (l.getD p zTok) [⟨#[118, 97, 108]⟩] = false) (h_fun : seesB (l.getD p zTok) [⟨#[102, 117, 110]⟩] = false) (h_do : seesB (l.getD p zTok) [⟨#[100, 111]⟩] = false) (h_datatype : seesB (l.getD p zTok) [⟨#[100, 97, 116, 97, 116, 121, 112, 101]⟩] = true) :
  Calls Tryd.prog 21 #[.pointer (some ⟨gp, 0, none⟩), .bool true] w (Post gp a c l w (stE xD w.heap.size) (Pr.run l (g.pDec n true) p)) := by
 have HO := Lib.hid ho
 have HP0 := Lib.hid hp0
 have HH := Lib.hid h
 have hq_p := hp0.le
 have hlen := hp0.len
 have HF : Hid (Fr (Just gp) w w) := Lib.hid (Fr.refl _ _)
 have R_gp : Hid (w.heap[gp]? = some (.cells #[.slice a l.length c, .int .i64 (p : Nat)] 60 (0, 0))) := Lib.hid hp0.blk
 obtain ⟨V, hV⟩ : ∃ V, Pr.run l ((g.pDec n true)) p = V := ⟨_, rfl⟩
 rw [hV] at HO ⊢
 clear ho hp0 h
 simp only [Gr.pDec, run_bind, run_skip, run_must, run_take, Pr.run, next, if_true, if_false, Bool.false_eq_true] at hV
 have HV := Lib.hid hV
 clear hV
 go_enter Tryd.func21, Tryd.ntmps21
 go_upto_region 1 with fail
 generalize hn : w.alloc _ = w1
 generalize hg : w.heap.size = g_r
 have HS := fa hn
 have R_r := nb hn hg
 have L_gp_r := lb hg R_gp
 have B_r := bs hg HF
 clear hn hg
 replace R_gp := kn HS R_gp
 replace HF := fn HF HS
 clear HS
 go_wp2_with fail
 generalize hn : w1.alloc _ = w2
 generalize hg : w1.heap.size = g_sk
 have HS := fa hn
 have R_sk := nb hn hg
 have L_gp_sk := lb hg R_gp
 have L_r_sk := lb hg R_r
 have B_sk := bs hg HF
 clear hn hg
 replace R_gp := kn HS R_gp
 replace R_r := kn HS R_r
 replace HF := fn HF HS
 clear HS
 have hb_sk := h_val
 simp only [hb_sk, Re.andThen, run_bind, run_skip, run_must, run_take, Pr.run, next, if_true, if_false, Bool.false_eq_true] at HV
 refine (sk_any (ts := [⟨#[118, 97, 108]⟩]) (n := 1) (Par.of HP0.out HF.out R_gp.out hq_p) R_sk.out rfl (by omega) hb_sk).mono ?_
 rintro e w3 ⟨rfl, hf, hp⟩
 replace hp : Par w3 gp a c l p := hp
 clear R_sk
 have HS := Lib.hid hf
 have RG := Lib.hid hp.blk
 have hq_p := hp.le
 clear hf hp
 replace R_r := kj HS R_r (by omega)
 replace HF := ft HF HS
 replace R_gp := RG
 clear HS RG
 go_wp2_with fail
 generalize hn : w3.alloc _ = w4
 generalize hg : w3.heap.size = g_sk
 have HS := fa hn
 have R_sk := nb hn hg
 have L_gp_sk := lb hg R_gp
 have L_r_sk := lb hg R_r
 have B_sk := bs hg HF
 clear hn hg
 replace R_gp := kn HS R_gp
 replace R_r := kn HS R_r
 replace HF := fn HF HS
 clear HS
 have hb_sk := h_fun
 simp only [hb_sk, Re.andThen, run_bind, run_skip, run_must, run_take, Pr.run, next, if_true, if_false, Bool.false_eq_true] at HV
 refine (sk_any (ts := [⟨#[102, 117, 110]⟩]) (n := 1) (Par.of HP0.out HF.out R_gp.out hq_p) R_sk.out rfl (by omega) hb_sk).mono ?_
 rintro e w5 ⟨rfl, hf, hp⟩
 replace hp : Par w5 gp a c l p := hp
 clear R_sk
 have HS := Lib.hid hf
 have RG := Lib.hid hp.blk
 have hq_p := hp.le
 clear hf hp
 replace R_r := kj HS R_r (by omega)
 replace HF := ft HF HS
 replace R_gp := RG
 clear HS RG
 go_wp2_with fail
 generalize hn : w5.alloc _ = w6
 generalize hg : w5.heap.size = g_sk
 have HS := fa hn
 have R_sk := nb hn hg
 have L_gp_sk := lb hg R_gp
 have L_r_sk := lb hg R_r
 have B_sk := bs hg HF
 clear hn hg
 replace R_gp := kn HS R_gp
 replace R_r := kn HS R_r
 replace HF := fn HF HS
 clear HS
 have hb_sk := h_do
 simp only [hb_sk, Re.andThen, run_bind, run_skip, run_must, run_take, Pr.run, next, if_true, if_false, Bool.false_eq_true] at HV
 refine (sk_any (ts := [⟨#[100, 111]⟩]) (n := 1) (Par.of HP0.out HF.out R_gp.out hq_p) R_sk.out rfl (by omega) hb_sk).mono ?_
 rintro e w7 ⟨rfl, hf, hp⟩
 replace hp : Par w7 gp a c l p := hp
 clear R_sk
 have HS := Lib.hid hf
 have RG := Lib.hid hp.blk
 have hq_p := hp.le
 clear hf hp
 replace R_r := kj HS R_r (by omega)
 replace HF := ft HF HS
 replace R_gp := RG
 clear HS RG
 simp only [Bool.true_eq_false, run_bind, run_skip, run_must, run_take, Pr.run, next, if_true, if_false, Bool.false_eq_true] at HV
 go_wp2_with fail
 generalize hn : w7.alloc _ = w8
 generalize hg : w7.heap.size = g_sk
 have HS := fa hn
 have R_sk := nb hn hg
 have L_gp_sk := lb hg R_gp
 have L_r_sk := lb hg R_r
 have B_sk := bs hg HF
 clear hn hg
 replace R_gp := kn HS R_gp
 replace R_r := kn HS R_r
 replace HF := fn HF HS
 clear HS
 have hb_sk := h_datatype
 simp only [hb_sk, Re.andThen, run_bind, run_skip, run_must, run_take, Pr.run, next, if_true, if_false, Bool.false_eq_true] at HV
 refine (sk_any (ts := [⟨#[100, 97, 116, 97, 116, 121, 112, 101]⟩]) (n := 1) (Par.of HP0.out HF.out R_gp.out hq_p) R_sk.out rfl (by omega) hb_sk).mono ?_
 rintro e w9 ⟨rfl, hf, hp⟩
 replace hp : Par w9 gp a c l (p + 1) := hp
 clear R_sk
 have HS := Lib.hid hf
 have RG := Lib.hid hp.blk
 have hq_pP1 := hp.le
 clear hf hp
 replace R_r := kj HS R_r (by omega)
 replace HF := ft HF HS
 replace R_gp := RG
 clear HS RG
 go_wp2_with fail
 cases hr_v : Pr.run l g.vars (p + 1) with
 | out =>
  simp only [hr_v, Re.andThen, run_bind, run_skip, run_must, run_take, Pr.run, next, if_true, if_false, Bool.false_eq_true] at HV
  exact absurd HV.out.symm HO.out
 | fail q =>
  simp only [hr_v, Re.andThen, run_bind, run_skip, run_must, run_take, Pr.run, next, if_true, if_false, Bool.false_eq_true] at HV
  refine ((HH.out.vars).bad (Par.of HP0.out HF.out R_gp.out hq_pP1) hr_v).mono ?_
  rintro e w10 ⟨rfl, hf, hp⟩
  have hv := HV.out
  subst hv
  exact ⟨rfl, rfl, HF.out.trans hf (fun _ _ h => h), hp⟩
 | ok x_v q11 =>
  simp only [hr_v, Re.andThen, run_bind, run_skip, run_must, run_take, Pr.run, next, if_true, if_false, Bool.false_eq_true] at HV
  have hsz_v : gp < w9.heap.size := lt_of_block R_gp.out
  obtain ⟨b_v, hB⟩ : ∃ bZ, w9.heap.size = bZ := ⟨_, rfl⟩
  have K_gp_v := lb hB R_gp
  have K_r_v := lb hB R_r
  have KB_v := bs hB HF
  clear hsz_v
  refine ((HH.out.vars).good (Par.of HP0.out HF.out R_gp.out hq_pP1) hr_v).mono ?_
  rintro e w12 ⟨⟨v_v, rfl, hc⟩, hf, hp⟩
  rw [hB] at hc
  clear hB
  obtain ⟨h_v, hH⟩ : ∃ hZ, w12.heap.size = hZ := ⟨_, rfl⟩
  have I_v := imx hH hc
  have Z_h_v : h_v ≤ w12.heap.size := Nat.le_of_eq hH.symm
  clear hc hH
  have HS := Lib.hid hf
  have RG := Lib.hid hp.blk
  have hq_q11 := hp.le
  clear hf hp
  replace R_r := kj HS R_r (by omega)
  replace HF := ft HF HS
  replace R_gp := RG
  clear HS RG
  obtain ⟨al_v, cl_v, evl⟩ := hx_slice I_v.out
  subst evl
  obtain ⟨nl_v, hnl⟩ : ∃ n, List.length (List.map (fun s => [xb s]) x_v) = n := ⟨_, rfl⟩
  rw [hnl] at I_v ⊢
  clear hnl
  go_wp2_with fail
  by_cases hk_s : (l.getD q11 zTok).kind = 1
  ·
   simp only [hk_s, Re.andThen, run_bind, run_skip, run_must, run_take, Pr.run, next, if_true, if_false, Bool.false_eq_true] at HV
   refine (take_good (Par.of HP0.out HF.out R_gp.out hq_q11) (by decide) hk_s).mono ?_
   rintro e w13 ⟨rfl, hf, hp⟩
   obtain ⟨tx_s, htx⟩ : ∃ s, (l.getD q11 zTok).text = s := ⟨_, rfl⟩
   rw [htx]
   have hv := HV.out
   rw [htx] at hv
   replace HV := Lib.hid hv
   clear hv htx
   have HS := Lib.hid hf
   have RG := Lib.hid hp.blk
   have hq_q11P1 := hp.le
   clear hf hp
   replace R_r := kj HS R_r (by omega)
   replace I_v := ijx I_v HS (by omega)
   replace HF := ft HF HS
   replace Z_h_v := zt Z_h_v HS
   replace R_gp := RG
   clear HS RG
   go_wp2_with fail
   cases hm_eq : seesB (l.getD (q11 + 1) zTok) [⟨#[61]⟩] with
   | false =>
    simp only [hm_eq, Re.andThen, run_bind, run_skip, run_must, run_take, Pr.run, next, if_true, if_false, Bool.false_eq_true] at HV
    refine (must_bad (Par.of HP0.out HF.out R_gp.out hq_q11P1) hm_eq).mono ?_
    rintro e w14 ⟨rfl, hf, hp⟩
    have hv := HV.out
    subst hv
    exact ⟨rfl, rfl, HF.out.trans hf (fun _ _ h => h), hp⟩
   | true =>
    simp only [hm_eq, Re.andThen, run_bind, run_skip, run_must, run_take, Pr.run, next, if_true, if_false, Bool.false_eq_true] at HV
    refine (must_good (Par.of HP0.out HF.out R_gp.out hq_q11P1) hm_eq).mono ?_
    rintro e w15 ⟨rfl, hf, hp⟩
    have HS := Lib.hid hf
    have RG := Lib.hid hp.blk
    have hq_q11P1P1 := hp.le
    clear hf hp
    replace R_r := kj HS R_r (by omega)
    replace I_v := ijx I_v HS (by omega)
    replace HF := ft HF HS
    replace Z_h_v := zt Z_h_v HS
    replace R_gp := RG
    clear HS RG
    go_wp2_with fail
    cases hr_q : Pr.run l (some_ n ⟨#[124]⟩ g.con) ((q11 + 1) + 1) with
    | out =>
     simp only [hr_q, Re.andThen, run_bind, run_skip, run_must, run_take, Pr.run, next, if_true, if_false, Bool.false_eq_true] at HV
     exact absurd HV.out.symm HO.out
    | fail q =>
     simp only [hr_q, Re.andThen, run_bind, run_skip, run_must, run_take, Pr.run, next, if_true, if_false, Bool.false_eq_true] at HV
     refine (((some_con enters36 HH.out.con ⟨#[124]⟩ n)).bad (Par.of HP0.out HF.out R_gp.out hq_q11P1P1) hr_q).mono ?_
     rintro e w16 ⟨rfl, hf, hp⟩
     have hv := HV.out
     subst hv
     exact ⟨rfl, rfl, HF.out.trans hf (fun _ _ h => h), hp⟩
    | ok x_q q17 =>
     simp only [hr_q, Re.andThen, run_bind, run_skip, run_must, run_take, Pr.run, next, if_true, if_false, Bool.false_eq_true] at HV
     have hsz_q : gp < w15.heap.size := lt_of_block R_gp.out
     obtain ⟨b_q, hB⟩ : ∃ bZ, w15.heap.size = bZ := ⟨_, rfl⟩
     have K_gp_q := lb hB R_gp
     have K_r_q := lb hB R_r
     have KB_q := bs hB HF
     clear hsz_q
     refine (((some_con enters36 HH.out.con ⟨#[124]⟩ n)).good (Par.of HP0.out HF.out R_gp.out hq_q11P1P1) hr_q).mono ?_
     rintro e w18 ⟨⟨v_q, rfl, hc⟩, hf, hp⟩
     rw [hB] at hc
     clear hB
     obtain ⟨h_q, hH⟩ : ∃ hZ, w18.heap.size = hZ := ⟨_, rfl⟩
     have I_q := imx hH hc
     have Z_h_q : h_q ≤ w18.heap.size := Nat.le_of_eq hH.symm
     clear hc hH
     have HS := Lib.hid hf
     have RG := Lib.hid hp.blk
     have hq_q17 := hp.le
     clear hf hp
     replace R_r := kj HS R_r (by omega)
     replace I_v := ijx I_v HS (by omega)
     replace HF := ft HF HS
     replace Z_h_v := zt Z_h_v HS
     replace R_gp := RG
     clear HS RG
     obtain ⟨al_q, cl_q, evl⟩ := hx_slice I_q.out
     subst evl
     obtain ⟨nl_q, hnl⟩ : ∃ n, List.length (List.map xC x_q) = n := ⟨_, rfl⟩
     rw [hnl] at I_q ⊢
     clear hnl
     obtain ⟨d0_r, d1_r, d2_r, d3_r, d4_r, d5_r, d6_r, d7_r, d8_r, d9_r, d10_r, d11_r, d12_r, d13_r, d14_r, d15_r⟩ := z16c R_r.out
     obtain ⟨f0_r, f1_r, f2_r, f3_r, f4_r, f5_r, f6_r, f7_r, f8_r, f9_r, f10_r, f11_r, f12_r, f13_r, f14_r, f15_r⟩ := y16c R_r.out
     go_wp2_with fail
     clear d0_r f0_r d1_r f1_r d2_r f2_r d3_r f3_r d4_r f4_r d5_r f5_r d6_r f6_r d7_r f7_r d8_r f8_r d9_r f9_r d10_r f10_r d11_r f11_r d12_r f12_r d13_r f13_r d14_r f14_r d15_r f15_r
     obtain ⟨w19, hn⟩ : ∃ wZ, setFrom g_r 0 [.int .u8 1, .string tx_s, .slice al_v nl_v cl_v, .slice al_q nl_q cl_q, .slice none 0 0, .int .u8 0, .string ⟨#[]⟩, .int .i64 0, .slice none 0 0, .int .u8 0, .string ⟨#[]⟩, .int .i64 0, .string ⟨#[]⟩, .slice none 0 0, .slice none 0 0, .slice none 0 0] w18 = wZ := ⟨_, rfl⟩
     have R_r' := sf hn R_r rfl
     have HS := sg hn
     have he := hn
     simp only [setFrom, Nat.reduceAdd] at he
     rw [he]
     clear he
     clear hn
     replace R_gp := kj HS R_gp (by omega)
     replace I_v := ijx I_v HS (by omega)
     replace I_q := ijx I_q HS (by omega)
     replace HF := fb HF HS (by omega)
     replace Z_h_v := zt Z_h_v HS
     replace Z_h_q := zt Z_h_q HS
     have R_r := R_r'
     clear R_r' HS
     (try simp only [Exit.inBlock, Exit.then])
     have hv := HV.out
     subst hv
     refine bodyPost_ret (results_st rfl Tryd.underlying39 (by kernel_rfl) _ _ g_r _ rfl rfl R_r.out) rfl ?_
     exact ⟨⟨_, rfl, hcD_mk (c := [.int .u8 0, .string ⟨#[]⟩, .int .i64 0, .slice none 0 0]) (d := [.int .u8 0, .string ⟨#[]⟩, .int .i64 0, .string ⟨#[]⟩, .slice none 0 0, .slice none 0 0, .slice none 0 0]) 1 tx_s (I_v.out.mono (fun b _ hb => by have := hb.1; omega)) (I_q.out.mono (fun b _ hb => by have := hb.1; omega)) (hx_nil _) hc_zT hc_zE⟩, HF.out, (Par.of HP0.out HF.out R_gp.out hq_q17)⟩
  ·
   simp only [hk_s, Re.andThen, run_bind, run_skip, run_must, run_take, Pr.run, next, if_true, if_false, Bool.false_eq_true] at HV
   refine (take_bad (Par.of HP0.out HF.out R_gp.out hq_q11) (by decide) hk_s).mono ?_
   rintro e w20 ⟨rfl, hf, hp⟩
   have hv := HV.out
   subst hv
   exact ⟨rfl, rfl, HF.out.trans hf (fun _ _ h => h), hp⟩
set_option maxHeartbeats 8000000 in
set_option maxRecDepth 100000 in
theorem dec_exception {gp : Nat} {a : Option Addr} {c : Nat} {l : List Tok} {g : Gr} {n : Nat} (h : Oks gp a c l g) (w : World) (p : Nat) (hp0 : Par w gp a c l p) (ho : Pr.run l (g.pDec n true) p ≠ .out) (h_val : seesB (l.getD p zTok) [⟨#[118, 97, 108]⟩] = false) (h_fun : seesB (l.getD p zTok) [⟨#[102, 117, 110]⟩] = false) (h_do : seesB (l.getD p zTok) [⟨#[100, 111]⟩] = false) (h_datatype : seesB (l.getD p zTok) [⟨#[100, 97, 116, 97, 116, 121, 112, 101]⟩] = false) (h_exception : seesB (l.getD p zTok) [⟨#[101, 120, 99, 101, 112, 116, 105, 111, 110]⟩] = true) :
  Calls Tryd.prog 21 #[.pointer (some ⟨gp, 0, none⟩), .bool true] w (Post gp a c l w (stE xD w.heap.size) (Pr.run l (g.pDec n true) p)) := by
 have HO := Lib.hid ho
 have HP0 := Lib.hid hp0
 have HH := Lib.hid h
 have hq_p := hp0.le
 have hlen := hp0.len
 have HF : Hid (Fr (Just gp) w w) := Lib.hid (Fr.refl _ _)
 have R_gp : Hid (w.heap[gp]? = some (.cells #[.slice a l.length c, .int .i64 (p : Nat)] 60 (0, 0))) := Lib.hid hp0.blk
 obtain ⟨V, hV⟩ : ∃ V, Pr.run l ((g.pDec n true)) p = V := ⟨_, rfl⟩
 rw [hV] at HO ⊢
 clear ho hp0 h
 simp only [Gr.pDec, run_bind, run_skip, run_must, run_take, Pr.run, next, if_true, if_false, Bool.false_eq_true] at hV
 have HV := Lib.hid hV
 clear hV
 go_enter Tryd.func21, Tryd.ntmps21
 go_upto_region 1 with fail
 generalize hn : w.alloc _ = w1
 generalize hg : w.heap.size = g_r
 have HS := fa hn
 have R_r := nb hn hg
 have L_gp_r := lb hg R_gp
 have B_r := bs hg HF
 clear hn hg
 replace R_gp := kn HS R_gp
 replace HF := fn HF HS
 clear HS
 go_wp2_with fail
 generalize hn : w1.alloc _ = w2
 generalize hg : w1.heap.size = g_sk
 have HS := fa hn
 have R_sk := nb hn hg
 have L_gp_sk := lb hg R_gp
 have L_r_sk := lb hg R_r
 have B_sk := bs hg HF
 clear hn hg
 replace R_gp := kn HS R_gp
 replace R_r := kn HS R_r
 replace HF := fn HF HS
 clear HS
 have hb_sk := h_val
 simp only [hb_sk, Re.andThen, run_bind, run_skip, run_must, run_take, Pr.run, next, if_true, if_false, Bool.false_eq_true] at HV
 refine (sk_any (ts := [⟨#[118, 97, 108]⟩]) (n := 1) (Par.of HP0.out HF.out R_gp.out hq_p) R_sk.out rfl (by omega) hb_sk).mono ?_
 rintro e w3 ⟨rfl, hf, hp⟩
 replace hp : Par w3 gp a c l p := hp
 clear R_sk
 have HS := Lib.hid hf
 have RG := Lib.hid hp.blk
 have hq_p := hp.le
 clear hf hp
 replace R_r := kj HS R_r (by omega)
 replace HF := ft HF HS
 replace R_gp := RG
 clear HS RG
 go_wp2_with fail
 generalize hn : w3.alloc _ = w4
 generalize hg : w3.heap.size = g_sk
 have HS := fa hn
 have R_sk := nb hn hg
 have L_gp_sk := lb hg R_gp
 have L_r_sk := lb hg R_r
 have B_sk := bs hg HF
 clear hn hg
 replace R_gp := kn HS R_gp
 replace R_r := kn HS R_r
 replace HF := fn HF HS
 clear HS
 have hb_sk := h_fun
 simp only [hb_sk, Re.andThen, run_bind, run_skip, run_must, run_take, Pr.run, next, if_true, if_false, Bool.false_eq_true] at HV
 refine (sk_any (ts := [⟨#[102, 117, 110]⟩]) (n := 1) (Par.of HP0.out HF.out R_gp.out hq_p) R_sk.out rfl (by omega) hb_sk).mono ?_
 rintro e w5 ⟨rfl, hf, hp⟩
 replace hp : Par w5 gp a c l p := hp
 clear R_sk
 have HS := Lib.hid hf
 have RG := Lib.hid hp.blk
 have hq_p := hp.le
 clear hf hp
 replace R_r := kj HS R_r (by omega)
 replace HF := ft HF HS
 replace R_gp := RG
 clear HS RG
 go_wp2_with fail
 generalize hn : w5.alloc _ = w6
 generalize hg : w5.heap.size = g_sk
 have HS := fa hn
 have R_sk := nb hn hg
 have L_gp_sk := lb hg R_gp
 have L_r_sk := lb hg R_r
 have B_sk := bs hg HF
 clear hn hg
 replace R_gp := kn HS R_gp
 replace R_r := kn HS R_r
 replace HF := fn HF HS
 clear HS
 have hb_sk := h_do
 simp only [hb_sk, Re.andThen, run_bind, run_skip, run_must, run_take, Pr.run, next, if_true, if_false, Bool.false_eq_true] at HV
 refine (sk_any (ts := [⟨#[100, 111]⟩]) (n := 1) (Par.of HP0.out HF.out R_gp.out hq_p) R_sk.out rfl (by omega) hb_sk).mono ?_
 rintro e w7 ⟨rfl, hf, hp⟩
 replace hp : Par w7 gp a c l p := hp
 clear R_sk
 have HS := Lib.hid hf
 have RG := Lib.hid hp.blk
 have hq_p := hp.le
 clear hf hp
 replace R_r := kj HS R_r (by omega)
 replace HF := ft HF HS
 replace R_gp := RG
 clear HS RG
 simp only [Bool.true_eq_false, run_bind, run_skip, run_must, run_take, Pr.run, next, if_true, if_false, Bool.false_eq_true] at HV
 go_wp2_with fail
 generalize hn : w7.alloc _ = w8
 generalize hg : w7.heap.size = g_sk
 have HS := fa hn
 have R_sk := nb hn hg
 have L_gp_sk := lb hg R_gp
 have L_r_sk := lb hg R_r
 have B_sk := bs hg HF
 clear hn hg
 replace R_gp := kn HS R_gp
 replace R_r := kn HS R_r
 replace HF := fn HF HS
 clear HS
 have hb_sk := h_datatype
 simp only [hb_sk, Re.andThen, run_bind, run_skip, run_must, run_take, Pr.run, next, if_true, if_false, Bool.false_eq_true] at HV
 refine (sk_any (ts := [⟨#[100, 97, 116, 97, 116, 121, 112, 101]⟩]) (n := 1) (Par.of HP0.out HF.out R_gp.out hq_p) R_sk.out rfl (by omega) hb_sk).mono ?_
 rintro e w9 ⟨rfl, hf, hp⟩
 replace hp : Par w9 gp a c l p := hp
 clear R_sk
 have HS := Lib.hid hf
 have RG := Lib.hid hp.blk
 have hq_p := hp.le
 clear hf hp
 replace R_r := kj HS R_r (by omega)
 replace HF := ft HF HS
 replace R_gp := RG
 clear HS RG
 go_wp2_with fail
 generalize hn : w9.alloc _ = w10
 generalize hg : w9.heap.size = g_sk
 have HS := fa hn
 have R_sk := nb hn hg
 have L_gp_sk := lb hg R_gp
 have L_r_sk := lb hg R_r
 have B_sk := bs hg HF
 clear hn hg
 replace R_gp := kn HS R_gp
 replace R_r := kn HS R_r
 replace HF := fn HF HS
 clear HS
 have hb_sk := h_exception
 simp only [hb_sk, Re.andThen, run_bind, run_skip, run_must, run_take, Pr.run, next, if_true, if_false, Bool.false_eq_true] at HV
 refine (sk_any (ts := [⟨#[101, 120, 99, 101, 112, 116, 105, 111, 110]⟩]) (n := 1) (Par.of HP0.out HF.out R_gp.out hq_p) R_sk.out rfl (by omega) hb_sk).mono ?_
 rintro e w11 ⟨rfl, hf, hp⟩
 replace hp : Par w11 gp a c l (p + 1) := hp
 clear R_sk
 have HS := Lib.hid hf
 have RG := Lib.hid hp.blk
 have hq_pP1 := hp.le
 clear hf hp
 replace R_r := kj HS R_r (by omega)
 replace HF := ft HF HS
 replace R_gp := RG
 clear HS RG
 go_wp2_with fail
 cases hr_c : Pr.run l g.con (p + 1) with
 | out =>
  simp only [hr_c, Re.andThen, run_bind, run_skip, run_must, run_take, Pr.run, next, if_true, if_false, Bool.false_eq_true] at HV
  exact absurd HV.out.symm HO.out
 | fail q =>
  simp only [hr_c, Re.andThen, run_bind, run_skip, run_must, run_take, Pr.run, next, if_true, if_false, Bool.false_eq_true] at HV
  refine ((HH.out.con).bad (Par.of HP0.out HF.out R_gp.out hq_pP1) hr_c).mono ?_
  rintro e w12 ⟨rfl, hf, hp⟩
  have hv := HV.out
  subst hv
  exact ⟨rfl, rfl, HF.out.trans hf (fun _ _ h => h), hp⟩
 | ok x_c q13 =>
  simp only [hr_c, Re.andThen, run_bind, run_skip, run_must, run_take, Pr.run, next, if_true, if_false, Bool.false_eq_true] at HV
  have hsz_c : gp < w11.heap.size := lt_of_block R_gp.out
  obtain ⟨b_c, hB⟩ : ∃ bZ, w11.heap.size = bZ := ⟨_, rfl⟩
  have K_gp_c := lb hB R_gp
  have K_r_c := lb hB R_r
  have KB_c := bs hB HF
  clear hsz_c
  refine ((HH.out.con).good (Par.of HP0.out HF.out R_gp.out hq_pP1) hr_c).mono ?_
  rintro e w14 ⟨⟨cs_c, rfl, hc⟩, hf, hp⟩
  rw [hB] at hc
  clear hB
  obtain ⟨h_c, hH⟩ : ∃ hZ, w14.heap.size = hZ := ⟨_, rfl⟩
  have I_c := im hH hc
  have Z_h_c : h_c ≤ w14.heap.size := Nat.le_of_eq hH.symm
  clear hc hH
  have HS := Lib.hid hf
  have RG := Lib.hid hp.blk
  have hq_q13 := hp.le
  clear hf hp
  replace R_r := kj HS R_r (by omega)
  replace HF := ft HF HS
  replace R_gp := RG
  clear HS RG
  obtain ⟨z_c, y_c, k_c, s_c, n_c, a_c, m_c, c_c, ecs⟩ := hcC I_c.out
  subst ecs
  obtain ⟨d0_r, d1_r, d2_r, d3_r, d4_r, d5_r, d6_r, d7_r, d8_r, d9_r, d10_r, d11_r, d12_r, d13_r, d14_r, d15_r⟩ := z16c R_r.out
  obtain ⟨f0_r, f1_r, f2_r, f3_r, f4_r, f5_r, f6_r, f7_r, f8_r, f9_r, f10_r, f11_r, f12_r, f13_r, f14_r, f15_r⟩ := y16c R_r.out
  have hltr : g_r < w14.heap.size := lt_of_block R_r.out
  go_wp2_with fail
  clear d0_r f0_r d1_r f1_r d2_r f2_r d3_r f3_r d4_r f4_r d5_r f5_r d6_r f6_r d7_r f7_r d8_r f8_r d9_r f9_r d10_r f10_r d11_r f11_r d12_r f12_r d13_r f13_r d14_r f14_r d15_r f15_r
  clear hltr
  obtain ⟨g_arr, hg⟩ : ∃ gZ, w14.heap.size = gZ := ⟨_, rfl⟩
  rw [hg]
  have L_gp_arr := lb hg R_gp
  have L_r_arr := lb hg R_r
  have B_arr := bs hg HF
  have M_h_c_arr := mz hg Z_h_c
  obtain ⟨w15, hn⟩ : ∃ wZ, setFrom g_r 0 [.int .u8 2, .string ⟨#[]⟩, .slice none 0 0, .slice (some ⟨g_arr, 0, none⟩) 1 1, .slice none 0 0, .int .u8 0, .string ⟨#[]⟩, .int .i64 0, .slice none 0 0, .int .u8 0, .string ⟨#[]⟩, .int .i64 0, .string ⟨#[]⟩, .slice none 0 0, .slice none 0 0, .slice none 0 0] w14 = wZ := ⟨_, rfl⟩
  have R_r' := sf hn R_r rfl
  have HS := sg hn
  have he := hn
  simp only [setFrom, Nat.reduceAdd] at he
  rw [he]
  clear he
  have hsz := (congrArg (fun w => w.heap.size) hn).symm.trans ((setFrom_size _ _ _ _).trans hg)
  clear hg
  (try dsimp only at hsz)
  clear hn
  replace R_gp := kj HS R_gp (by omega)
  replace I_c := ij I_c HS (by omega)
  replace HF := fb HF HS (by omega)
  replace Z_h_c := zt Z_h_c HS
  have R_r := R_r'
  clear R_r' HS
  obtain ⟨w16, hn⟩ : ∃ wZ, w15.alloc (.cells #[.string z_c, .bool y_c, .int .u8 k_c, .string s_c, .int .i64 n_c, .slice a_c m_c c_c] 86) = wZ := ⟨_, rfl⟩
  rw [hn]
  have HS := fa hn
  have R_arr : Hid (w16.heap[g_arr]? = some (.cells #[.string z_c, .bool y_c, .int .u8 k_c, .string s_c, .int .i64 n_c, .slice a_c m_c c_c] 86 (0, 0))) := Lib.hid (by rw [← hn, ← hsz]; exact new_block _ _)
  clear hn hsz
  replace R_gp := kn HS R_gp
  replace R_r := kn HS R_r
  replace I_c := ik I_c HS
  replace HF := fn HF HS
  replace Z_h_c := zt Z_h_c HS
  clear HS
  (try simp only [Exit.inBlock, Exit.then])
  have hv := HV.out
  subst hv
  refine bodyPost_ret (results_st rfl Tryd.underlying39 (by kernel_rfl) _ _ g_r _ rfl rfl R_r.out) rfl ?_
  exact ⟨⟨_, rfl, hcD_mk (c := [.int .u8 0, .string ⟨#[]⟩, .int .i64 0, .slice none 0 0]) (d := [.int .u8 0, .string ⟨#[]⟩, .int .i64 0, .string ⟨#[]⟩, .slice none 0 0, .slice none 0 0, .slice none 0 0]) 2 nob (hx_nil _) (hx_one (c := [.string z_c, .bool y_c, .int .u8 k_c, .string s_c, .int .i64 n_c, .slice a_c m_c c_c]) R_arr.out B_arr rfl (by decide) (I_c.out.mono (fun b _ hb => by have := hb.1; omega))) (hx_nil _) hc_zT hc_zE⟩, HF.out, (Par.of HP0.out HF.out R_gp.out hq_q13)⟩
end Go.Proofs.YtjabhmepafofmaaDoor
