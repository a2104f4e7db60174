/- Declarations. -/
import Derived.Test.YtjabhmepafofmaaDoorG02
import Derived.Test.YtjabhmepafofmaaDoorG05
import Derived.Test.YtjabhmepafofmaaDoorG03
set_option linter.unusedVariables false
set_option linter.unusedSimpArgs false
namespace Go.Proofs.YtjabhmepafofmaaDoor
open Go.RowKit

set_option maxHeartbeats 8000000 in
set_option maxRecDepth 100000 in
theorem dec_val {gp : Nat} {a : Option Addr} {c : Nat} {l : List Tok} {g : Gr} {n : Nat} {wh : Bool} (h : Oks gp a c l g) (w : World) (p : Nat) (hp0 : Par w gp a c l p) (ho : Pr.run l (g.pDec n wh) p ≠ .out) (h_val : seesB (l.getD p zTok) [⟨#[118, 97, 108]⟩] = true) :
  Calls Tryd.prog 21 #[.pointer (some ⟨gp, 0, none⟩), .bool wh] w (Post gp a c l w (stE xD w.heap.size) (Pr.run l (g.pDec n wh) p)) := by
 have HO := Lib.hid ho
 have HP0 := Lib.hid hp0
 have HH := Lib.hid h
 have hq_p := hp0.le
 have hlen := hp0.len
 have HF : Hid (Fr (Just gp) w w) := Lib.hid (Fr.refl _ _)
 have R_gp : Hid (w.heap[gp]? = some (.cells #[.slice a l.length c, .int .i64 (p : Nat)] 60 (0, 0))) := Lib.hid hp0.blk
 obtain ⟨V, hV⟩ : ∃ V, Pr.run l ((g.pDec n wh)) p = V := ⟨_, rfl⟩
 rw [hV] at HO ⊢
 clear ho hp0 h
 simp only [Gr.pDec, run_bind, run_skip, run_must, run_take, Pr.run, next, if_true, if_false, Bool.false_eq_true] at hV
 have HV := Lib.hid hV
 clear hV
 go_enter Tryd.func21, Tryd.ntmps21
 go_upto_region 1 with fail
 generalize hn : w.alloc _ = w1
 generalize hg : w.heap.size = g_r
 have HS := fa hn
 have R_r := nb hn hg
 have L_gp_r := lb hg R_gp
 have B_r := bs hg HF
 clear hn hg
 replace R_gp := kn HS R_gp
 replace HF := fn HF HS
 clear HS
 go_wp2_with fail
 generalize hn : w1.alloc _ = w2
 generalize hg : w1.heap.size = g_sk
 have HS := fa hn
 have R_sk := nb hn hg
 have L_gp_sk := lb hg R_gp
 have L_r_sk := lb hg R_r
 have B_sk := bs hg HF
 clear hn hg
 replace R_gp := kn HS R_gp
 replace R_r := kn HS R_r
 replace HF := fn HF HS
 clear HS
 have hb_sk := h_val
 simp only [hb_sk, Re.andThen, run_bind, run_skip, run_must, run_take, Pr.run, next, if_true, if_false, Bool.false_eq_true] at HV
 refine (sk_any (ts := [⟨#[118, 97, 108]⟩]) (n := 1) (Par.of HP0.out HF.out R_gp.out hq_p) R_sk.out rfl (by omega) hb_sk).mono ?_
 rintro e w3 ⟨rfl, hf, hp⟩
 replace hp : Par w3 gp a c l (p + 1) := hp
 clear R_sk
 have HS := Lib.hid hf
 have RG := Lib.hid hp.blk
 have hq_pP1 := hp.le
 clear hf hp
 replace R_r := kj HS R_r (by omega)
 replace HF := ft HF HS
 replace R_gp := RG
 clear HS RG
 go_wp2_with fail
 by_cases hk_s : (l.getD (p + 1) zTok).kind = 1
 ·
  simp only [hk_s, Re.andThen, run_bind, run_skip, run_must, run_take, Pr.run, next, if_true, if_false, Bool.false_eq_true] at HV
  refine (take_good (Par.of HP0.out HF.out R_gp.out hq_pP1) (by decide) hk_s).mono ?_
  rintro e w4 ⟨rfl, hf, hp⟩
  obtain ⟨tx_s, htx⟩ : ∃ s, (l.getD (p + 1) zTok).text = s := ⟨_, rfl⟩
  rw [htx]
  have hv := HV.out
  rw [htx] at hv
  replace HV := Lib.hid hv
  clear hv htx
  have HS := Lib.hid hf
  have RG := Lib.hid hp.blk
  have hq_pP1P1 := hp.le
  clear hf hp
  replace R_r := kj HS R_r (by omega)
  replace HF := ft HF HS
  replace R_gp := RG
  clear HS RG
  go_wp2_with fail
  cases hm_eq : seesB (l.getD ((p + 1) + 1) zTok) [⟨#[61]⟩] with
  | false =>
   simp only [hm_eq, Re.andThen, run_bind, run_skip, run_must, run_take, Pr.run, next, if_true, if_false, Bool.false_eq_true] at HV
   refine (must_bad (Par.of HP0.out HF.out R_gp.out hq_pP1P1) hm_eq).mono ?_
   rintro e w5 ⟨rfl, hf, hp⟩
   have hv := HV.out
   subst hv
   exact ⟨rfl, rfl, HF.out.trans hf (fun _ _ h => h), hp⟩
  | true =>
   simp only [hm_eq, Re.andThen, run_bind, run_skip, run_must, run_take, Pr.run, next, if_true, if_false, Bool.false_eq_true] at HV
   refine (must_good (Par.of HP0.out HF.out R_gp.out hq_pP1P1) hm_eq).mono ?_
   rintro e w6 ⟨rfl, hf, hp⟩
   have HS := Lib.hid hf
   have RG := Lib.hid hp.blk
   have hq_pP1P1P1 := hp.le
   clear hf hp
   replace R_r := kj HS R_r (by omega)
   replace HF := ft HF HS
   replace R_gp := RG
   clear HS RG
   go_wp2_with fail
   cases hr_e : Pr.run l g.exp (((p + 1) + 1) + 1) with
   | out =>
    simp only [hr_e, Re.andThen, run_bind, run_skip, run_must, run_take, Pr.run, next, if_true, if_false, Bool.false_eq_true] at HV
    exact absurd HV.out.symm HO.out
   | fail q =>
    simp only [hr_e, Re.andThen, run_bind, run_skip, run_must, run_take, Pr.run, next, if_true, if_false, Bool.false_eq_true] at HV
    refine ((HH.out.exp).bad (Par.of HP0.out HF.out R_gp.out hq_pP1P1P1) hr_e).mono ?_
    rintro e w7 ⟨rfl, hf, hp⟩
    have hv := HV.out
    subst hv
    exact ⟨rfl, rfl, HF.out.trans hf (fun _ _ h => h), hp⟩
   | ok x_e q8 =>
    simp only [hr_e, Re.andThen, run_bind, run_skip, run_must, run_take, Pr.run, next, if_true, if_false, Bool.false_eq_true] at HV
    have hsz_e : gp < w6.heap.size := lt_of_block R_gp.out
    obtain ⟨b_e, hB⟩ : ∃ bZ, w6.heap.size = bZ := ⟨_, rfl⟩
    have K_gp_e := lb hB R_gp
    have K_r_e := lb hB R_r
    have KB_e := bs hB HF
    clear hsz_e
    refine ((HH.out.exp).good (Par.of HP0.out HF.out R_gp.out hq_pP1P1P1) hr_e).mono ?_
    rintro e w9 ⟨⟨cs_e, rfl, hc⟩, hf, hp⟩
    rw [hB] at hc
    clear hB
    obtain ⟨h_e, hH⟩ : ∃ hZ, w9.heap.size = hZ := ⟨_, rfl⟩
    have I_e := im hH hc
    have Z_h_e : h_e ≤ w9.heap.size := Nat.le_of_eq hH.symm
    clear hc hH
    have HS := Lib.hid hf
    have RG := Lib.hid hp.blk
    have hq_q8 := hp.le
    clear hf hp
    replace R_r := kj HS R_r (by omega)
    replace HF := ft HF HS
    replace R_gp := RG
    clear HS RG
    obtain ⟨k_e, s_e, n_e, u_e, a1_e, m1_e, c1_e, a2_e, m2_e, c2_e, a3_e, m3_e, c3_e, ecs⟩ := hcE I_e.out
    subst ecs
    obtain ⟨d0_r, d1_r, d2_r, d3_r, d4_r, d5_r, d6_r, d7_r, d8_r, d9_r, d10_r, d11_r, d12_r, d13_r, d14_r, d15_r⟩ := z16c R_r.out
    obtain ⟨f0_r, f1_r, f2_r, f3_r, f4_r, f5_r, f6_r, f7_r, f8_r, f9_r, f10_r, f11_r, f12_r, f13_r, f14_r, f15_r⟩ := y16c R_r.out
    go_wp2_with fail
    clear d0_r f0_r d1_r f1_r d2_r f2_r d3_r f3_r d4_r f4_r d5_r f5_r d6_r f6_r d7_r f7_r d8_r f8_r d9_r f9_r d10_r f10_r d11_r f11_r d12_r f12_r d13_r f13_r d14_r f14_r d15_r f15_r
    obtain ⟨w10, hn⟩ : ∃ wZ, setFrom g_r 0 [.int .u8 3, .string tx_s, .slice none 0 0, .slice none 0 0, .slice none 0 0, .int .u8 0, .string ⟨#[]⟩, .int .i64 0, .slice none 0 0, .int .u8 k_e, .string s_e, .int .i64 n_e, .string u_e, .slice a1_e m1_e c1_e, .slice a2_e m2_e c2_e, .slice a3_e m3_e c3_e] w9 = wZ := ⟨_, rfl⟩
    have R_r' := sf hn R_r rfl
    have HS := sg hn
    have he := hn
    simp only [setFrom, Nat.reduceAdd] at he
    rw [he]
    clear he
    clear hn
    replace R_gp := kj HS R_gp (by omega)
    replace I_e := ij I_e HS (by omega)
    replace HF := fb HF HS (by omega)
    replace Z_h_e := zt Z_h_e HS
    have R_r := R_r'
    clear R_r' HS
    (try simp only [Exit.inBlock, Exit.then])
    have hv := HV.out
    subst hv
    refine bodyPost_ret (results_st rfl Tryd.underlying39 (by kernel_rfl) _ _ g_r _ rfl rfl R_r.out) rfl ?_
    exact ⟨⟨_, rfl, hcD_mk (c := [.int .u8 0, .string ⟨#[]⟩, .int .i64 0, .slice none 0 0]) (d := [.int .u8 k_e, .string s_e, .int .i64 n_e, .string u_e, .slice a1_e m1_e c1_e, .slice a2_e m2_e c2_e, .slice a3_e m3_e c3_e]) 3 tx_s (hx_nil _) (hx_nil _) (hx_nil _) hc_zT (I_e.out.mono (fun b _ hb => by have := hb.1; omega))⟩, HF.out, (Par.of HP0.out HF.out R_gp.out hq_q8)⟩
 ·
  simp only [hk_s, Re.andThen, run_bind, run_skip, run_must, run_take, Pr.run, next, if_true, if_false, Bool.false_eq_true] at HV
  refine (take_bad (Par.of HP0.out HF.out R_gp.out hq_pP1) (by decide) hk_s).mono ?_
  rintro e w11 ⟨rfl, hf, hp⟩
  have hv := HV.out
  subst hv
  exact ⟨rfl, rfl, HF.out.trans hf (fun _ _ h => h), hp⟩
set_option maxHeartbeats 8000000 in
set_option maxRecDepth 100000 in
theorem dec_fun {gp : Nat} {a : Option Addr} {c : Nat} {l : List Tok} {g : Gr} {n : Nat} {wh : Bool} (h : Oks gp a c l g) (w : World) (p : Nat) (hp0 : Par w gp a c l p) (ho : Pr.run l (g.pDec n wh) p ≠ .out) (h_val : seesB (l.getD p zTok) [⟨#[118, 97, 108]⟩] = false) (h_fun : seesB (l.getD p zTok) [⟨#[102, 117, 110]⟩] = true) :
  Calls Tryd.prog 21 #[.pointer (some ⟨gp, 0, none⟩), .bool wh] w (Post gp a c l w (stE xD w.heap.size) (Pr.run l (g.pDec n wh) p)) := by
 have HO := Lib.hid ho
 have HP0 := Lib.hid hp0
 have HH := Lib.hid h
 have hq_p := hp0.le
 have hlen := hp0.len
 have HF : Hid (Fr (Just gp) w w) := Lib.hid (Fr.refl _ _)
 have R_gp : Hid (w.heap[gp]? = some (.cells #[.slice a l.length c, .int .i64 (p : Nat)] 60 (0, 0))) := Lib.hid hp0.blk
 obtain ⟨V, hV⟩ : ∃ V, Pr.run l ((g.pDec n wh)) p = V := ⟨_, rfl⟩
 rw [hV] at HO ⊢
 clear ho hp0 h
 simp only [Gr.pDec, run_bind, run_skip, run_must, run_take, Pr.run, next, if_true, if_false, Bool.false_eq_true] at hV
 have HV := Lib.hid hV
 clear hV
 go_enter Tryd.func21, Tryd.ntmps21
 go_upto_region 1 with fail
 generalize hn : w.alloc _ = w1
 generalize hg : w.heap.size = g_r
 have HS := fa hn
 have R_r := nb hn hg
 have L_gp_r := lb hg R_gp
 have B_r := bs hg HF
 clear hn hg
 replace R_gp := kn HS R_gp
 replace HF := fn HF HS
 clear HS
 go_wp2_with fail
 generalize hn : w1.alloc _ = w2
 generalize hg : w1.heap.size = g_sk
 have HS := fa hn
 have R_sk := nb hn hg
 have L_gp_sk := lb hg R_gp
 have L_r_sk := lb hg R_r
 have B_sk := bs hg HF
 clear hn hg
 replace R_gp := kn HS R_gp
 replace R_r := kn HS R_r
 replace HF := fn HF HS
 clear HS
 have hb_sk := h_val
 simp only [hb_sk, Re.andThen, run_bind, run_skip, run_must, run_take, Pr.run, next, if_true, if_false, Bool.false_eq_true] at HV
 refine (sk_any (ts := [⟨#[118, 97, 108]⟩]) (n := 1) (Par.of HP0.out HF.out R_gp.out hq_p) R_sk.out rfl (by omega) hb_sk).mono ?_
 rintro e w3 ⟨rfl, hf, hp⟩
 replace hp : Par w3 gp a c l p := hp
 clear R_sk
 have HS := Lib.hid hf
 have RG := Lib.hid hp.blk
 have hq_p := hp.le
 clear hf hp
 replace R_r := kj HS R_r (by omega)
 replace HF := ft HF HS
 replace R_gp := RG
 clear HS RG
 go_wp2_with fail
 generalize hn : w3.alloc _ = w4
 generalize hg : w3.heap.size = g_sk
 have HS := fa hn
 have R_sk := nb hn hg
 have L_gp_sk := lb hg R_gp
 have L_r_sk := lb hg R_r
 have B_sk := bs hg HF
 clear hn hg
 replace R_gp := kn HS R_gp
 replace R_r := kn HS R_r
 replace HF := fn HF HS
 clear HS
 have hb_sk := h_fun
 simp only [hb_sk, Re.andThen, run_bind, run_skip, run_must, run_take, Pr.run, next, if_true, if_false, Bool.false_eq_true] at HV
 refine (sk_any (ts := [⟨#[102, 117, 110]⟩]) (n := 1) (Par.of HP0.out HF.out R_gp.out hq_p) R_sk.out rfl (by omega) hb_sk).mono ?_
 rintro e w5 ⟨rfl, hf, hp⟩
 replace hp : Par w5 gp a c l (p + 1) := hp
 clear R_sk
 have HS := Lib.hid hf
 have RG := Lib.hid hp.blk
 have hq_pP1 := hp.le
 clear hf hp
 replace R_r := kj HS R_r (by omega)
 replace HF := ft HF HS
 replace R_gp := RG
 clear HS RG
 go_wp2_with fail
 cases hr_q : Pr.run l (some_ n ⟨#[97, 110, 100]⟩ g.fun_) (p + 1) with
 | out =>
  simp only [hr_q, Re.andThen, run_bind, run_skip, run_must, run_take, Pr.run, next, if_true, if_false, Bool.false_eq_true] at HV
  exact absurd HV.out.symm HO.out
 | fail q =>
  simp only [hr_q, Re.andThen, run_bind, run_skip, run_must, run_take, Pr.run, next, if_true, if_false, Bool.false_eq_true] at HV
  refine (((some_fun enters33 HH.out.fun_ ⟨#[97, 110, 100]⟩ n)).bad (Par.of HP0.out HF.out R_gp.out hq_pP1) hr_q).mono ?_
  rintro e w6 ⟨rfl, hf, hp⟩
  have hv := HV.out
  subst hv
  exact ⟨rfl, rfl, HF.out.trans hf (fun _ _ h => h), hp⟩
 | ok x_q q7 =>
  simp only [hr_q, Re.andThen, run_bind, run_skip, run_must, run_take, Pr.run, next, if_true, if_false, Bool.false_eq_true] at HV
  have hsz_q : gp < w5.heap.size := lt_of_block R_gp.out
  obtain ⟨b_q, hB⟩ : ∃ bZ, w5.heap.size = bZ := ⟨_, rfl⟩
  have K_gp_q := lb hB R_gp
  have K_r_q := lb hB R_r
  have KB_q := bs hB HF
  clear hsz_q
  refine (((some_fun enters33 HH.out.fun_ ⟨#[97, 110, 100]⟩ n)).good (Par.of HP0.out HF.out R_gp.out hq_pP1) hr_q).mono ?_
  rintro e w8 ⟨⟨v_q, rfl, hc⟩, hf, hp⟩
  rw [hB] at hc
  clear hB
  obtain ⟨h_q, hH⟩ : ∃ hZ, w8.heap.size = hZ := ⟨_, rfl⟩
  have I_q := imx hH hc
  have Z_h_q : h_q ≤ w8.heap.size := Nat.le_of_eq hH.symm
  clear hc hH
  have HS := Lib.hid hf
  have RG := Lib.hid hp.blk
  have hq_q7 := hp.le
  clear hf hp
  replace R_r := kj HS R_r (by omega)
  replace HF := ft HF HS
  replace R_gp := RG
  clear HS RG
  obtain ⟨al_q, cl_q, evl⟩ := hx_slice I_q.out
  subst evl
  obtain ⟨nl_q, hnl⟩ : ∃ n, List.length (List.map xF x_q) = n := ⟨_, rfl⟩
  rw [hnl] at I_q ⊢
  clear hnl
  obtain ⟨d0_r, d1_r, d2_r, d3_r, d4_r, d5_r, d6_r, d7_r, d8_r, d9_r, d10_r, d11_r, d12_r, d13_r, d14_r, d15_r⟩ := z16c R_r.out
  obtain ⟨f0_r, f1_r, f2_r, f3_r, f4_r, f5_r, f6_r, f7_r, f8_r, f9_r, f10_r, f11_r, f12_r, f13_r, f14_r, f15_r⟩ := y16c R_r.out
  go_wp2_with fail
  clear d0_r f0_r d1_r f1_r d2_r f2_r d3_r f3_r d4_r f4_r d5_r f5_r d6_r f6_r d7_r f7_r d8_r f8_r d9_r f9_r d10_r f10_r d11_r f11_r d12_r f12_r d13_r f13_r d14_r f14_r d15_r f15_r
  obtain ⟨w9, hn⟩ : ∃ wZ, setFrom g_r 0 [.int .u8 4, .string ⟨#[]⟩, .slice none 0 0, .slice none 0 0, .slice al_q nl_q cl_q, .int .u8 0, .string ⟨#[]⟩, .int .i64 0, .slice none 0 0, .int .u8 0, .string ⟨#[]⟩, .int .i64 0, .string ⟨#[]⟩, .slice none 0 0, .slice none 0 0, .slice none 0 0] w8 = wZ := ⟨_, rfl⟩
  have R_r' := sf hn R_r rfl
  have HS := sg hn
  have he := hn
  simp only [setFrom, Nat.reduceAdd] at he
  rw [he]
  clear he
  clear hn
  replace R_gp := kj HS R_gp (by omega)
  replace I_q := ijx I_q HS (by omega)
  replace HF := fb HF HS (by omega)
  replace Z_h_q := zt Z_h_q HS
  have R_r := R_r'
  clear R_r' HS
  (try simp only [Exit.inBlock, Exit.then])
  have hv := HV.out
  subst hv
  refine bodyPost_ret (results_st rfl Tryd.underlying39 (by kernel_rfl) _ _ g_r _ rfl rfl R_r.out) rfl ?_
  exact ⟨⟨_, rfl, hcD_mk (c := [.int .u8 0, .string ⟨#[]⟩, .int .i64 0, .slice none 0 0]) (d := [.int .u8 0, .string ⟨#[]⟩, .int .i64 0, .string ⟨#[]⟩, .slice none 0 0, .slice none 0 0, .slice none 0 0]) 4 nob (hx_nil _) (hx_nil _) (I_q.out.mono (fun b _ hb => by have := hb.1; omega)) hc_zT hc_zE⟩, HF.out, (Par.of HP0.out HF.out R_gp.out hq_q7)⟩
set_option maxHeartbeats 8000000 in
set_option maxRecDepth 100000 in
theorem dec_do {gp : Nat} {a : Option Addr} {c : Nat} {l : List Tok} {g : Gr} {n : Nat} {wh : Bool} (h : Oks gp a c l g) (w : World) (p : Nat) (hp0 : Par w gp a c l p) (ho : Pr.run l (g.pDec n wh) p ≠ .out) (h_val : seesB (l.getD p zTok) [⟨#[118, 97, 108]⟩] = false) (h_fun : seesB (l.getD p zTok) [⟨#[102, 117, 110]⟩] = false) (h_do : seesB (l.getD p zTok) [⟨#[100, 111]⟩] = true) :
  Calls Tryd.prog 21 #[.pointer (some ⟨gp, 0, none⟩), .bool wh] w (Post gp a c l w (stE xD w.heap.size) (Pr.run l (g.pDec n wh) p)) := by
 have HO := Lib.hid ho
 have HP0 := Lib.hid hp0
 have HH := Lib.hid h
 have hq_p := hp0.le
 have hlen := hp0.len
 have HF : Hid (Fr (Just gp) w w) := Lib.hid (Fr.refl _ _)
 have R_gp : Hid (w.heap[gp]? = some (.cells #[.slice a l.length c, .int .i64 (p : Nat)] 60 (0, 0))) := Lib.hid hp0.blk
 obtain ⟨V, hV⟩ : ∃ V, Pr.run l ((g.pDec n wh)) p = V := ⟨_, rfl⟩
 rw [hV] at HO ⊢
 clear ho hp0 h
 simp only [Gr.pDec, run_bind, run_skip, run_must, run_take, Pr.run, next, if_true, if_false, Bool.false_eq_true] at hV
 have HV := Lib.hid hV
 clear hV
 go_enter Tryd.func21, Tryd.ntmps21
 go_upto_region 1 with fail
 generalize hn : w.alloc _ = w1
 generalize hg : w.heap.size = g_r
 have HS := fa hn
 have R_r := nb hn hg
 have L_gp_r := lb hg R_gp
 have B_r := bs hg HF
 clear hn hg
 replace R_gp := kn HS R_gp
 replace HF := fn HF HS
 clear HS
 go_wp2_with fail
 generalize hn : w1.alloc _ = w2
 generalize hg : w1.heap.size = g_sk
 have HS := fa hn
 have R_sk := nb hn hg
 have L_gp_sk := lb hg R_gp
 have L_r_sk := lb hg R_r
 have B_sk := bs hg HF
 clear hn hg
 replace R_gp := kn HS R_gp
 replace R_r := kn HS R_r
 replace HF := fn HF HS
 clear HS
 have hb_sk := h_val
 simp only [hb_sk, Re.andThen, run_bind, run_skip, run_must, run_take, Pr.run, next, if_true, if_false, Bool.false_eq_true] at HV
 refine (sk_any (ts := [⟨#[118, 97, 108]⟩]) (n := 1) (Par.of HP0.out HF.out R_gp.out hq_p) R_sk.out rfl (by omega) hb_sk).mono ?_
 rintro e w3 ⟨rfl, hf, hp⟩
 replace hp : Par w3 gp a c l p := hp
 clear R_sk
 have HS := Lib.hid hf
 have RG := Lib.hid hp.blk
 have hq_p := hp.le
 clear hf hp
 replace R_r := kj HS R_r (by omega)
 replace HF := ft HF HS
 replace R_gp := RG
 clear HS RG
 go_wp2_with fail
 generalize hn : w3.alloc _ = w4
 generalize hg : w3.heap.size = g_sk
 have HS := fa hn
 have R_sk := nb hn hg
 have L_gp_sk := lb hg R_gp
 have L_r_sk := lb hg R_r
 have B_sk := bs hg HF
 clear hn hg
 replace R_gp := kn HS R_gp
 replace R_r := kn HS R_r
 replace HF := fn HF HS
 clear HS
 have hb_sk := h_fun
 simp only [hb_sk, Re.andThen, run_bind, run_skip, run_must, run_take, Pr.run, next, if_true, if_false, Bool.false_eq_true] at HV
 refine (sk_any (ts := [⟨#[102, 117, 110]⟩]) (n := 1) (Par.of HP0.out HF.out R_gp.out hq_p) R_sk.out rfl (by omega) hb_sk).mono ?_
 rintro e w5 ⟨rfl, hf, hp⟩
 replace hp : Par w5 gp a c l p := hp
 clear R_sk
 have HS := Lib.hid hf
 have RG := Lib.hid hp.blk
 have hq_p := hp.le
 clear hf hp
 replace R_r := kj HS R_r (by omega)
 replace HF := ft HF HS
 replace R_gp := RG
 clear HS RG
 go_wp2_with fail
 generalize hn : w5.alloc _ = w6
 generalize hg : w5.heap.size = g_sk
 have HS := fa hn
 have R_sk := nb hn hg
 have L_gp_sk := lb hg R_gp
 have L_r_sk := lb hg R_r
 have B_sk := bs hg HF
 clear hn hg
 replace R_gp := kn HS R_gp
 replace R_r := kn HS R_r
 replace HF := fn HF HS
 clear HS
 have hb_sk := h_do
 simp only [hb_sk, Re.andThen, run_bind, run_skip, run_must, run_take, Pr.run, next, if_true, if_false, Bool.false_eq_true] at HV
 refine (sk_any (ts := [⟨#[100, 111]⟩]) (n := 1) (Par.of HP0.out HF.out R_gp.out hq_p) R_sk.out rfl (by omega) hb_sk).mono ?_
 rintro e w7 ⟨rfl, hf, hp⟩
 replace hp : Par w7 gp a c l (p + 1) := hp
 clear R_sk
 have HS := Lib.hid hf
 have RG := Lib.hid hp.blk
 have hq_pP1 := hp.le
 clear hf hp
 replace R_r := kj HS R_r (by omega)
 replace HF := ft HF HS
 replace R_gp := RG
 clear HS RG
 go_wp2_with fail
 cases hr_e : Pr.run l g.exp (p + 1) with
 | out =>
  simp only [hr_e, Re.andThen, run_bind, run_skip, run_must, run_take, Pr.run, next, if_true, if_false, Bool.false_eq_true] at HV
  exact absurd HV.out.symm HO.out
 | fail q =>
  simp only [hr_e, Re.andThen, run_bind, run_skip, run_must, run_take, Pr.run, next, if_true, if_false, Bool.false_eq_true] at HV
  refine ((HH.out.exp).bad (Par.of HP0.out HF.out R_gp.out hq_pP1) hr_e).mono ?_
  rintro e w8 ⟨rfl, hf, hp⟩
  have hv := HV.out
  subst hv
  exact ⟨rfl, rfl, HF.out.trans hf (fun _ _ h => h), hp⟩
 | ok x_e q9 =>
  simp only [hr_e, Re.andThen, run_bind, run_skip, run_must, run_take, Pr.run, next, if_true, if_false, Bool.false_eq_true] at HV
  have hsz_e : gp < w7.heap.size := lt_of_block R_gp.out
  obtain ⟨b_e, hB⟩ : ∃ bZ, w7.heap.size = bZ := ⟨_, rfl⟩
  have K_gp_e := lb hB R_gp
  have K_r_e := lb hB R_r
  have KB_e := bs hB HF
  clear hsz_e
  refine ((HH.out.exp).good (Par.of HP0.out HF.out R_gp.out hq_pP1) hr_e).mono ?_
  rintro e w10 ⟨⟨cs_e, rfl, hc⟩, hf, hp⟩
  rw [hB] at hc
  clear hB
  obtain ⟨h_e, hH⟩ : ∃ hZ, w10.heap.size = hZ := ⟨_, rfl⟩
  have I_e := im hH hc
  have Z_h_e : h_e ≤ w10.heap.size := Nat.le_of_eq hH.symm
  clear hc hH
  have HS := Lib.hid hf
  have RG := Lib.hid hp.blk
  have hq_q9 := hp.le
  clear hf hp
  replace R_r := kj HS R_r (by omega)
  replace HF := ft HF HS
  replace R_gp := RG
  clear HS RG
  obtain ⟨k_e, s_e, n_e, u_e, a1_e, m1_e, c1_e, a2_e, m2_e, c2_e, a3_e, m3_e, c3_e, ecs⟩ := hcE I_e.out
  subst ecs
  obtain ⟨d0_r, d1_r, d2_r, d3_r, d4_r, d5_r, d6_r, d7_r, d8_r, d9_r, d10_r, d11_r, d12_r, d13_r, d14_r, d15_r⟩ := z16c R_r.out
  obtain ⟨f0_r, f1_r, f2_r, f3_r, f4_r, f5_r, f6_r, f7_r, f8_r, f9_r, f10_r, f11_r, f12_r, f13_r, f14_r, f15_r⟩ := y16c R_r.out
  go_wp2_with fail
  clear d0_r f0_r d1_r f1_r d2_r f2_r d3_r f3_r d4_r f4_r d5_r f5_r d6_r f6_r d7_r f7_r d8_r f8_r d9_r f9_r d10_r f10_r d11_r f11_r d12_r f12_r d13_r f13_r d14_r f14_r d15_r f15_r
  obtain ⟨w11, hn⟩ : ∃ wZ, setFrom g_r 0 [.int .u8 6, .string ⟨#[]⟩, .slice none 0 0, .slice none 0 0, .slice none 0 0, .int .u8 0, .string ⟨#[]⟩, .int .i64 0, .slice none 0 0, .int .u8 k_e, .string s_e, .int .i64 n_e, .string u_e, .slice a1_e m1_e c1_e, .slice a2_e m2_e c2_e, .slice a3_e m3_e c3_e] w10 = wZ := ⟨_, rfl⟩
  have R_r' := sf hn R_r rfl
  have HS := sg hn
  have he := hn
  simp only [setFrom, Nat.reduceAdd] at he
  rw [he]
  clear he
  clear hn
  replace R_gp := kj HS R_gp (by omega)
  replace I_e := ij I_e HS (by omega)
  replace HF := fb HF HS (by omega)
  replace Z_h_e := zt Z_h_e HS
  have R_r := R_r'
  clear R_r' HS
  (try simp only [Exit.inBlock, Exit.then])
  have hv := HV.out
  subst hv
  refine bodyPost_ret (results_st rfl Tryd.underlying39 (by kernel_rfl) _ _ g_r _ rfl rfl R_r.out) rfl ?_
  exact ⟨⟨_, rfl, hcD_mk (c := [.int .u8 0, .string ⟨#[]⟩, .int .i64 0, .slice none 0 0]) (d := [.int .u8 k_e, .string s_e, .int .i64 n_e, .string u_e, .slice a1_e m1_e c1_e, .slice a2_e m2_e c2_e, .slice a3_e m3_e c3_e]) 6 ⟨#[]⟩ (hx_nil _) (hx_nil _) (hx_nil _) hc_zT (I_e.out.mono (fun b _ hb => by have := hb.1; omega))⟩, HF.out, (Par.of HP0.out HF.out R_gp.out hq_q9)⟩
set_option maxHeartbeats 8000000 in
set_option maxRecDepth 100000 in
theorem dec_nolet {gp : Nat} {a : Option Addr} {c : Nat} {l : List Tok} {g : Gr} {n : Nat} (h : Oks gp a c l g) (w : World) (p : Nat) (hp0 : Par w gp a c l p) (ho : Pr.run l (g.pDec n false) p ≠ .out) (h_val : seesB (l.getD p zTok) [⟨#[118, 97, 108]⟩] = false) (h_fun : seesB (l.getD p zTok) [⟨#[102, 117, 110]⟩] = false) (h_do : seesB (l.getD p zTok) [⟨#[100, 111]⟩] = false) :
  Calls Tryd.prog 21 #[.pointer (some ⟨gp, 0, none⟩), .bool false] w (Post gp a c l w (stE xD w.heap.size) (Pr.run l (g.pDec n false) p)) := by
 have HO := Lib.hid ho
 have HP0 := Lib.hid hp0
 have HH := Lib.hid h
 have hq_p := hp0.le
 have hlen := hp0.len
 have HF : Hid (Fr (Just gp) w w) := Lib.hid (Fr.refl _ _)
 have R_gp : Hid (w.heap[gp]? = some (.cells #[.slice a l.length c, .int .i64 (p : Nat)] 60 (0, 0))) := Lib.hid hp0.blk
 obtain ⟨V, hV⟩ : ∃ V, Pr.run l ((g.pDec n false)) p = V := ⟨_, rfl⟩
 rw [hV] at HO ⊢
 clear ho hp0 h
 simp only [Gr.pDec, run_bind, run_skip, run_must, run_take, Pr.run, next, if_true, if_false, Bool.false_eq_true] at hV
 have HV := Lib.hid hV
 clear hV
 go_enter Tryd.func21, Tryd.ntmps21
 go_upto_region 1 with fail
 generalize hn : w.alloc _ = w1
 generalize hg : w.heap.size = g_r
 have HS := fa hn
 have R_r := nb hn hg
 have L_gp_r := lb hg R_gp
 have B_r := bs hg HF
 clear hn hg
 replace R_gp := kn HS R_gp
 replace HF := fn HF HS
 clear HS
 go_wp2_with fail
 generalize hn : w1.alloc _ = w2
 generalize hg : w1.heap.size = g_sk
 have HS := fa hn
 have R_sk := nb hn hg
 have L_gp_sk := lb hg R_gp
 have L_r_sk := lb hg R_r
 have B_sk := bs hg HF
 clear hn hg
 replace R_gp := kn HS R_gp
 replace R_r := kn HS R_r
 replace HF := fn HF HS
 clear HS
 have hb_sk := h_val
 simp only [hb_sk, Re.andThen, run_bind, run_skip, run_must, run_take, Pr.run, next, if_true, if_false, Bool.false_eq_true] at HV
 refine (sk_any (ts := [⟨#[118, 97, 108]⟩]) (n := 1) (Par.of HP0.out HF.out R_gp.out hq_p) R_sk.out rfl (by omega) hb_sk).mono ?_
 rintro e w3 ⟨rfl, hf, hp⟩
 replace hp : Par w3 gp a c l p := hp
 clear R_sk
 have HS := Lib.hid hf
 have RG := Lib.hid hp.blk
 have hq_p := hp.le
 clear hf hp
 replace R_r := kj HS R_r (by omega)
 replace HF := ft HF HS
 replace R_gp := RG
 clear HS RG
 go_wp2_with fail
 generalize hn : w3.alloc _ = w4
 generalize hg : w3.heap.size = g_sk
 have HS := fa hn
 have R_sk := nb hn hg
 have L_gp_sk := lb hg R_gp
 have L_r_sk := lb hg R_r
 have B_sk := bs hg HF
 clear hn hg
 replace R_gp := kn HS R_gp
 replace R_r := kn HS R_r
 replace HF := fn HF HS
 clear HS
 have hb_sk := h_fun
 simp only [hb_sk, Re.andThen, run_bind, run_skip, run_must, run_take, Pr.run, next, if_true, if_false, Bool.false_eq_true] at HV
 refine (sk_any (ts := [⟨#[102, 117, 110]⟩]) (n := 1) (Par.of HP0.out HF.out R_gp.out hq_p) R_sk.out rfl (by omega) hb_sk).mono ?_
 rintro e w5 ⟨rfl, hf, hp⟩
 replace hp : Par w5 gp a c l p := hp
 clear R_sk
 have HS := Lib.hid hf
 have RG := Lib.hid hp.blk
 have hq_p := hp.le
 clear hf hp
 replace R_r := kj HS R_r (by omega)
 replace HF := ft HF HS
 replace R_gp := RG
 clear HS RG
 go_wp2_with fail
 generalize hn : w5.alloc _ = w6
 generalize hg : w5.heap.size = g_sk
 have HS := fa hn
 have R_sk := nb hn hg
 have L_gp_sk := lb hg R_gp
 have L_r_sk := lb hg R_r
 have B_sk := bs hg HF
 clear hn hg
 replace R_gp := kn HS R_gp
 replace R_r := kn HS R_r
 replace HF := fn HF HS
 clear HS
 have hb_sk := h_do
 simp only [hb_sk, Re.andThen, run_bind, run_skip, run_must, run_take, Pr.run, next, if_true, if_false, Bool.false_eq_true] at HV
 refine (sk_any (ts := [⟨#[100, 111]⟩]) (n := 1) (Par.of HP0.out HF.out R_gp.out hq_p) R_sk.out rfl (by omega) hb_sk).mono ?_
 rintro e w7 ⟨rfl, hf, hp⟩
 replace hp : Par w7 gp a c l p := hp
 clear R_sk
 have HS := Lib.hid hf
 have RG := Lib.hid hp.blk
 have hq_p := hp.le
 clear hf hp
 replace R_r := kj HS R_r (by omega)
 replace HF := ft HF HS
 replace R_gp := RG
 clear HS RG
 (try simp only [run_bind, run_skip, run_must, run_take, Pr.run, next, if_true, if_false, Bool.false_eq_true] at HV)
 go_wp2_with fail
 have hv := HV.out
 subst hv
 exact ⟨rfl, rfl, HF.out, (Par.of HP0.out HF.out R_gp.out hq_p)⟩
end Go.Proofs.YtjabhmepafofmaaDoor
