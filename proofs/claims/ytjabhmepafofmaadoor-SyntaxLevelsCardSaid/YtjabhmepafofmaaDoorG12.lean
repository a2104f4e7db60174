/- Declarations. -/
import Derived.Test.YtjabhmepafofmaaDoorG02
import Derived.Test.YtjabhmepafofmaaDoorG05
import Derived.Test.YtjabhmepafofmaaDoorG03
import Derived.Test.YtjabhmepafofmaaDoorG10
import Derived.Test.YtjabhmepafofmaaDoorG11
set_option linter.unusedVariables false
set_option linter.unusedSimpArgs false
namespace Go.Proofs.YtjabhmepafofmaaDoor
open Go.RowKit

set_option maxHeartbeats 8000000 in
set_option maxRecDepth 100000 in
theorem dec_root {gp : Nat} {a : Option Addr} {c : Nat} {l : List Tok} {g : Gr} {n : Nat} (h : Oks gp a c l g) (w : World) (p : Nat) (hp0 : Par w gp a c l p) (ho : Pr.run l (g.pDec n true) p ≠ .out) (h_val : seesB (l.getD p zTok) [⟨#[118, 97, 108]⟩] = false) (h_fun : seesB (l.getD p zTok) [⟨#[102, 117, 110]⟩] = false) (h_do : seesB (l.getD p zTok) [⟨#[100, 111]⟩] = false) (h_datatype : seesB (l.getD p zTok) [⟨#[100, 97, 116, 97, 116, 121, 112, 101]⟩] = false) (h_exception : seesB (l.getD p zTok) [⟨#[101, 120, 99, 101, 112, 116, 105, 111, 110]⟩] = false) (h_root : seesB (l.getD p zTok) [⟨#[114, 111, 111, 116]⟩] = true) :
  Calls Tryd.prog 21 #[.pointer (some ⟨gp, 0, none⟩), .bool true] w (Post gp a c l w (stE xD w.heap.size) (Pr.run l (g.pDec n true) p)) := by
 have HO := Lib.hid ho
 have HP0 := Lib.hid hp0
 have HH := Lib.hid h
 have hq_p := hp0.le
 have hlen := hp0.len
 have HF : Hid (Fr (Just gp) w w) := Lib.hid (Fr.refl _ _)
 have R_gp : Hid (w.heap[gp]? = some (.cells #[.slice a l.length c, .int .i64 (p : Nat)] 60 (0, 0))) := Lib.hid hp0.blk
 obtain ⟨V, hV⟩ : ∃ V, Pr.run l ((g.pDec n true)) p = V := ⟨_, rfl⟩
 rw [hV] at HO ⊢
 clear ho hp0 h
 simp only [Gr.pDec, run_bind, run_skip, run_must, run_take, Pr.run, next, if_true, if_false, Bool.false_eq_true] at hV
 have HV := Lib.hid hV
 clear hV
 go_enter Tryd.func21, Tryd.ntmps21
 go_upto_region 1 with fail
 generalize hn : w.alloc _ = w1
 generalize hg : w.heap.size = g_r
 have HS := fa hn
 have R_r := nb hn hg
 have L_gp_r := lb hg R_gp
 have B_r := bs hg HF
 clear hn hg
 replace R_gp := kn HS R_gp
 replace HF := fn HF HS
 clear HS
 go_wp2_with fail
 generalize hn : w1.alloc _ = w2
 generalize hg : w1.heap.size = g_sk
 have HS := fa hn
 have R_sk := nb hn hg
 have L_gp_sk := lb hg R_gp
 have L_r_sk := lb hg R_r
 have B_sk := bs hg HF
 clear hn hg
 replace R_gp := kn HS R_gp
 replace R_r := kn HS R_r
 replace HF := fn HF HS
 clear HS
 have hb_sk := h_val
 simp only [hb_sk, Re.andThen, run_bind, run_skip, run_must, run_take, Pr.run, next, if_true, if_false, Bool.false_eq_true] at HV
 refine (sk_any (ts := [⟨#[118, 97, 108]⟩]) (n := 1) (Par.of HP0.out HF.out R_gp.out hq_p) R_sk.out rfl (by omega) hb_sk).mono ?_
 rintro e w3 ⟨rfl, hf, hp⟩
 replace hp : Par w3 gp a c l p := hp
 clear R_sk
 have HS := Lib.hid hf
 have RG := Lib.hid hp.blk
 have hq_p := hp.le
 clear hf hp
 replace R_r := kj HS R_r (by omega)
 replace HF := ft HF HS
 replace R_gp := RG
 clear HS RG
 go_wp2_with fail
 generalize hn : w3.alloc _ = w4
 generalize hg : w3.heap.size = g_sk
 have HS := fa hn
 have R_sk := nb hn hg
 have L_gp_sk := lb hg R_gp
 have L_r_sk := lb hg R_r
 have B_sk := bs hg HF
 clear hn hg
 replace R_gp := kn HS R_gp
 replace R_r := kn HS R_r
 replace HF := fn HF HS
 clear HS
 have hb_sk := h_fun
 simp only [hb_sk, Re.andThen, run_bind, run_skip, run_must, run_take, Pr.run, next, if_true, if_false, Bool.false_eq_true] at HV
 refine (sk_any (ts := [⟨#[102, 117, 110]⟩]) (n := 1) (Par.of HP0.out HF.out R_gp.out hq_p) R_sk.out rfl (by omega) hb_sk).mono ?_
 rintro e w5 ⟨rfl, hf, hp⟩
 replace hp : Par w5 gp a c l p := hp
 clear R_sk
 have HS := Lib.hid hf
 have RG := Lib.hid hp.blk
 have hq_p := hp.le
 clear hf hp
 replace R_r := kj HS R_r (by omega)
 replace HF := ft HF HS
 replace R_gp := RG
 clear HS RG
 go_wp2_with fail
 generalize hn : w5.alloc _ = w6
 generalize hg : w5.heap.size = g_sk
 have HS := fa hn
 have R_sk := nb hn hg
 have L_gp_sk := lb hg R_gp
 have L_r_sk := lb hg R_r
 have B_sk := bs hg HF
 clear hn hg
 replace R_gp := kn HS R_gp
 replace R_r := kn HS R_r
 replace HF := fn HF HS
 clear HS
 have hb_sk := h_do
 simp only [hb_sk, Re.andThen, run_bind, run_skip, run_must, run_take, Pr.run, next, if_true, if_false, Bool.false_eq_true] at HV
 refine (sk_any (ts := [⟨#[100, 111]⟩]) (n := 1) (Par.of HP0.out HF.out R_gp.out hq_p) R_sk.out rfl (by omega) hb_sk).mono ?_
 rintro e w7 ⟨rfl, hf, hp⟩
 replace hp : Par w7 gp a c l p := hp
 clear R_sk
 have HS := Lib.hid hf
 have RG := Lib.hid hp.blk
 have hq_p := hp.le
 clear hf hp
 replace R_r := kj HS R_r (by omega)
 replace HF := ft HF HS
 replace R_gp := RG
 clear HS RG
 simp only [Bool.true_eq_false, run_bind, run_skip, run_must, run_take, Pr.run, next, if_true, if_false, Bool.false_eq_true] at HV
 go_wp2_with fail
 generalize hn : w7.alloc _ = w8
 generalize hg : w7.heap.size = g_sk
 have HS := fa hn
 have R_sk := nb hn hg
 have L_gp_sk := lb hg R_gp
 have L_r_sk := lb hg R_r
 have B_sk := bs hg HF
 clear hn hg
 replace R_gp := kn HS R_gp
 replace R_r := kn HS R_r
 replace HF := fn HF HS
 clear HS
 have hb_sk := h_datatype
 simp only [hb_sk, Re.andThen, run_bind, run_skip, run_must, run_take, Pr.run, next, if_true, if_false, Bool.false_eq_true] at HV
 refine (sk_any (ts := [⟨#[100, 97, 116, 97, 116, 121, 112, 101]⟩]) (n := 1) (Par.of HP0.out HF.out R_gp.out hq_p) R_sk.out rfl (by omega) hb_sk).mono ?_
 rintro e w9 ⟨rfl, hf, hp⟩
 replace hp : Par w9 gp a c l p := hp
 clear R_sk
 have HS := Lib.hid hf
 have RG := Lib.hid hp.blk
 have hq_p := hp.le
 clear hf hp
 replace R_r := kj HS R_r (by omega)
 replace HF := ft HF HS
 replace R_gp := RG
 clear HS RG
 go_wp2_with fail
 generalize hn : w9.alloc _ = w10
 generalize hg : w9.heap.size = g_sk
 have HS := fa hn
 have R_sk := nb hn hg
 have L_gp_sk := lb hg R_gp
 have L_r_sk := lb hg R_r
 have B_sk := bs hg HF
 clear hn hg
 replace R_gp := kn HS R_gp
 replace R_r := kn HS R_r
 replace HF := fn HF HS
 clear HS
 have hb_sk := h_exception
 simp only [hb_sk, Re.andThen, run_bind, run_skip, run_must, run_take, Pr.run, next, if_true, if_false, Bool.false_eq_true] at HV
 refine (sk_any (ts := [⟨#[101, 120, 99, 101, 112, 116, 105, 111, 110]⟩]) (n := 1) (Par.of HP0.out HF.out R_gp.out hq_p) R_sk.out rfl (by omega) hb_sk).mono ?_
 rintro e w11 ⟨rfl, hf, hp⟩
 replace hp : Par w11 gp a c l p := hp
 clear R_sk
 have HS := Lib.hid hf
 have RG := Lib.hid hp.blk
 have hq_p := hp.le
 clear hf hp
 replace R_r := kj HS R_r (by omega)
 replace HF := ft HF HS
 replace R_gp := RG
 clear HS RG
 go_wp2_with fail
 generalize hn : w11.alloc _ = w12
 generalize hg : w11.heap.size = g_sk
 have HS := fa hn
 have R_sk := nb hn hg
 have L_gp_sk := lb hg R_gp
 have L_r_sk := lb hg R_r
 have B_sk := bs hg HF
 clear hn hg
 replace R_gp := kn HS R_gp
 replace R_r := kn HS R_r
 replace HF := fn HF HS
 clear HS
 have hb_sk := h_root
 simp only [hb_sk, Re.andThen, run_bind, run_skip, run_must, run_take, Pr.run, next, if_true, if_false, Bool.false_eq_true] at HV
 refine (sk_any (ts := [⟨#[114, 111, 111, 116]⟩]) (n := 1) (Par.of HP0.out HF.out R_gp.out hq_p) R_sk.out rfl (by omega) hb_sk).mono ?_
 rintro e w13 ⟨rfl, hf, hp⟩
 replace hp : Par w13 gp a c l (p + 1) := hp
 clear R_sk
 have HS := Lib.hid hf
 have RG := Lib.hid hp.blk
 have hq_pP1 := hp.le
 clear hf hp
 replace R_r := kj HS R_r (by omega)
 replace HF := ft HF HS
 replace R_gp := RG
 clear HS RG
 go_wp2_with fail
 by_cases hk_s : (l.getD (p + 1) zTok).kind = 1
 ·
  simp only [hk_s, Re.andThen, run_bind, run_skip, run_must, run_take, Pr.run, next, if_true, if_false, Bool.false_eq_true] at HV
  refine (take_good (Par.of HP0.out HF.out R_gp.out hq_pP1) (by decide) hk_s).mono ?_
  rintro e w14 ⟨rfl, hf, hp⟩
  obtain ⟨tx_s, htx⟩ : ∃ s, (l.getD (p + 1) zTok).text = s := ⟨_, rfl⟩
  rw [htx]
  have hv := HV.out
  rw [htx] at hv
  replace HV := Lib.hid hv
  clear hv htx
  have HS := Lib.hid hf
  have RG := Lib.hid hp.blk
  have hq_pP1P1 := hp.le
  clear hf hp
  replace R_r := kj HS R_r (by omega)
  replace HF := ft HF HS
  replace R_gp := RG
  clear HS RG
  go_upto_region 19 with fail
  generalize hn : w14.alloc _ = w15
  generalize hg : w14.heap.size = g_t
  have HS := fa hn
  have R_t := nb hn hg
  have L_gp_t := lb hg R_gp
  have L_r_t := lb hg R_r
  have B_t := bs hg HF
  clear hn hg
  replace R_gp := kn HS R_gp
  replace R_r := kn HS R_r
  replace HF := fn HF HS
  clear HS
  go_wp2_with fail
  cases hm_co : seesB (l.getD ((p + 1) + 1) zTok) [⟨#[58]⟩] with
  | false =>
   simp only [hm_co, Re.andThen, run_bind, run_skip, run_must, run_take, Pr.run, next, if_true, if_false, Bool.false_eq_true] at HV
   refine (must_bad (Par.of HP0.out HF.out R_gp.out hq_pP1P1) hm_co).mono ?_
   rintro e w16 ⟨rfl, hf, hp⟩
   have hv := HV.out
   subst hv
   exact ⟨rfl, rfl, HF.out.trans hf (fun _ _ h => h), hp⟩
  | true =>
   simp only [hm_co, Re.andThen, run_bind, run_skip, run_must, run_take, Pr.run, next, if_true, if_false, Bool.false_eq_true] at HV
   refine (must_good (Par.of HP0.out HF.out R_gp.out hq_pP1P1) hm_co).mono ?_
   rintro e w17 ⟨rfl, hf, hp⟩
   have HS := Lib.hid hf
   have RG := Lib.hid hp.blk
   have hq_pP1P1P1 := hp.le
   clear hf hp
   replace R_r := kj HS R_r (by omega)
   replace R_t := kj HS R_t (by omega)
   replace HF := ft HF HS
   replace R_gp := RG
   clear HS RG
   go_wp2_with fail
   cases hr_t : Pr.run l g.ty (((p + 1) + 1) + 1) with
   | out =>
    simp only [hr_t, Re.andThen, run_bind, run_skip, run_must, run_take, Pr.run, next, if_true, if_false, Bool.false_eq_true] at HV
    exact absurd HV.out.symm HO.out
   | fail q =>
    simp only [hr_t, Re.andThen, run_bind, run_skip, run_must, run_take, Pr.run, next, if_true, if_false, Bool.false_eq_true] at HV
    refine ((HH.out.ty).bad (Par.of HP0.out HF.out R_gp.out hq_pP1P1P1) hr_t).mono ?_
    rintro e w18 ⟨rfl, hf, hp⟩
    have hv := HV.out
    subst hv
    exact ⟨rfl, rfl, HF.out.trans hf (fun _ _ h => h), hp⟩
   | ok x_t q19 =>
    simp only [hr_t, Re.andThen, run_bind, run_skip, run_must, run_take, Pr.run, next, if_true, if_false, Bool.false_eq_true] at HV
    have hsz_t : gp < w17.heap.size := lt_of_block R_gp.out
    obtain ⟨b_t, hB⟩ : ∃ bZ, w17.heap.size = bZ := ⟨_, rfl⟩
    have K_gp_t := lb hB R_gp
    have K_r_t := lb hB R_r
    have K_t_t := lb hB R_t
    have KB_t := bs hB HF
    clear hsz_t
    refine ((HH.out.ty).good (Par.of HP0.out HF.out R_gp.out hq_pP1P1P1) hr_t).mono ?_
    rintro e w20 ⟨⟨cs_t, rfl, hc⟩, hf, hp⟩
    rw [hB] at hc
    clear hB
    obtain ⟨h_t, hH⟩ : ∃ hZ, w20.heap.size = hZ := ⟨_, rfl⟩
    have I_t := im hH hc
    have Z_h_t : h_t ≤ w20.heap.size := Nat.le_of_eq hH.symm
    clear hc hH
    have HS := Lib.hid hf
    have RG := Lib.hid hp.blk
    have hq_q19 := hp.le
    clear hf hp
    replace R_r := kj HS R_r (by omega)
    replace R_t := kj HS R_t (by omega)
    replace HF := ft HF HS
    replace R_gp := RG
    clear HS RG
    obtain ⟨k_t, s_t, n_t, a_t, m_t, c_t, ecs⟩ := hcT I_t.out
    subst ecs
    obtain ⟨d0_t, d1_t, d2_t, d3_t, d4_t, d5_t, d6_t, d7_t, d8_t, d9_t, d10_t, d11_t, d12_t, d13_t, d14_t, d15_t⟩ := z16c R_t.out
    obtain ⟨f0_t, f1_t, f2_t, f3_t, f4_t, f5_t, f6_t, f7_t, f8_t, f9_t, f10_t, f11_t, f12_t, f13_t, f14_t, f15_t⟩ := y16c R_t.out
    go_upto_region 21 with fail
    clear d0_t f0_t d1_t f1_t d2_t f2_t d3_t f3_t d4_t f4_t d5_t f5_t d6_t f6_t d7_t f7_t d8_t f8_t d9_t f9_t d10_t f10_t d11_t f11_t d12_t f12_t d13_t f13_t d14_t f14_t d15_t f15_t
    obtain ⟨w21, hn⟩ : ∃ wZ, setL g_t [(5, .int .u8 k_t), (6, .string s_t), (7, .int .i64 n_t), (8, .slice a_t m_t c_t)] w20 = wZ := ⟨_, rfl⟩
    have R_t' : Hid (w21.heap[g_t]? = some (.cells #[.int .u8 5, .string tx_s, .slice none 0 0, .slice none 0 0, .slice none 0 0, .int .u8 k_t, .string s_t, .int .i64 n_t, .slice a_t m_t c_t, .int .u8 0, .string ⟨#[]⟩, .int .i64 0, .string ⟨#[]⟩, .slice none 0 0, .slice none 0 0, .slice none 0 0] 39 (0, 0))) := Lib.hid (by rw [← hn]; exact (setLs_block [(5, .int .u8 k_t), (6, .string s_t), (7, .int .i64 n_t), (8, .slice a_t m_t c_t)] [.int .u8 5, .string tx_s, .slice none 0 0, .slice none 0 0, .slice none 0 0, .int .u8 0, .string ⟨#[]⟩, .int .i64 0, .slice none 0 0, .int .u8 0, .string ⟨#[]⟩, .int .i64 0, .string ⟨#[]⟩, .slice none 0 0, .slice none 0 0, .slice none 0 0] _ R_t.out).trans rfl)
    have HS := sl hn
    have he := hn
    simp only [setL] at he
    rw [he]
    clear he
    clear hn
    replace R_gp := kj HS R_gp (by omega)
    replace R_r := kj HS R_r (by omega)
    replace I_t := ij I_t HS (by omega)
    replace HF := fb HF HS (by omega)
    replace Z_h_t := zt Z_h_t HS
    have R_t := R_t'
    clear R_t' HS
    go_wp2_with fail
    cases hm_eq : seesB (l.getD q19 zTok) [⟨#[61]⟩] with
    | false =>
     simp only [hm_eq, Re.andThen, run_bind, run_skip, run_must, run_take, Pr.run, next, if_true, if_false, Bool.false_eq_true] at HV
     refine (must_bad (Par.of HP0.out HF.out R_gp.out hq_q19) hm_eq).mono ?_
     rintro e w22 ⟨rfl, hf, hp⟩
     have hv := HV.out
     subst hv
     exact ⟨rfl, rfl, HF.out.trans hf (fun _ _ h => h), hp⟩
    | true =>
     simp only [hm_eq, Re.andThen, run_bind, run_skip, run_must, run_take, Pr.run, next, if_true, if_false, Bool.false_eq_true] at HV
     refine (must_good (Par.of HP0.out HF.out R_gp.out hq_q19) hm_eq).mono ?_
     rintro e w23 ⟨rfl, hf, hp⟩
     have HS := Lib.hid hf
     have RG := Lib.hid hp.blk
     have hq_q19P1 := hp.le
     clear hf hp
     replace R_r := kj HS R_r (by omega)
     replace R_t := kj HS R_t (by omega)
     replace I_t := ij I_t HS (by omega)
     replace HF := ft HF HS
     replace Z_h_t := zt Z_h_t HS
     replace R_gp := RG
     clear HS RG
     go_wp2_with fail
     cases hr_e : Pr.run l g.exp (q19 + 1) with
     | out =>
      simp only [hr_e, Re.andThen, run_bind, run_skip, run_must, run_take, Pr.run, next, if_true, if_false, Bool.false_eq_true] at HV
      exact absurd HV.out.symm HO.out
     | fail q =>
      simp only [hr_e, Re.andThen, run_bind, run_skip, run_must, run_take, Pr.run, next, if_true, if_false, Bool.false_eq_true] at HV
      refine ((HH.out.exp).bad (Par.of HP0.out HF.out R_gp.out hq_q19P1) hr_e).mono ?_
      rintro e w24 ⟨rfl, hf, hp⟩
      have hv := HV.out
      subst hv
      exact ⟨rfl, rfl, HF.out.trans hf (fun _ _ h => h), hp⟩
     | ok x_e q25 =>
      simp only [hr_e, Re.andThen, run_bind, run_skip, run_must, run_take, Pr.run, next, if_true, if_false, Bool.false_eq_true] at HV
      have hsz_e : gp < w23.heap.size := lt_of_block R_gp.out
      obtain ⟨b_e, hB⟩ : ∃ bZ, w23.heap.size = bZ := ⟨_, rfl⟩
      have K_gp_e := lb hB R_gp
      have K_r_e := lb hB R_r
      have K_t_e := lb hB R_t
      have KB_e := bs hB HF
      clear hsz_e
      refine ((HH.out.exp).good (Par.of HP0.out HF.out R_gp.out hq_q19P1) hr_e).mono ?_
      rintro e w26 ⟨⟨cs_e, rfl, hc⟩, hf, hp⟩
      rw [hB] at hc
      clear hB
      obtain ⟨h_e, hH⟩ : ∃ hZ, w26.heap.size = hZ := ⟨_, rfl⟩
      have I_e := im hH hc
      have Z_h_e : h_e ≤ w26.heap.size := Nat.le_of_eq hH.symm
      clear hc hH
      have HS := Lib.hid hf
      have RG := Lib.hid hp.blk
      have hq_q25 := hp.le
      clear hf hp
      replace R_r := kj HS R_r (by omega)
      replace R_t := kj HS R_t (by omega)
      replace I_t := ij I_t HS (by omega)
      replace HF := ft HF HS
      replace Z_h_t := zt Z_h_t HS
      replace R_gp := RG
      clear HS RG
      obtain ⟨k_e, s_e, n_e, u_e, a1_e, m1_e, c1_e, a2_e, m2_e, c2_e, a3_e, m3_e, c3_e, ecs⟩ := hcE I_e.out
      subst ecs
      obtain ⟨d0_t, d1_t, d2_t, d3_t, d4_t, d5_t, d6_t, d7_t, d8_t, d9_t, d10_t, d11_t, d12_t, d13_t, d14_t, d15_t⟩ := z16c R_t.out
      obtain ⟨f0_t, f1_t, f2_t, f3_t, f4_t, f5_t, f6_t, f7_t, f8_t, f9_t, f10_t, f11_t, f12_t, f13_t, f14_t, f15_t⟩ := y16c R_t.out
      go_upto_region 23 with fail
      clear d0_t f0_t d1_t f1_t d2_t f2_t d3_t f3_t d4_t f4_t d5_t f5_t d6_t f6_t d7_t f7_t d8_t f8_t d9_t f9_t d10_t f10_t d11_t f11_t d12_t f12_t d13_t f13_t d14_t f14_t d15_t f15_t
      obtain ⟨w27, hn⟩ : ∃ wZ, setL g_t [(9, .int .u8 k_e), (10, .string s_e), (11, .int .i64 n_e), (12, .string u_e), (13, .slice a1_e m1_e c1_e), (14, .slice a2_e m2_e c2_e), (15, .slice a3_e m3_e c3_e)] w26 = wZ := ⟨_, rfl⟩
      have R_t' : Hid (w27.heap[g_t]? = some (.cells #[.int .u8 5, .string tx_s, .slice none 0 0, .slice none 0 0, .slice none 0 0, .int .u8 k_t, .string s_t, .int .i64 n_t, .slice a_t m_t c_t, .int .u8 k_e, .string s_e, .int .i64 n_e, .string u_e, .slice a1_e m1_e c1_e, .slice a2_e m2_e c2_e, .slice a3_e m3_e c3_e] 39 (0, 0))) := Lib.hid (by rw [← hn]; exact (setLs_block [(9, .int .u8 k_e), (10, .string s_e), (11, .int .i64 n_e), (12, .string u_e), (13, .slice a1_e m1_e c1_e), (14, .slice a2_e m2_e c2_e), (15, .slice a3_e m3_e c3_e)] [.int .u8 5, .string tx_s, .slice none 0 0, .slice none 0 0, .slice none 0 0, .int .u8 k_t, .string s_t, .int .i64 n_t, .slice a_t m_t c_t, .int .u8 0, .string ⟨#[]⟩, .int .i64 0, .string ⟨#[]⟩, .slice none 0 0, .slice none 0 0, .slice none 0 0] _ R_t.out).trans rfl)
      have HS := sl hn
      have he := hn
      simp only [setL] at he
      rw [he]
      clear he
      clear hn
      replace R_gp := kj HS R_gp (by omega)
      replace R_r := kj HS R_r (by omega)
      replace I_t := ij I_t HS (by omega)
      replace I_e := ij I_e HS (by omega)
      replace HF := fb HF HS (by omega)
      replace Z_h_t := zt Z_h_t HS
      replace Z_h_e := zt Z_h_e HS
      have R_t := R_t'
      clear R_t' HS
      obtain ⟨d0_t, d1_t, d2_t, d3_t, d4_t, d5_t, d6_t, d7_t, d8_t, d9_t, d10_t, d11_t, d12_t, d13_t, d14_t, d15_t⟩ := z16c R_t.out
      obtain ⟨f0_t, f1_t, f2_t, f3_t, f4_t, f5_t, f6_t, f7_t, f8_t, f9_t, f10_t, f11_t, f12_t, f13_t, f14_t, f15_t⟩ := y16c R_t.out
      obtain ⟨d0_r, d1_r, d2_r, d3_r, d4_r, d5_r, d6_r, d7_r, d8_r, d9_r, d10_r, d11_r, d12_r, d13_r, d14_r, d15_r⟩ := z16c R_r.out
      obtain ⟨f0_r, f1_r, f2_r, f3_r, f4_r, f5_r, f6_r, f7_r, f8_r, f9_r, f10_r, f11_r, f12_r, f13_r, f14_r, f15_r⟩ := y16c R_r.out
      go_wp2_with fail
      clear d0_t f0_t d1_t f1_t d2_t f2_t d3_t f3_t d4_t f4_t d5_t f5_t d6_t f6_t d7_t f7_t d8_t f8_t d9_t f9_t d10_t f10_t d11_t f11_t d12_t f12_t d13_t f13_t d14_t f14_t d15_t f15_t
      clear d0_r f0_r d1_r f1_r d2_r f2_r d3_r f3_r d4_r f4_r d5_r f5_r d6_r f6_r d7_r f7_r d8_r f8_r d9_r f9_r d10_r f10_r d11_r f11_r d12_r f12_r d13_r f13_r d14_r f14_r d15_r f15_r
      obtain ⟨w28, hn⟩ : ∃ wZ, setFrom g_r 0 [.int .u8 5, .string tx_s, .slice none 0 0, .slice none 0 0, .slice none 0 0, .int .u8 k_t, .string s_t, .int .i64 n_t, .slice a_t m_t c_t, .int .u8 k_e, .string s_e, .int .i64 n_e, .string u_e, .slice a1_e m1_e c1_e, .slice a2_e m2_e c2_e, .slice a3_e m3_e c3_e] w27 = wZ := ⟨_, rfl⟩
      have R_r' := sf hn R_r rfl
      have HS := sg hn
      have he := hn
      simp only [setFrom, Nat.reduceAdd] at he
      rw [he]
      clear he
      clear hn
      replace R_gp := kj HS R_gp (by omega)
      replace R_t := kj HS R_t (by omega)
      replace I_t := ij I_t HS (by omega)
      replace I_e := ij I_e HS (by omega)
      replace HF := fb HF HS (by omega)
      replace Z_h_t := zt Z_h_t HS
      replace Z_h_e := zt Z_h_e HS
      have R_r := R_r'
      clear R_r' HS
      (try simp only [Exit.inBlock, Exit.then])
      have hv := HV.out
      subst hv
      refine bodyPost_ret (results_st rfl Tryd.underlying39 (by kernel_rfl) _ _ g_r _ rfl rfl R_r.out) rfl ?_
      exact ⟨⟨_, rfl, hcD_mk (c := [.int .u8 k_t, .string s_t, .int .i64 n_t, .slice a_t m_t c_t]) (d := [.int .u8 k_e, .string s_e, .int .i64 n_e, .string u_e, .slice a1_e m1_e c1_e, .slice a2_e m2_e c2_e, .slice a3_e m3_e c3_e]) 5 tx_s (hx_nil _) (hx_nil _) (hx_nil _) (I_t.out.mono (fun b _ hb => by have := hb.1; omega)) (I_e.out.mono (fun b _ hb => by have := hb.1; omega))⟩, HF.out, (Par.of HP0.out HF.out R_gp.out hq_q25)⟩
 ·
  simp only [hk_s, Re.andThen, run_bind, run_skip, run_must, run_take, Pr.run, next, if_true, if_false, Bool.false_eq_true] at HV
  refine (take_bad (Par.of HP0.out HF.out R_gp.out hq_pP1) (by decide) hk_s).mono ?_
  rintro e w29 ⟨rfl, hf, hp⟩
  have hv := HV.out
  subst hv
  exact ⟨rfl, rfl, HF.out.trans hf (fun _ _ h => h), hp⟩
set_option maxHeartbeats 8000000 in
set_option maxRecDepth 100000 in
theorem dec_none {gp : Nat} {a : Option Addr} {c : Nat} {l : List Tok} {g : Gr} {n : Nat} (h : Oks gp a c l g) (w : World) (p : Nat) (hp0 : Par w gp a c l p) (ho : Pr.run l (g.pDec n true) p ≠ .out) (h_val : seesB (l.getD p zTok) [⟨#[118, 97, 108]⟩] = false) (h_fun : seesB (l.getD p zTok) [⟨#[102, 117, 110]⟩] = false) (h_do : seesB (l.getD p zTok) [⟨#[100, 111]⟩] = false) (h_datatype : seesB (l.getD p zTok) [⟨#[100, 97, 116, 97, 116, 121, 112, 101]⟩] = false) (h_exception : seesB (l.getD p zTok) [⟨#[101, 120, 99, 101, 112, 116, 105, 111, 110]⟩] = false) (h_root : seesB (l.getD p zTok) [⟨#[114, 111, 111, 116]⟩] = false) :
  Calls Tryd.prog 21 #[.pointer (some ⟨gp, 0, none⟩), .bool true] w (Post gp a c l w (stE xD w.heap.size) (Pr.run l (g.pDec n true) p)) := by
 have HO := Lib.hid ho
 have HP0 := Lib.hid hp0
 have HH := Lib.hid h
 have hq_p := hp0.le
 have hlen := hp0.len
 have HF : Hid (Fr (Just gp) w w) := Lib.hid (Fr.refl _ _)
 have R_gp : Hid (w.heap[gp]? = some (.cells #[.slice a l.length c, .int .i64 (p : Nat)] 60 (0, 0))) := Lib.hid hp0.blk
 obtain ⟨V, hV⟩ : ∃ V, Pr.run l ((g.pDec n true)) p = V := ⟨_, rfl⟩
 rw [hV] at HO ⊢
 clear ho hp0 h
 simp only [Gr.pDec, run_bind, run_skip, run_must, run_take, Pr.run, next, if_true, if_false, Bool.false_eq_true] at hV
 have HV := Lib.hid hV
 clear hV
 go_enter Tryd.func21, Tryd.ntmps21
 go_upto_region 1 with fail
 generalize hn : w.alloc _ = w1
 generalize hg : w.heap.size = g_r
 have HS := fa hn
 have R_r := nb hn hg
 have L_gp_r := lb hg R_gp
 have B_r := bs hg HF
 clear hn hg
 replace R_gp := kn HS R_gp
 replace HF := fn HF HS
 clear HS
 go_wp2_with fail
 generalize hn : w1.alloc _ = w2
 generalize hg : w1.heap.size = g_sk
 have HS := fa hn
 have R_sk := nb hn hg
 have L_gp_sk := lb hg R_gp
 have L_r_sk := lb hg R_r
 have B_sk := bs hg HF
 clear hn hg
 replace R_gp := kn HS R_gp
 replace R_r := kn HS R_r
 replace HF := fn HF HS
 clear HS
 have hb_sk := h_val
 simp only [hb_sk, Re.andThen, run_bind, run_skip, run_must, run_take, Pr.run, next, if_true, if_false, Bool.false_eq_true] at HV
 refine (sk_any (ts := [⟨#[118, 97, 108]⟩]) (n := 1) (Par.of HP0.out HF.out R_gp.out hq_p) R_sk.out rfl (by omega) hb_sk).mono ?_
 rintro e w3 ⟨rfl, hf, hp⟩
 replace hp : Par w3 gp a c l p := hp
 clear R_sk
 have HS := Lib.hid hf
 have RG := Lib.hid hp.blk
 have hq_p := hp.le
 clear hf hp
 replace R_r := kj HS R_r (by omega)
 replace HF := ft HF HS
 replace R_gp := RG
 clear HS RG
 go_wp2_with fail
 generalize hn : w3.alloc _ = w4
 generalize hg : w3.heap.size = g_sk
 have HS := fa hn
 have R_sk := nb hn hg
 have L_gp_sk := lb hg R_gp
 have L_r_sk := lb hg R_r
 have B_sk := bs hg HF
 clear hn hg
 replace R_gp := kn HS R_gp
 replace R_r := kn HS R_r
 replace HF := fn HF HS
 clear HS
 have hb_sk := h_fun
 simp only [hb_sk, Re.andThen, run_bind, run_skip, run_must, run_take, Pr.run, next, if_true, if_false, Bool.false_eq_true] at HV
 refine (sk_any (ts := [⟨#[102, 117, 110]⟩]) (n := 1) (Par.of HP0.out HF.out R_gp.out hq_p) R_sk.out rfl (by omega) hb_sk).mono ?_
 rintro e w5 ⟨rfl, hf, hp⟩
 replace hp : Par w5 gp a c l p := hp
 clear R_sk
 have HS := Lib.hid hf
 have RG := Lib.hid hp.blk
 have hq_p := hp.le
 clear hf hp
 replace R_r := kj HS R_r (by omega)
 replace HF := ft HF HS
 replace R_gp := RG
 clear HS RG
 go_wp2_with fail
 generalize hn : w5.alloc _ = w6
 generalize hg : w5.heap.size = g_sk
 have HS := fa hn
 have R_sk := nb hn hg
 have L_gp_sk := lb hg R_gp
 have L_r_sk := lb hg R_r
 have B_sk := bs hg HF
 clear hn hg
 replace R_gp := kn HS R_gp
 replace R_r := kn HS R_r
 replace HF := fn HF HS
 clear HS
 have hb_sk := h_do
 simp only [hb_sk, Re.andThen, run_bind, run_skip, run_must, run_take, Pr.run, next, if_true, if_false, Bool.false_eq_true] at HV
 refine (sk_any (ts := [⟨#[100, 111]⟩]) (n := 1) (Par.of HP0.out HF.out R_gp.out hq_p) R_sk.out rfl (by omega) hb_sk).mono ?_
 rintro e w7 ⟨rfl, hf, hp⟩
 replace hp : Par w7 gp a c l p := hp
 clear R_sk
 have HS := Lib.hid hf
 have RG := Lib.hid hp.blk
 have hq_p := hp.le
 clear hf hp
 replace R_r := kj HS R_r (by omega)
 replace HF := ft HF HS
 replace R_gp := RG
 clear HS RG
 simp only [Bool.true_eq_false, run_bind, run_skip, run_must, run_take, Pr.run, next, if_true, if_false, Bool.false_eq_true] at HV
 go_wp2_with fail
 generalize hn : w7.alloc _ = w8
 generalize hg : w7.heap.size = g_sk
 have HS := fa hn
 have R_sk := nb hn hg
 have L_gp_sk := lb hg R_gp
 have L_r_sk := lb hg R_r
 have B_sk := bs hg HF
 clear hn hg
 replace R_gp := kn HS R_gp
 replace R_r := kn HS R_r
 replace HF := fn HF HS
 clear HS
 have hb_sk := h_datatype
 simp only [hb_sk, Re.andThen, run_bind, run_skip, run_must, run_take, Pr.run, next, if_true, if_false, Bool.false_eq_true] at HV
 refine (sk_any (ts := [⟨#[100, 97, 116, 97, 116, 121, 112, 101]⟩]) (n := 1) (Par.of HP0.out HF.out R_gp.out hq_p) R_sk.out rfl (by omega) hb_sk).mono ?_
 rintro e w9 ⟨rfl, hf, hp⟩
 replace hp : Par w9 gp a c l p := hp
 clear R_sk
 have HS := Lib.hid hf
 have RG := Lib.hid hp.blk
 have hq_p := hp.le
 clear hf hp
 replace R_r := kj HS R_r (by omega)
 replace HF := ft HF HS
 replace R_gp := RG
 clear HS RG
 go_wp2_with fail
 generalize hn : w9.alloc _ = w10
 generalize hg : w9.heap.size = g_sk
 have HS := fa hn
 have R_sk := nb hn hg
 have L_gp_sk := lb hg R_gp
 have L_r_sk := lb hg R_r
 have B_sk := bs hg HF
 clear hn hg
 replace R_gp := kn HS R_gp
 replace R_r := kn HS R_r
 replace HF := fn HF HS
 clear HS
 have hb_sk := h_exception
 simp only [hb_sk, Re.andThen, run_bind, run_skip, run_must, run_take, Pr.run, next, if_true, if_false, Bool.false_eq_true] at HV
 refine (sk_any (ts := [⟨#[101, 120, 99, 101, 112, 116, 105, 111, 110]⟩]) (n := 1) (Par.of HP0.out HF.out R_gp.out hq_p) R_sk.out rfl (by omega) hb_sk).mono ?_
 rintro e w11 ⟨rfl, hf, hp⟩
 replace hp : Par w11 gp a c l p := hp
 clear R_sk
 have HS := Lib.hid hf
 have RG := Lib.hid hp.blk
 have hq_p := hp.le
 clear hf hp
 replace R_r := kj HS R_r (by omega)
 replace HF := ft HF HS
 replace R_gp := RG
 clear HS RG
 go_wp2_with fail
 generalize hn : w11.alloc _ = w12
 generalize hg : w11.heap.size = g_sk
 have HS := fa hn
 have R_sk := nb hn hg
 have L_gp_sk := lb hg R_gp
 have L_r_sk := lb hg R_r
 have B_sk := bs hg HF
 clear hn hg
 replace R_gp := kn HS R_gp
 replace R_r := kn HS R_r
 replace HF := fn HF HS
 clear HS
 have hb_sk := h_root
 simp only [hb_sk, Re.andThen, run_bind, run_skip, run_must, run_take, Pr.run, next, if_true, if_false, Bool.false_eq_true] at HV
 refine (sk_any (ts := [⟨#[114, 111, 111, 116]⟩]) (n := 1) (Par.of HP0.out HF.out R_gp.out hq_p) R_sk.out rfl (by omega) hb_sk).mono ?_
 rintro e w13 ⟨rfl, hf, hp⟩
 replace hp : Par w13 gp a c l p := hp
 clear R_sk
 have HS := Lib.hid hf
 have RG := Lib.hid hp.blk
 have hq_p := hp.le
 clear hf hp
 replace R_r := kj HS R_r (by omega)
 replace HF := ft HF HS
 replace R_gp := RG
 clear HS RG
 go_wp2_with fail
 have hv := HV.out
 subst hv
 exact ⟨rfl, rfl, HF.out, (Par.of HP0.out HF.out R_gp.out hq_p)⟩
end Go.Proofs.YtjabhmepafofmaaDoor
namespace Go.Proofs.YtjabhmepafofmaaDoor
open Go.RowKit

theorem dec_step {gp : Nat} {a : Option Addr} {c : Nat} {l : List Tok} {g : Gr} {n : Nat} (wh : Bool) (h : Oks gp a c l g) : CT gp a c l 21 [.bool wh] (stE xD) (g.pDec n wh) := by
 intro w p hp ho
 cases h_val : seesB (l.getD p zTok) [⟨#[118, 97, 108]⟩] with
 | true => exact dec_val h w p hp ho h_val
 | false =>
  cases h_fun : seesB (l.getD p zTok) [⟨#[102, 117, 110]⟩] with
  | true => exact dec_fun h w p hp ho h_val h_fun
  | false =>
   cases h_do : seesB (l.getD p zTok) [⟨#[100, 111]⟩] with
   | true => exact dec_do h w p hp ho h_val h_fun h_do
   | false =>
    cases wh with
    | false => exact dec_nolet h w p hp ho h_val h_fun h_do
    | true =>
     cases h_datatype : seesB (l.getD p zTok) [⟨#[100, 97, 116, 97, 116, 121, 112, 101]⟩] with
     | true => exact dec_datatype h w p hp ho h_val h_fun h_do h_datatype
     | false =>
      cases h_exception : seesB (l.getD p zTok) [⟨#[101, 120, 99, 101, 112, 116, 105, 111, 110]⟩] with
      | true => exact dec_exception h w p hp ho h_val h_fun h_do h_datatype h_exception
      | false =>
       cases h_root : seesB (l.getD p zTok) [⟨#[114, 111, 111, 116]⟩] with
       | true => exact dec_root h w p hp ho h_val h_fun h_do h_datatype h_exception h_root
       | false =>
        exact dec_none h w p hp ho h_val h_fun h_do h_datatype h_exception h_root

end Go.Proofs.YtjabhmepafofmaaDoor
