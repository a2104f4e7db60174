/- Wrt -/
import Derived.Test.YtjabhmepafofmaaGreatDoorG05
import Derived.Test.YtjabhmepafofmaaGreatDoorH12
import Derived.Test.YtjabhmepafofmaaGreatDoorH37
set_option linter.unusedVariables false
set_option linter.unusedSimpArgs false
namespace Go.Proofs.YtjabhmepafofmaaGreatDoor
open Go.RowKit
set_option maxHeartbeats 8000000 in
set_option maxRecDepth 100000 in
theorem round_unit {gp : Nat} {a : Option Addr} {c : Nat} {l : List Tok} {g : Gr} {n : Nat} (h : Oks gp a c l g) (w : World) (p : Nat) (hp0 : Par w gp a c l p) (ho : Pr.run l (g.pRound n) p ≠ .out) (h_cl : seesB (l.getD p zTok) [⟨#[41]⟩] = true) :
  Calls Tryz.prog 110 #[.pointer (some ⟨gp, 0, none⟩)] w (Post gp a c l w (stE xE w.heap.size) (Pr.run l (g.pRound n) p)) := by
 have HO := Lib.hid ho
 have HP0 := Lib.hid hp0
 have HH := Lib.hid h
 have hq_p := hp0.le
 have hlen := hp0.len
 have HF : Hid (Fr (Just gp) w w) := Lib.hid (Fr.refl _ _)
 have R_gp : Hid (w.heap[gp]? = some (.cells #[.slice a l.length c, .int .i64 (p : Nat)] 49 (0, 0))) := Lib.hid hp0.blk
 obtain ⟨V, hV⟩ : ∃ V, Pr.run l ((g.pRound n)) p = V := ⟨_, rfl⟩
 rw [hV] at HO ⊢
 clear ho hp0 h
 simp only [Gr.pRound, run_bind, run_skip, run_must, run_take, Pr.run, next, if_true, if_false, Bool.false_eq_true] at hV
 have HV := Lib.hid hV
 clear hV
 go_enter Tryz.func110, Tryz.ntmps110
 have hgw : gp < w.heap.size := lt_of_block HP0.out.blk
 go_upto_region 1 with fail
 generalize hn : w.alloc _ = w1
 generalize hg : w.heap.size = g_r
 have HS := fa hn
 have R_r := nb hn hg
 have L_gp_r := lb hg R_gp
 have B_r := bs hg HF
 clear hn hg
 replace R_gp := kn HS R_gp
 replace HF := fn HF HS
 clear HS
 go_wp2_with fail
 generalize hn : w1.alloc _ = w2
 generalize hg : w1.heap.size = g_sk
 have HS := fa hn
 have R_sk := nb hn hg
 have L_gp_sk := lb hg R_gp
 have L_r_sk := lb hg R_r
 have B_sk := bs hg HF
 clear hn hg
 replace R_gp := kn HS R_gp
 replace R_r := kn HS R_r
 replace HF := fn HF HS
 clear HS
 have hb_sk := h_cl
 simp only [hb_sk, Re.andThen, run_bind, run_skip, run_must, run_take, Pr.run, next, if_true, if_false, Bool.false_eq_true] at HV
 refine (sk_any (ts := [⟨#[41]⟩]) (n := 1) (Par.of HP0.out HF.out R_gp.out hq_p) R_sk.out rfl (by omega) hb_sk).mono ?_
 rintro e w3 ⟨rfl, hf, hp⟩
 replace hp : Par w3 gp a c l (p + 1) := hp
 clear R_sk
 have HS := Lib.hid hf
 have RG := Lib.hid hp.blk
 have hq_pP1 := hp.le
 clear hf hp
 replace R_r := kj HS R_r (by omega)
 replace HF := ft HF HS
 replace R_gp := RG
 clear HS RG
 go_upto_region 2 with fail
 obtain ⟨d0_r, d1_r, d2_r, d3_r, d4_r, d5_r, d6_r⟩ := z7c R_r.out
 obtain ⟨f0_r, f1_r, f2_r, f3_r, f4_r, f5_r, f6_r⟩ := y7c R_r.out
 go_wp2_with fail
 clear d0_r f0_r d1_r f1_r d2_r f2_r d3_r f3_r d4_r f4_r d5_r f5_r d6_r f6_r
 obtain ⟨w4, hn⟩ : ∃ wZ, setFrom g_r 0 [.int .u8 5, .string ⟨#[]⟩, .int .i64 0, .string ⟨#[]⟩, .slice none 0 0, .slice none 0 0, .slice none 0 0] w3 = wZ := ⟨_, rfl⟩
 have R_r' := sf hn R_r rfl
 have HS := sg hn
 have he := hn
 simp only [setFrom, Nat.reduceAdd] at he
 rw [he]
 clear he
 clear hn
 replace R_gp := kj HS R_gp (by omega)
 replace HF := fb HF HS (by omega)
 have R_r := R_r'
 clear R_r' HS
 (try simp only [Exit.inBlock, Exit.then])
 have hv := HV.out
 subst hv
 refine bodyPost_ret (results_st rfl Tryz.underlying44 (by kernel_rfl) _ _ g_r _ rfl rfl R_r.out) rfl ?_
 exact ⟨⟨_, rfl, hcE_none 5 nob 0 nob⟩, HF.out, (Par.of HP0.out HF.out R_gp.out hq_pP1)⟩
set_option maxHeartbeats 8000000 in
set_option maxRecDepth 100000 in
theorem round_nofirst {gp : Nat} {a : Option Addr} {c : Nat} {l : List Tok} {g : Gr} {n : Nat} (h : Oks gp a c l g) (w : World) (p : Nat) (hp0 : Par w gp a c l p) (ho : Pr.run l (g.pRound n) p ≠ .out) (h_cl : seesB (l.getD p zTok) [⟨#[41]⟩] = false) (q : Nat) (hr_e : Pr.run l g.exp p = .fail q) :
  Calls Tryz.prog 110 #[.pointer (some ⟨gp, 0, none⟩)] w (Post gp a c l w (stE xE w.heap.size) (Pr.run l (g.pRound n) p)) := by
 have HO := Lib.hid ho
 have HP0 := Lib.hid hp0
 have HH := Lib.hid h
 have hq_p := hp0.le
 have hlen := hp0.len
 have HF : Hid (Fr (Just gp) w w) := Lib.hid (Fr.refl _ _)
 have R_gp : Hid (w.heap[gp]? = some (.cells #[.slice a l.length c, .int .i64 (p : Nat)] 49 (0, 0))) := Lib.hid hp0.blk
 obtain ⟨V, hV⟩ : ∃ V, Pr.run l ((g.pRound n)) p = V := ⟨_, rfl⟩
 rw [hV] at HO ⊢
 clear ho hp0 h
 simp only [Gr.pRound, run_bind, run_skip, run_must, run_take, Pr.run, next, if_true, if_false, Bool.false_eq_true] at hV
 have HV := Lib.hid hV
 clear hV
 go_enter Tryz.func110, Tryz.ntmps110
 have hgw : gp < w.heap.size := lt_of_block HP0.out.blk
 go_upto_region 1 with fail
 generalize hn : w.alloc _ = w1
 generalize hg : w.heap.size = g_r
 have HS := fa hn
 have R_r := nb hn hg
 have L_gp_r := lb hg R_gp
 have B_r := bs hg HF
 clear hn hg
 replace R_gp := kn HS R_gp
 replace HF := fn HF HS
 clear HS
 go_wp2_with fail
 generalize hn : w1.alloc _ = w2
 generalize hg : w1.heap.size = g_sk
 have HS := fa hn
 have R_sk := nb hn hg
 have L_gp_sk := lb hg R_gp
 have L_r_sk := lb hg R_r
 have B_sk := bs hg HF
 clear hn hg
 replace R_gp := kn HS R_gp
 replace R_r := kn HS R_r
 replace HF := fn HF HS
 clear HS
 have hb_sk := h_cl
 simp only [hb_sk, Re.andThen, run_bind, run_skip, run_must, run_take, Pr.run, next, if_true, if_false, Bool.false_eq_true] at HV
 refine (sk_any (ts := [⟨#[41]⟩]) (n := 1) (Par.of HP0.out HF.out R_gp.out hq_p) R_sk.out rfl (by omega) hb_sk).mono ?_
 rintro e w3 ⟨rfl, hf, hp⟩
 replace hp : Par w3 gp a c l p := hp
 clear R_sk
 have HS := Lib.hid hf
 have RG := Lib.hid hp.blk
 have hq_p := hp.le
 clear hf hp
 replace R_r := kj HS R_r (by omega)
 replace HF := ft HF HS
 replace R_gp := RG
 clear HS RG
 go_wp2_with fail
 simp only [hr_e, Re.andThen, run_bind, run_skip, run_must, run_take, Pr.run, next, if_true, if_false, Bool.false_eq_true] at HV
 refine ((HH.out.exp).bad (Par.of HP0.out HF.out R_gp.out hq_p) hr_e).mono ?_
 rintro e w4 ⟨rfl, hf, hp⟩
 have hv := HV.out
 subst hv
 exact ⟨rfl, rfl, HF.out.trans hf (fun _ _ h => h), hp⟩
set_option maxHeartbeats 8000000 in
set_option maxRecDepth 100000 in
theorem round_tuple {gp : Nat} {a : Option Addr} {c : Nat} {l : List Tok} {g : Gr} {n : Nat} (h : Oks gp a c l g) (w : World) (p : Nat) (hp0 : Par w gp a c l p) (ho : Pr.run l (g.pRound n) p ≠ .out) (h_cl : seesB (l.getD p zTok) [⟨#[41]⟩] = false) (x_e : E) (q : Nat) (hr_e : Pr.run l g.exp p = .ok x_e q) (h_co : seesB (l.getD q zTok) [⟨#[44]⟩] = true) :
  Calls Tryz.prog 110 #[.pointer (some ⟨gp, 0, none⟩)] w (Post gp a c l w (stE xE w.heap.size) (Pr.run l (g.pRound n) p)) := by
 have HO := Lib.hid ho
 have HP0 := Lib.hid hp0
 have HH := Lib.hid h
 have hq_p := hp0.le
 have hlen := hp0.len
 have HF : Hid (Fr (Just gp) w w) := Lib.hid (Fr.refl _ _)
 have R_gp : Hid (w.heap[gp]? = some (.cells #[.slice a l.length c, .int .i64 (p : Nat)] 49 (0, 0))) := Lib.hid hp0.blk
 obtain ⟨V, hV⟩ : ∃ V, Pr.run l ((g.pRound n)) p = V := ⟨_, rfl⟩
 rw [hV] at HO ⊢
 clear ho hp0 h
 simp only [Gr.pRound, run_bind, run_skip, run_must, run_take, Pr.run, next, if_true, if_false, Bool.false_eq_true] at hV
 have HV := Lib.hid hV
 clear hV
 go_enter Tryz.func110, Tryz.ntmps110
 have hgw : gp < w.heap.size := lt_of_block HP0.out.blk
 go_upto_region 1 with fail
 generalize hn : w.alloc _ = w1
 generalize hg : w.heap.size = g_r
 have HS := fa hn
 have R_r := nb hn hg
 have L_gp_r := lb hg R_gp
 have B_r := bs hg HF
 clear hn hg
 replace R_gp := kn HS R_gp
 replace HF := fn HF HS
 clear HS
 go_wp2_with fail
 generalize hn : w1.alloc _ = w2
 generalize hg : w1.heap.size = g_sk
 have HS := fa hn
 have R_sk := nb hn hg
 have L_gp_sk := lb hg R_gp
 have L_r_sk := lb hg R_r
 have B_sk := bs hg HF
 clear hn hg
 replace R_gp := kn HS R_gp
 replace R_r := kn HS R_r
 replace HF := fn HF HS
 clear HS
 have hb_sk := h_cl
 simp only [hb_sk, Re.andThen, run_bind, run_skip, run_must, run_take, Pr.run, next, if_true, if_false, Bool.false_eq_true] at HV
 refine (sk_any (ts := [⟨#[41]⟩]) (n := 1) (Par.of HP0.out HF.out R_gp.out hq_p) R_sk.out rfl (by omega) hb_sk).mono ?_
 rintro e w3 ⟨rfl, hf, hp⟩
 replace hp : Par w3 gp a c l p := hp
 clear R_sk
 have HS := Lib.hid hf
 have RG := Lib.hid hp.blk
 have hq_p := hp.le
 clear hf hp
 replace R_r := kj HS R_r (by omega)
 replace HF := ft HF HS
 replace R_gp := RG
 clear HS RG
 go_wp2_with fail
 simp only [hr_e, Re.andThen, run_bind, run_skip, run_must, run_take, Pr.run, next, if_true, if_false, Bool.false_eq_true] at HV
 have hsz_e : gp < w3.heap.size := lt_of_block R_gp.out
 obtain ⟨b_e, hB⟩ : ∃ bZ, w3.heap.size = bZ := ⟨_, rfl⟩
 have K_gp_e := lb hB R_gp
 have K_r_e := lb hB R_r
 have KB_e := bs hB HF
 clear hsz_e
 refine ((HH.out.exp).good (Par.of HP0.out HF.out R_gp.out hq_p) hr_e).mono ?_
 rintro e w4 ⟨⟨cs_e, rfl, hc⟩, hf, hp⟩
 rw [hB] at hc
 clear hB
 obtain ⟨h_e, hH⟩ : ∃ hZ, w4.heap.size = hZ := ⟨_, rfl⟩
 have I_e := im hH hc
 have Z_h_e : h_e ≤ w4.heap.size := Nat.le_of_eq hH.symm
 clear hc hH
 have HS := Lib.hid hf
 have RG := Lib.hid hp.blk
 have hq_q := hp.le
 clear hf hp
 replace R_r := kj HS R_r (by omega)
 replace HF := ft HF HS
 replace R_gp := RG
 clear HS RG
 obtain ⟨k_e, s_e, n_e, u_e, a1_e, m1_e, c1_e, a2_e, m2_e, c2_e, a3_e, m3_e, c3_e, ecs⟩ := hcE I_e.out
 subst ecs
 go_upto_region 4 with fail
 generalize hn : w4.alloc _ = w5
 generalize hg : w4.heap.size = g_arr
 have HS := fa hn
 have R_arr := nb hn hg
 have L_gp_arr := lb hg R_gp
 have L_r_arr := lb hg R_r
 have B_arr := bs hg HF
 have M_h_e_arr := mz hg Z_h_e
 clear hn hg
 replace R_gp := kn HS R_gp
 replace R_r := kn HS R_r
 replace I_e := ik I_e HS
 replace HF := fn HF HS
 replace Z_h_e := zt Z_h_e HS
 clear HS
 have O_k : Hid (OutG RX 44 7 (fun b => w.heap.size ≤ b ∧ b ≠ g_r) w.heap.size w5 (.slice (some ⟨g_arr, 0, none⟩) 1 1) 1 ([x_e].map xE)) := Lib.hid (out_lits (cs := [[.int .u8 k_e, .string s_e, .int .i64 n_e, .string u_e, .slice a1_e m1_e c1_e, .slice a2_e m2_e c2_e, .slice a3_e m3_e c3_e]]) R_arr.out B_arr rfl rfl (fun c hc => by rw [List.mem_singleton.1 hc]; rfl) (by omega) (fun j t c hj hc => by
  have hj0 : j < 1 := (List.getElem?_eq_some_iff.1 hj).1
  obtain rfl : j = 0 := by omega
  cases hj
  cases hc
  exact I_e.out.mono (fun b _ hb => ⟨⟨by have := hb.1; omega, by have := hb.1; omega⟩, fun (h : b = g_arr) => by have := hb.2; omega⟩)))
 have A_r : Hid (Av (.slice (some ⟨g_arr, 0, none⟩) 1 1) g_r) := Lib.hid (av_ne (by omega))
 clear R_arr I_e
 go_wp2_with fail
 generalize hn : w5.alloc _ = w6
 generalize hg : w5.heap.size = g_sk
 have HS := fa hn
 have R_sk := nb hn hg
 have L_gp_sk := lb hg R_gp
 have L_r_sk := lb hg R_r
 have B_sk := bs hg HF
 have M_h_e_sk := mz hg Z_h_e
 clear hn hg
 replace R_gp := kn HS R_gp
 replace R_r := kn HS R_r
 replace O_k := on HS O_k
 replace HF := fn HF HS
 replace Z_h_e := zt Z_h_e HS
 clear HS
 have hb_sk := h_co
 simp only [hb_sk, Re.andThen, run_bind, run_skip, run_must, run_take, Pr.run, next, if_true, if_false, Bool.false_eq_true] at HV
 refine (sk_any (ts := [⟨#[44]⟩]) (n := 1) (Par.of HP0.out HF.out R_gp.out hq_q) R_sk.out rfl (by omega) hb_sk).mono ?_
 rintro e w7 ⟨rfl, hf, hp⟩
 replace hp : Par w7 gp a c l (q + 1) := hp
 clear R_sk
 have HS := Lib.hid hf
 have RG := Lib.hid hp.blk
 have hq_qP1 := hp.le
 clear hf hp
 replace R_r := kj HS R_r (by omega)
 replace O_k := oj O_k HS (by omega) (fun b hb => by have := hb.1; omega)
 replace HF := ft HF HS
 replace Z_h_e := zt Z_h_e HS
 replace R_gp := RG
 clear HS RG
 go_wp2_with fail
 cases hr_q : Pr.run l (some_ n ⟨#[44]⟩ g.exp) (q + 1) with
 | out =>
  simp only [hr_q, Re.andThen, run_bind, run_skip, run_must, run_take, Pr.run, next, if_true, if_false, Bool.false_eq_true] at HV
  exact absurd HV.out.symm HO.out
 | fail q =>
  simp only [hr_q, Re.andThen, run_bind, run_skip, run_must, run_take, Pr.run, next, if_true, if_false, Bool.false_eq_true] at HV
  refine (((some_exp enters24 HH.out.exp ⟨#[44]⟩ n)).bad (Par.of HP0.out HF.out R_gp.out hq_qP1) hr_q).mono ?_
  rintro e w8 ⟨rfl, hf, hp⟩
  have hv := HV.out
  subst hv
  exact ⟨rfl, rfl, HF.out.trans hf (fun _ _ h => h), hp⟩
 | ok x_q q9 =>
  simp only [hr_q, Re.andThen, run_bind, run_skip, run_must, run_take, Pr.run, next, if_true, if_false, Bool.false_eq_true] at HV
  have hsz_q : gp < w7.heap.size := lt_of_block R_gp.out
  obtain ⟨b_q, hB⟩ : ∃ bZ, w7.heap.size = bZ := ⟨_, rfl⟩
  have K_gp_q := lb hB R_gp
  have K_r_q := lb hB R_r
  have KB_q := bs hB HF
  clear hsz_q
  have OB_k_q : Hid (∀ b, (Value.slice (some ⟨g_arr, 0, none⟩) 1 1).ownBlock = some b → b < b_q) := Lib.hid (fun bb hbb => by rw [← hB]; exact (O_k.out.block hbb).2)
  refine (((some_exp enters24 HH.out.exp ⟨#[44]⟩ n)).good (Par.of HP0.out HF.out R_gp.out hq_qP1) hr_q).mono ?_
  rintro e w10 ⟨⟨v_q, rfl, hc⟩, hf, hp⟩
  rw [hB] at hc
  clear hB
  obtain ⟨h_q, hH⟩ : ∃ hZ, w10.heap.size = hZ := ⟨_, rfl⟩
  have I_q := imx hH hc
  have Z_h_q : h_q ≤ w10.heap.size := Nat.le_of_eq hH.symm
  clear hc hH
  have HS := Lib.hid hf
  have RG := Lib.hid hp.blk
  have hq_q9 := hp.le
  clear hf hp
  replace R_r := kj HS R_r (by omega)
  replace O_k := oj O_k HS (by omega) (fun b hb => by have := hb.1; omega)
  replace HF := ft HF HS
  replace Z_h_e := zt Z_h_e HS
  replace R_gp := RG
  clear HS RG
  obtain ⟨al_q, cl_q, evl⟩ := hx_slice I_q.out
  subst evl
  obtain ⟨nl_q, hnl⟩ : ∃ n, List.length (List.map xE x_q) = n := ⟨_, rfl⟩
  rw [hnl] at I_q ⊢
  have hpos : 0 < nl_q := by rw [← hnl, List.length_map]; exact List.length_pos_iff.2 (some_ne hr_q)
  have hnlq : nl_q ≤ q9 + 1 := by rw [← hnl, List.length_map]; exact some_len hr_q
  clear hnl
  obtain ⟨gq, oq, ds, eaq, hlq, hdq, hdk, hcq, hxq⟩ := hx_rows (by decide) I_q.out hpos
  subst eaq
  have hone : ∀ u ∈ ds.flatten, u.oneCell' = true := fun u hu => by
   obtain ⟨d, hd, hu⟩ := List.mem_flatten.1 hu
   obtain ⟨j, hj⟩ := List.getElem?_of_mem hd
   have hjl := (List.getElem?_eq_some_iff.1 hj).1
   obtain ⟨y, hy⟩ : ∃ y, (x_q.map xE)[j]? = some y := ⟨_, List.getElem?_eq_getElem (by omega)⟩
   have h := hxq j y d hy hj
   rw [List.getElem?_map] at hy
   obtain ⟨t, _, rfl⟩ := Option.map_eq_some_iff.1 hy
   exact oneE h u hu
  go_wp2_with (at_builtin; refine wpList_pushes keptX elemE rfl _ _ 41 rfl Tryz.underlying41 (fun b => w.heap.size ≤ b ∧ b ≠ g_r) w.heap.size (.slice (some ⟨g_arr, 0, none⟩) 1 1) 1 ([x_e].map xE) rfl O_k.out gq oq nl_q cl_q (x_q.map xE) ds rfl hpos hlq hdq hdk hcq hone (fun j t c hj hc => (hxq j t c hj hc).mono (fun b _ hb => ⟨⟨by have := hb.1; omega, by have := hb.1; omega⟩, fun eb => by have := OB_k_q.out b eb; have := hb.1; omega⟩)) (by unfold maxLen; omega) (by omega) (HF.out.size) ?_; intro a11 c11 wn11 HON HGN)
  have A_r' := Lib.hid (HGN.out.avs R_r.out A_r.out)
  replace R_r := Lib.hid (HGN.out.keeps R_r.out A_r.out)
  have A_r := A_r'
  clear A_r'
  replace R_gp := Lib.hid (HGN.out.fr.keeps R_gp.out (fun hb => by have hb : w.heap.size ≤ gp := hb; omega))
  replace HF := Lib.hid (HF.out.trans HGN.out.fr (fun i hi hb => by have hb : w.heap.size ≤ i := hb; omega))
  replace Z_h_e := Nat.le_trans Z_h_e HGN.out.fr.size
  replace Z_h_q := Nat.le_trans Z_h_q HGN.out.fr.size
  have O_k' := Lib.hid (by have h := HON.out; rw [show [x_e].map xE ++ x_q.map xE = ([x_e] ++ x_q).map xE by rw [List.map_append]] at h; exact h)
  clear HON HGN hone hxq hcq hdk hdq hlq
  clear O_k
  have O_k := O_k'
  clear O_k'
  go_wp2_with fail
  cases hm_cl : seesB (l.getD q9 zTok) [⟨#[41]⟩] with
  | false =>
   simp only [hm_cl, Re.andThen, run_bind, run_skip, run_must, run_take, Pr.run, next, if_true, if_false, Bool.false_eq_true] at HV
   refine (must_bad (Par.of HP0.out HF.out R_gp.out hq_q9) hm_cl).mono ?_
   rintro e w12 ⟨rfl, hf, hp⟩
   have hv := HV.out
   subst hv
   exact ⟨rfl, rfl, HF.out.trans hf (fun _ _ h => h), hp⟩
  | true =>
   simp only [hm_cl, Re.andThen, run_bind, run_skip, run_must, run_take, Pr.run, next, if_true, if_false, Bool.false_eq_true] at HV
   refine (must_good (Par.of HP0.out HF.out R_gp.out hq_q9) hm_cl).mono ?_
   rintro e w13 ⟨rfl, hf, hp⟩
   have HS := Lib.hid hf
   have RG := Lib.hid hp.blk
   have hq_q9P1 := hp.le
   clear hf hp
   replace R_r := kj HS R_r (by omega)
   replace O_k := oj O_k HS (by omega) (fun b hb => by have := hb.1; omega)
   replace HF := ft HF HS
   replace Z_h_e := zt Z_h_e HS
   replace Z_h_q := zt Z_h_q HS
   replace R_gp := RG
   clear HS RG
   obtain ⟨d0_r, d1_r, d2_r, d3_r, d4_r, d5_r, d6_r⟩ := z7c R_r.out
   obtain ⟨f0_r, f1_r, f2_r, f3_r, f4_r, f5_r, f6_r⟩ := y7c R_r.out
   go_wp2_with fail
   clear d0_r f0_r d1_r f1_r d2_r f2_r d3_r f3_r d4_r f4_r d5_r f5_r d6_r f6_r
   obtain ⟨w14, hn⟩ : ∃ wZ, setFrom g_r 0 [.int .u8 6, .string ⟨#[]⟩, .int .i64 0, .string ⟨#[]⟩, .slice a11 (1 + nl_q) c11, .slice none 0 0, .slice none 0 0] w13 = wZ := ⟨_, rfl⟩
   have R_r' := sf hn R_r rfl
   have HS := sg hn
   have he := hn
   simp only [setFrom, Nat.reduceAdd] at he
   rw [he]
   clear he
   clear hn
   replace R_gp := kj HS R_gp (by omega)
   replace O_k := Lib.hid (O_k.out.keep keptX HS.out (fun b hb (h : b = g_r) => by have := hb.1; have := hb.2; omega) (fun b hb (h : b = g_r) => A_r.out (by rw [← h]; exact hb)))
   replace HF := fb HF HS (by omega)
   replace Z_h_e := zt Z_h_e HS
   replace Z_h_q := zt Z_h_q HS
   have R_r := R_r'
   clear R_r' HS
   (try simp only [Exit.inBlock, Exit.then])
   have hv := HV.out
   subst hv
   refine bodyPost_ret (results_st rfl Tryz.underlying44 (by kernel_rfl) _ _ g_r _ rfl rfl R_r.out) rfl ?_
   exact ⟨⟨_, rfl, hcE_kids 6 nob 0 nob (hx_of_out O_k.out (by decide) (fun b hb _ => hb) (fun b _ hb => hb.1))⟩, HF.out, (Par.of HP0.out HF.out R_gp.out hq_q9P1)⟩
end Go.Proofs.YtjabhmepafofmaaGreatDoor
