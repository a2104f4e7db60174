/- Wr2 -/
import Derived.Test.YtjabhmepafofmaaGreatDoorG05
import Derived.Test.YtjabhmepafofmaaGreatDoorH15
import Derived.Test.YtjabhmepafofmaaGreatDoorH12
import Derived.Test.YtjabhmepafofmaaGreatDoorH37
import Derived.RangeFuncNested
import Derived.RangeFuncBound
import Derived.RangeFuncCalls
import Derived.RangeFuncLeaves
import Derived.Shelf.Abstract
import Derived.Shelf.RegionOpen
import Derived.OwnWalkIn
import Derived.TacticsInMore
import Derived.LoopNIn
import Derived.LoopIn
set_option linter.unusedVariables false
set_option linter.unusedSimpArgs false
namespace Go.Proofs.YtjabhmepafofmaaGreatDoor
open Go.RowKit Go.Shelf
attribute [local go_sem] Oper.semAt_some
set_option maxHeartbeats 8000000 in
set_option maxRecDepth 100000 in
theorem round_semi {gp : Nat} {a : Option Addr} {c : Nat} {l : List Tok} {g : Gr} {n : Nat} (h : Oks gp a c l g) (w : World) (p : Nat) (hp0 : Par w gp a c l p) (ho : Pr.run l (g.pRound n) p ≠ .out) (h_cl : seesB (l.getD p zTok) [⟨#[41]⟩] = false) (x_e : E) (q : Nat) (hr_e : Pr.run l g.exp p = .ok x_e q) (h_co : seesB (l.getD q zTok) [⟨#[44]⟩] = false) (h_se : seesB (l.getD q zTok) [⟨#[59]⟩] = true) :
  Calls Tryz.prog 110 #[.pointer (some ⟨gp, 0, none⟩)] w (Post gp a c l w (stE xE w.heap.size) (Pr.run l (g.pRound n) p)) := by
 have HO := Lib.hid ho
 have HP0 := Lib.hid hp0
 have HH := Lib.hid h
 have hq_p := hp0.le
 have hlen := hp0.len
 have HF : Hid (Fr (Just gp) w w) := Lib.hid (Fr.refl _ _)
 have R_gp : Hid (w.heap[gp]? = some (.cells #[.slice a l.length c, .int .i64 (p : Nat)] 49 (0, 0))) := Lib.hid hp0.blk
 obtain ⟨V, hV⟩ : ∃ V, Pr.run l ((g.pRound n)) p = V := ⟨_, rfl⟩
 rw [hV] at HO ⊢
 clear ho hp0 h
 simp only [Gr.pRound, run_bind, run_skip, run_must, run_take, Pr.run, next, if_true, if_false, Bool.false_eq_true] at hV
 have HV := Lib.hid hV
 clear hV
 refine (callsIn_wide (n := 3)).1 ?_
 refine callsIn_of_wp_marks Tryz.func110 rfl trivial ?_ rfl
 simp only [Tryz.ntmps110, List.size_toArray, List.length_cons, List.length_nil, Nat.reduceAdd, Nat.reduceSub, Array.replicate_succ, Array.replicate_zero, List.push_toArray, List.append_toArray, List.nil_append, List.cons_append]
 rw [wpIn_wide]
 have hgw : gp < w.heap.size := lt_of_block HP0.out.blk
 go_upto_region 1 with fail
 generalize hn : w.alloc _ = w1
 generalize hg : w.heap.size = g_r
 have HS := fa hn
 have R_r := nb hn hg
 have L_gp_r := lb hg R_gp
 have B_r := bs hg HF
 clear hn hg
 replace R_gp := kn HS R_gp
 replace HF := fn HF HS
 clear HS
 go_wp2_with fail
 generalize hn : w1.alloc _ = w2
 generalize hg : w1.heap.size = g_sk1
 have HS := fa hn
 have R_sk1 := nb hn hg
 have L_gp_sk1 := lb hg R_gp
 have L_r_sk1 := lb hg R_r
 have B_sk1 := bs hg HF
 clear hn hg
 replace R_gp := kn HS R_gp
 replace R_r := kn HS R_r
 replace HF := fn HF HS
 clear HS
 have hb_sk1 := h_cl
 simp only [hb_sk1, Re.andThen, run_bind, run_skip, run_must, run_take, Pr.run, next, if_true, if_false, Bool.false_eq_true] at HV
 refine (sk_any (ts := [⟨#[41]⟩]) (n := 1) (Par.of HP0.out HF.out R_gp.out hq_p) R_sk1.out rfl (by omega) hb_sk1).mono ?_
 rintro e w3 ⟨rfl, hf, hp⟩
 replace hp : Par w3 gp a c l p := hp
 clear R_sk1
 have HS := Lib.hid hf
 have RG := Lib.hid hp.blk
 have hq_p := hp.le
 clear hf hp
 replace R_r := kj HS R_r (by omega)
 replace HF := ft HF HS
 replace R_gp := RG
 clear HS RG
 go_wp2_with fail
 simp only [hr_e, Re.andThen, run_bind, run_skip, run_must, run_take, Pr.run, next, if_true, if_false, Bool.false_eq_true] at HV
 have hsz_e : gp < w3.heap.size := lt_of_block R_gp.out
 obtain ⟨b_e, hB⟩ : ∃ bZ, w3.heap.size = bZ := ⟨_, rfl⟩
 have K_gp_e := lb hB R_gp
 have K_r_e := lb hB R_r
 have KB_e := bs hB HF
 clear hsz_e
 refine ((HH.out.exp).good (Par.of HP0.out HF.out R_gp.out hq_p) hr_e).mono ?_
 rintro e w4 ⟨⟨cs_e, rfl, hc⟩, hf, hp⟩
 rw [hB] at hc
 clear hB
 obtain ⟨h_e, hH⟩ : ∃ hZ, w4.heap.size = hZ := ⟨_, rfl⟩
 have I_e := im hH hc
 have Z_h_e : h_e ≤ w4.heap.size := Nat.le_of_eq hH.symm
 clear hc hH
 have HS := Lib.hid hf
 have RG := Lib.hid hp.blk
 have hq_q := hp.le
 clear hf hp
 replace R_r := kj HS R_r (by omega)
 replace HF := ft HF HS
 replace R_gp := RG
 clear HS RG
 obtain ⟨k_e, s_e, n_e, u_e, a1_e, m1_e, c1_e, a2_e, m2_e, c2_e, a3_e, m3_e, c3_e, ecs⟩ := hcE I_e.out
 subst ecs
 go_upto_region 4 with fail
 generalize hn : w4.alloc _ = w5
 generalize hg : w4.heap.size = g_arr
 have HS := fa hn
 have R_arr := nb hn hg
 have L_gp_arr := lb hg R_gp
 have L_r_arr := lb hg R_r
 have B_arr := bs hg HF
 have M_h_e_arr := mz hg Z_h_e
 clear hn hg
 replace R_gp := kn HS R_gp
 replace R_r := kn HS R_r
 replace I_e := ik I_e HS
 replace HF := fn HF HS
 replace Z_h_e := zt Z_h_e HS
 clear HS
 have O_k : Hid (OutG RX 44 7 (fun b => w.heap.size ≤ b ∧ b ≠ g_r) w.heap.size w5 (.slice (some ⟨g_arr, 0, none⟩) 1 1) 1 ([x_e].map xE)) := Lib.hid (out_lits (cs := [[.int .u8 k_e, .string s_e, .int .i64 n_e, .string u_e, .slice a1_e m1_e c1_e, .slice a2_e m2_e c2_e, .slice a3_e m3_e c3_e]]) R_arr.out B_arr rfl rfl (fun c hc => by rw [List.mem_singleton.1 hc]; rfl) (by omega) (fun j t c hj hc => by
  have hj0 : j < 1 := (List.getElem?_eq_some_iff.1 hj).1
  obtain rfl : j = 0 := by omega
  cases hj
  cases hc
  exact I_e.out.mono (fun b _ hb => ⟨⟨by have := hb.1; omega, by have := hb.1; omega⟩, fun (h : b = g_arr) => by have := hb.2; omega⟩)))
 have A_r : Hid (Av (.slice (some ⟨g_arr, 0, none⟩) 1 1) g_r) := Lib.hid (av_ne (by omega))
 clear R_arr I_e
 go_wp2_with fail
 generalize hn : w5.alloc _ = w6
 generalize hg : w5.heap.size = g_sk2
 have HS := fa hn
 have R_sk2 := nb hn hg
 have L_gp_sk2 := lb hg R_gp
 have L_r_sk2 := lb hg R_r
 have B_sk2 := bs hg HF
 have M_h_e_sk2 := mz hg Z_h_e
 clear hn hg
 replace R_gp := kn HS R_gp
 replace R_r := kn HS R_r
 replace O_k := on HS O_k
 replace HF := fn HF HS
 replace Z_h_e := zt Z_h_e HS
 clear HS
 have hb_sk2 := h_co
 simp only [hb_sk2, Re.andThen, run_bind, run_skip, run_must, run_take, Pr.run, next, if_true, if_false, Bool.false_eq_true] at HV
 refine (sk_any (ts := [⟨#[44]⟩]) (n := 1) (Par.of HP0.out HF.out R_gp.out hq_q) R_sk2.out rfl (by omega) hb_sk2).mono ?_
 rintro e w7 ⟨rfl, hf, hp⟩
 replace hp : Par w7 gp a c l q := hp
 clear R_sk2
 have HS := Lib.hid hf
 have RG := Lib.hid hp.blk
 have hq_q := hp.le
 clear hf hp
 replace R_r := kj HS R_r (by omega)
 replace O_k := oj O_k HS (by omega) (fun b hb => by have := hb.1; omega)
 replace HF := ft HF HS
 replace Z_h_e := zt Z_h_e HS
 replace R_gp := RG
 clear HS RG
 go_wp2_with fail
 generalize hn : w7.alloc _ = w8
 generalize hg : w7.heap.size = g_sk3
 have HS := fa hn
 have R_sk3 := nb hn hg
 have L_gp_sk3 := lb hg R_gp
 have L_r_sk3 := lb hg R_r
 have B_sk3 := bs hg HF
 have M_h_e_sk3 := mz hg Z_h_e
 clear hn hg
 replace R_gp := kn HS R_gp
 replace R_r := kn HS R_r
 replace O_k := on HS O_k
 replace HF := fn HF HS
 replace Z_h_e := zt Z_h_e HS
 clear HS
 have hb_sk3 := h_se
 simp only [hb_sk3, Re.andThen, run_bind, run_skip, run_must, run_take, Pr.run, next, if_true, if_false, Bool.false_eq_true] at HV
 refine (sk_any (ts := [⟨#[59]⟩]) (n := 1) (Par.of HP0.out HF.out R_gp.out hq_q) R_sk3.out rfl (by omega) hb_sk3).mono ?_
 rintro e w9 ⟨rfl, hf, hp⟩
 replace hp : Par w9 gp a c l (q + 1) := hp
 clear R_sk3
 have HS := Lib.hid hf
 have RG := Lib.hid hp.blk
 have hq_qP1 := hp.le
 clear hf hp
 replace R_r := kj HS R_r (by omega)
 replace O_k := oj O_k HS (by omega) (fun b hb => by have := hb.1; omega)
 replace HF := ft HF HS
 replace Z_h_e := zt Z_h_e HS
 replace R_gp := RG
 clear HS RG
 go_wp2_with fail
 cases hr_q : Pr.run l (some_ n ⟨#[59]⟩ g.exp) (q + 1) with
 | out =>
  simp only [hr_q, Re.andThen, run_bind, run_skip, run_must, run_take, Pr.run, next, if_true, if_false, Bool.false_eq_true] at HV
  exact absurd HV.out.symm HO.out
 | fail q =>
  simp only [hr_q, Re.andThen, run_bind, run_skip, run_must, run_take, Pr.run, next, if_true, if_false, Bool.false_eq_true] at HV
  refine (((some_exp enters24 HH.out.exp ⟨#[59]⟩ n)).bad (Par.of HP0.out HF.out R_gp.out hq_qP1) hr_q).mono ?_
  rintro e w10 ⟨rfl, hf, hp⟩
  have hv := HV.out
  subst hv
  exact ⟨rfl, HF.out.trans hf (fun _ _ h => h), hp⟩
 | ok x_q q11 =>
  simp only [hr_q, Re.andThen, run_bind, run_skip, run_must, run_take, Pr.run, next, if_true, if_false, Bool.false_eq_true] at HV
  have hsz_q : gp < w9.heap.size := lt_of_block R_gp.out
  obtain ⟨b_q, hB⟩ : ∃ bZ, w9.heap.size = bZ := ⟨_, rfl⟩
  have K_gp_q := lb hB R_gp
  have K_r_q := lb hB R_r
  have KB_q := bs hB HF
  clear hsz_q
  have OB_k_q : Hid (∀ b, (Value.slice (some ⟨g_arr, 0, none⟩) 1 1).ownBlock = some b → b < b_q) := Lib.hid (fun bb hbb => by rw [← hB]; exact (O_k.out.block hbb).2)
  refine (((some_exp enters24 HH.out.exp ⟨#[59]⟩ n)).good (Par.of HP0.out HF.out R_gp.out hq_qP1) hr_q).mono ?_
  rintro e w12 ⟨⟨v_q, rfl, hc⟩, hf, hp⟩
  rw [hB] at hc
  clear hB
  obtain ⟨h_q, hH⟩ : ∃ hZ, w12.heap.size = hZ := ⟨_, rfl⟩
  have I_q := imx hH hc
  have Z_h_q : h_q ≤ w12.heap.size := Nat.le_of_eq hH.symm
  clear hc hH
  have HS := Lib.hid hf
  have RG := Lib.hid hp.blk
  have hq_q11 := hp.le
  clear hf hp
  replace R_r := kj HS R_r (by omega)
  replace O_k := oj O_k HS (by omega) (fun b hb => by have := hb.1; omega)
  replace HF := ft HF HS
  replace Z_h_e := zt Z_h_e HS
  replace R_gp := RG
  clear HS RG
  obtain ⟨al_q, cl_q, evl⟩ := hx_slice I_q.out
  subst evl
  obtain ⟨nl_q, hnl⟩ : ∃ n, List.length (List.map xE x_q) = n := ⟨_, rfl⟩
  rw [hnl] at I_q ⊢
  have hpos : 0 < nl_q := by rw [← hnl, List.length_map]; exact List.length_pos_iff.2 (some_ne hr_q)
  have hnlq : nl_q ≤ q11 + 1 := by rw [← hnl, List.length_map]; exact some_len hr_q
  have hnlE : x_q.length = nl_q := by rw [← hnl, List.length_map]
  clear hnl
  obtain ⟨gq, oq, ds, eaq, hlq, hdq, hdk, hcq, hxq⟩ := hx_rows (by decide) I_q.out hpos
  subst eaq
  have hone : ∀ u ∈ ds.flatten, u.oneCell' = true := fun u hu => by
   obtain ⟨d, hd, hu⟩ := List.mem_flatten.1 hu
   obtain ⟨j, hj⟩ := List.getElem?_of_mem hd
   have hjl := (List.getElem?_eq_some_iff.1 hj).1
   obtain ⟨y, hy⟩ : ∃ y, (x_q.map xE)[j]? = some y := ⟨_, List.getElem?_eq_getElem (by omega)⟩
   have h := hxq j y d hy hj
   rw [List.getElem?_map] at hy
   obtain ⟨t, _, rfl⟩ := Option.map_eq_some_iff.1 hy
   exact oneE h u hu
  go_wp2_with (at_builtin; refine wpList_pushes keptX elemE rfl _ _ 41 rfl Tryz.underlying41 (fun b => w.heap.size ≤ b ∧ b ≠ g_r) w.heap.size (.slice (some ⟨g_arr, 0, none⟩) 1 1) 1 ([x_e].map xE) rfl O_k.out gq oq nl_q cl_q (x_q.map xE) ds rfl hpos hlq hdq hdk hcq hone (fun j t c hj hc => (hxq j t c hj hc).mono (fun b _ hb => ⟨⟨by have := hb.1; omega, by have := hb.1; omega⟩, fun eb => by have := OB_k_q.out b eb; have := hb.1; omega⟩)) (by unfold maxLen; omega) (by omega) (HF.out.size) ?_; intro a13 c13 wn13 HON HGN)
  have A_r' := Lib.hid (HGN.out.avs R_r.out A_r.out)
  replace R_r := Lib.hid (HGN.out.keeps R_r.out A_r.out)
  have A_r := A_r'
  clear A_r'
  replace R_gp := Lib.hid (HGN.out.fr.keeps R_gp.out (fun hb => by have hb : w.heap.size ≤ gp := hb; omega))
  replace HF := Lib.hid (HF.out.trans HGN.out.fr (fun i hi hb => by have hb : w.heap.size ≤ i := hb; omega))
  replace Z_h_e := Nat.le_trans Z_h_e HGN.out.fr.size
  replace Z_h_q := Nat.le_trans Z_h_q HGN.out.fr.size
  have O_k' := Lib.hid (by have h := HON.out; rw [show [x_e].map xE ++ x_q.map xE = ([x_e] ++ x_q).map xE by rw [List.map_append]] at h; exact h)
  clear HON HGN hone hxq hcq hdk hdq hlq
  clear O_k
  have O_k := O_k'
  clear O_k'
  go_wp2_with fail
  have hLq : (x_e :: x_q).length = 1 + nl_q := by rw [List.length_cons, hnlE]; omega
  cases hm_cl : seesB (l.getD q11 zTok) [⟨#[41]⟩] with
  | false =>
   simp only [hm_cl, Re.andThen, run_bind, run_skip, run_must, run_take, Pr.run, next, if_true, if_false, Bool.false_eq_true] at HV
   refine (must_bad (Par.of HP0.out HF.out R_gp.out hq_q11) hm_cl).mono ?_
   rintro e w14 ⟨rfl, hf, hp⟩
   have hv := HV.out
   subst hv
   exact ⟨rfl, HF.out.trans hf (fun _ _ h => h), hp⟩
  | true =>
   simp only [hm_cl, Re.andThen, run_bind, run_skip, run_must, run_take, Pr.run, next, if_true, if_false, Bool.false_eq_true] at HV
   refine (must_good (Par.of HP0.out HF.out R_gp.out hq_q11) hm_cl).mono ?_
   rintro e w15 ⟨rfl, hf, hp⟩
   have HS := Lib.hid hf
   have RG := Lib.hid hp.blk
   have hq_q11P1 := hp.le
   clear hf hp
   replace R_r := kj HS R_r (by omega)
   replace O_k := oj O_k HS (by omega) (fun b hb => by have := hb.1; omega)
   replace HF := ft HF HS
   replace Z_h_e := zt Z_h_e HS
   replace Z_h_q := zt Z_h_q HS
   replace R_gp := RG
   clear HS RG
   simp only [List.cons_append, List.nil_append] at O_k
   obtain ⟨vS, hvS⟩ : ∃ v, v = Value.slice a13 (1 + nl_q) c13 := ⟨_, rfl⟩
   rw [← hvS]
   obtain ⟨L, hL⟩ : ∃ L, x_e :: x_q = L := ⟨_, rfl⟩
   rw [hL] at O_k
   have hv := HV.out
   rw [hL] at hv
   replace HV := Lib.hid hv
   clear hv
   have HSS : ∃ (av : Option Addr) (m m1 cv : Nat), vS = .slice av m cv ∧ m = m1 + 1 ∧ m ≤ 1048578 ∧ L.length = m ∧ Hid (OutG RX 44 7 (fun b => w.heap.size ≤ b ∧ b ≠ g_r) w.heap.size w15 (.slice av m cv) m (L.map xE)) ∧ Hid (Av (.slice av m cv) g_r) := ⟨_, (1 + nl_q), (1 + nl_q) - 1, _, hvS, by omega, by omega, by rw [← hL]; exact hLq, O_k, A_r⟩
   clear O_k A_r hvS hL
   obtain ⟨av, m, m1, cv, rfl, hmm, hmle, hLm, O_k, A_r⟩ := HSS
   obtain ⟨y, hy⟩ : ∃ y, L[m1]? = some y := ⟨_, List.getElem?_eq_getElem (by omega)⟩
   have hyl : L.getLastD zE = y := by
    rw [List.getLastD_eq_getLast?, List.getLast?_eq_getElem?, hLm, hmm, Nat.add_sub_cancel, hy]
    rfl
   obtain ⟨gk, ce, eav, hgk, hle, hce, hxe, hck⟩ := O_k.out.at_ (j := m1) (t := xE y) (by rw [List.getElem?_map, hy]; rfl)
   subst eav
   obtain ⟨k_y, s_y, n_y, u_y, a1_y, m1_y, c1_y, a2_y, m2_y, c2_y, a3_y, m3_y, c3_y, ecs⟩ := hcE hxe
   subst ecs
   have hmi : (m : Int) - 1 = (m1 : Int) := by omega
   have k0 : (0 : Int) ≤ (m1 : Int) := by omega
   have k1 : (m1 : Int) < (m : Int) := by omega
   clear hle
   obtain ⟨d0, d1, d2, d3, d4, d5, d6⟩ : w15.cell? ⟨gk, m1 * 7, none⟩ = some (.int .u8 k_y) ∧ w15.cell? ⟨gk, m1 * 7 + 1, none⟩ = some (.string s_y) ∧ w15.cell? ⟨gk, m1 * 7 + 2, none⟩ = some (.int .i64 n_y) ∧ w15.cell? ⟨gk, m1 * 7 + 3, none⟩ = some (.string u_y) ∧ w15.cell? ⟨gk, m1 * 7 + 4, none⟩ = some (.slice a1_y m1_y c1_y) ∧ w15.cell? ⟨gk, m1 * 7 + 5, none⟩ = some (.slice a2_y m2_y c2_y) ∧ w15.cell? ⟨gk, m1 * 7 + 6, none⟩ = some (.slice a3_y m3_y c3_y) := ⟨hce 0 _ rfl, hce 1 _ rfl, hce 2 _ rfl, hce 3 _ rfl, hce 4 _ rfl, hce 5 _ rfl, hce 6 _ rfl⟩
   have hcap : (m1 : Int) ≤ (cv : Int) := by
    have h := hx_of_out (ok' := fun _ => True) O_k.out (by decide) (fun _ _ _ => trivial) (fun _ _ _ => trivial)
    simp only [Hx] at h
    obtain ⟨a9, c9, e9, _, ⟨h9, _⟩, _⟩ := h
    simp only [Value.slice.injEq] at e9
    rw [List.length_map, hLm] at h9
    omega
   go_wp2_with fail
   clear d0 d1 d2 d3 d4 d5 d6
   obtain ⟨zE1, hzE⟩ : ∃ z, w15.heap.size = z := ⟨_, rfl⟩
   have Z_zE1 : zE1 ≤ w15.heap.size := Nat.le_of_eq hzE.symm
   have I_row : Hid (Hx (fun b => w.heap.size ≤ b ∧ b ≠ g_r ∧ b < zE1) w15 (.row 7 (L.map xE)) (.slice (some ⟨gk, 0, none⟩) m cv)) := Lib.hid (hx_of_own O_k.out (by decide) (fun b hb hB hl => ⟨hB, fun h => A_r.out (by rw [← h]; exact hb), by omega⟩) (fun b hl hb => ⟨hb.1, hb.2, by omega⟩))
   have I_y : Hid (Hc (fun b => w.heap.size ≤ b ∧ b ≠ g_r ∧ b < zE1) w15 (xE y) [.int .u8 k_y, .string s_y, .int .i64 n_y, .string u_y, .slice a1_y m1_y c1_y, .slice a2_y m2_y c2_y, .slice a3_y m3_y c3_y]) := Lib.hid (Hc.mono hxe (fun b hl hb => ⟨hb.1.1, hb.1.2, by omega⟩))
   clear hzE O_k A_r hxe hce
   generalize hn : w15.alloc _ = w16
   generalize hg : w15.heap.size = g_e
   have HS := fa hn
   have R_e := nb hn hg
   have L_gp_e := lb hg R_gp
   have L_r_e := lb hg R_r
   have B_e := bs hg HF
   have M_h_e_e := mz hg Z_h_e
   have M_h_q_e := mz hg Z_h_q
   have M_zE1_e := mz hg Z_zE1
   clear hn hg
   replace R_gp := kn HS R_gp
   replace R_r := kn HS R_r
   replace I_row := Lib.hid (I_row.out.fr HS.out (fun _ _ => no_one))
   replace I_y := Lib.hid (I_y.out.fr HS.out (fun _ _ => no_one))
   replace HF := fn HF HS
   replace Z_h_e := zt Z_h_e HS
   replace Z_h_q := zt Z_h_q HS
   replace Z_zE1 := zt Z_zE1 HS
   clear HS
   refine (backward_any _ _ _ _).mono ?_
   rintro e w3 ⟨rfl, hw3⟩
   go_wp2_with fail
   clear hw3
   obtain ⟨W0, hW0⟩ : ∃ W0, w16.alloc (.cells #[.slice (some ⟨gk, 0, none⟩) m1 cv] 41) = W0 := ⟨_, rfl⟩
   obtain ⟨B1, hB1⟩ : ∃ B1, w16.heap.size = B1 := ⟨_, rfl⟩
   have hF0 : Hid (Fr No w16 W0) := Lib.hid (by rw [← hW0]; exact Fr.alloc _ _)
   have hbs : W0.heap[B1]? = some (.cells #[.slice (some ⟨gk, 0, none⟩) m1 cv] 41 (0, 0)) := by rw [← hW0, ← hB1]; exact new_block _ _
   have hN : W0.heap.size = B1 + 1 := by rw [← hW0, ← hB1]; exact alloc_size _ _
   have hgB : w.heap.size ≤ B1 := by rw [← hB1]; exact HF.out.size
   have hgr1 : g_r < B1 := by rw [← hB1]; exact lt_of_block R_r.out
   have hge1 : g_e < B1 := by rw [← hB1]; exact lt_of_block R_e.out
   rw [hW0, hB1]
   clear hW0 hB1
   replace R_gp := Lib.hid (hF0.out.keeps R_gp.out no_one)
   replace R_r := Lib.hid (hF0.out.keeps R_r.out no_one)
   replace R_e := Lib.hid (hF0.out.keeps R_e.out no_one)
   replace I_row := Lib.hid (I_row.out.fr hF0.out (fun _ _ => no_one))
   replace I_y := Lib.hid (I_y.out.fr hF0.out (fun _ _ => no_one))
   replace HF := Lib.hid (HF.out.trans (hF0.out.just gp) (fun _ _ h => h))
   replace Z_h_e := Nat.le_trans Z_h_e hF0.out.size
   replace Z_h_q := Nat.le_trans Z_h_q hF0.out.size
   replace Z_zE1 := Nat.le_trans Z_zE1 hF0.out.size
   have hrow : Hx (fun b => w.heap.size ≤ b ∧ b ≠ g_e ∧ b ≠ g_r ∧ b < W0.heap.size) W0 (.row 7 (L.map xE)) (.slice (some ⟨gk, 0, none⟩) m cv) := I_row.out.mono (fun b hl hb => ⟨hb.1, by have := hb.2.2; omega, hb.2.1, hl⟩)
   obtain ⟨el, heli, helc⟩ := els_of hrow (by omega) hLm
   refine (wpIn_wide (n := 3)).1 ?_
   refine wpIn_rangeFunc_ownH (F := Fence.wide) rfl (by decide) (gf := 114) (lb := #[.pointer (some ⟨B1, 0, none⟩)]) rfl trivial (enters_of Tryz.func114 (by kernel_rfl) rfl)
    (back_stops Fence.wide (3 - 1) trivial rfl (by decide) B1 m1 cv (some ⟨gk, 0, none⟩) (Sl g_e W0.heap.size) (by omega) el (fun j hj => heli j (by omega)) W0 (by rw [cell_of hbs]; rfl) (by unfold Sl; omega) (fun hm b hS off e => ?hs) (fun j hj => ?hc))
    (fun h k => h.trans k (fun _ _ h => h)) (fun W l o o' hl ho _ _ => Fr.grownR (grownBy_putObj' W l o') (fun k e => by cases e; exact .inr hl)) (Below.refl _ _) (fun _ => rfl)
    (fun pre W => Seqing W0 w.heap.size g_e g_r L y (pre.map Subtype.val) W) (fun _ _ _ => False)
    (fun pre W W' row hI hg hr => hI.turned hg hr) (fun _ _ _ _ _ hs _ _ => hs)
    ⟨Fr.refl _ _, _, R_e.out, I_y.out.mono (fun b hl hb => ⟨hb.1, by have := hb.2.2; omega, hb.2.1⟩)⟩
    (fun x a' W => ∃ Bx, W.heap[Bx]? = some (.cells #[x.1.c0, x.1.c1, x.1.c2, x.1.c3, x.1.c4, x.1.c5, x.1.c6] 44 (0, 0)) ∧ W0.heap.size ≤ Bx ∧ a' = { tmps := #[.pointer (some ⟨gp, 0, none⟩), undef, .pointer (some ⟨g_r, 0, none⟩), .slice (some ⟨gk, 0, none⟩) (m1 + 1) cv, .pointer (some ⟨g_e, 0, none⟩), undef, .pointer (some ⟨Bx, 0, none⟩), .pointer (some ⟨gp, 0, none⟩), .slice (some ⟨g_sk1, 0, none⟩) 1 1, .bool false, undef, .pointer (some ⟨gp, 0, none⟩), .agg #[.int .u8 k_e, .string s_e, .int .i64 n_e, .string u_e, .slice a1_e m1_e c1_e, .slice a2_e m2_e c2_e, .slice a3_e m3_e c3_e], .slice (some ⟨g_arr, 0, none⟩) 1 1, .pointer (some ⟨gp, 0, none⟩), .slice (some ⟨g_sk2, 0, none⟩) 1 1, .bool false, undef, undef, undef, undef, undef, undef, undef, undef, undef, undef, .pointer (some ⟨gp, 0, none⟩), .slice (some ⟨g_sk3, 0, none⟩) 1 1, .bool true, .slice (some ⟨g_arr, 0, none⟩) 1 1, .pointer (some ⟨gp, 0, none⟩), .pointer (some ⟨gp, 0, none⟩), .func (.func 24) #[.pointer (some ⟨gp, 0, none⟩)] #[], .slice (some ⟨gq, oq, none⟩) nl_q cl_q, .slice (some ⟨gk, 0, none⟩) (m1 + 1) cv, .pointer (some ⟨gp, 0, none⟩), .tuple #[], .slice (some ⟨gk, 0, none⟩) (m1 + 1) cv, .slice (some ⟨gk, 0, none⟩) (m1 + 1) cv, .int .i64 ((m1 : Int) + 1), .int .i64 (m1 : Int), .pointer (some ⟨gk, m1 * 7, none⟩), .agg #[.int .u8 k_y, .string s_y, .int .i64 n_y, .string u_y, .slice a1_y m1_y c1_y, .slice a2_y m2_y c2_y, .slice a3_y m3_y c3_y], .slice (some ⟨gk, 0, none⟩) (m1 + 1) cv, .slice (some ⟨gk, 0, none⟩) (m1 + 1) cv, .int .i64 ((m1 : Int) + 1), .int .i64 (m1 : Int), .slice (some ⟨gk, 0, none⟩) m1 cv, .func (.func 114) #[] #[.pointer (some ⟨B1, 0, none⟩)], .int .i64 (x.1.i : Int), .agg #[x.1.c0, x.1.c1, x.1.c2, x.1.c3, x.1.c4, x.1.c5, x.1.c6], undef, undef, undef, undef, undef], defers := [] })
    (fun x a' _ X Y row hs hg hr => ?hax) ?assign ?body ?done ?stop
   case hs =>
    obtain ⟨b1, off1, e1, hb, d0, _⟩ := helc 0 (by omega)
    simp only [Option.some.injEq, Addr.mk.injEq, and_true] at e e1
    obtain ⟨rfl, rfl⟩ := e
    obtain ⟨e1, _⟩ := e1
    rcases hS with h | h
    · exact hb.2.1 (by omega)
    ·
     have := hb.2.2.2
     omega
   case hc =>
    obtain ⟨b, off, e, _, d⟩ := helc j (by omega)
    exact ⟨b, off, e, d⟩
   case hax =>
    obtain ⟨Bx, h1, h0, h2⟩ := hs
    refine ⟨Bx, (hg.block Bx (lt_of_block h1) fun e => ?_).trans h1, h0, h2⟩
    obtain ⟨_, o, ho, hc⟩ := hr Bx e.symm
    rw [h1] at ho
    cases ho
    cases hc
   case assign =>
    rintro l pre ⟨⟨xi, c0, c1, c2, c3, c4, c5, c6⟩, t, ht, hxt⟩ W K hI hK
    obtain ⟨k_z, s_z, n_z, u_z, a1_z, m1_z, c1_z, a2_z, m2_z, c2_z, a3_z, m3_z, c3_z, ecs⟩ := hcE hxt
    simp only [List.cons.injEq, and_true] at ecs
    obtain ⟨rfl, rfl, rfl, rfl, rfl, rfl, rfl⟩ := ecs
    have hsz := hI.1.size
    gi_wp2
    exact hK _ _ ((KeepsOthers.alloc _ _).from _) ((Fr.alloc W _).mono (fun _ _ h => h.elim)) (hI.turned (World.grownBy_alloc W _ none) (fun r e => by cases e)) ⟨W.heap.size, new_block W _, hsz, rfl⟩
   case body =>
    rintro l pre ⟨⟨xi, c0, c1, c2, c3, c4, c5, c6⟩, t, ht, hxt⟩ a' W hl _ hI ⟨Bx, hBx, hBl, rfl⟩ hlt
    have HX := Lib.hid hxt
    obtain ⟨k_z, s_z, n_z, u_z, a1_z, m1_z, c1_z, a2_z, m2_z, c2_z, a3_z, m3_z, c3_z, ecs⟩ := hcE hxt
    simp only [List.cons.injEq, and_true] at ecs
    obtain ⟨rfl, rfl, rfl, rfl, rfl, rfl, rfl⟩ := ecs
    have HI := Lib.hid hI
    obtain ⟨hfr, cs, hcs, hcc⟩ := hI
    obtain ⟨k_v, s_v, n_v, u_v, a1_v, m1_v, c1_v, a2_v, m2_v, c2_v, a3_v, m3_v, c3_v, ecs⟩ := hcE hcc
    subst ecs
    have hsz := hfr.size
    have hgW : g_e < W.heap.size := lt_of_block hcs
    have HCS := Lib.hid hcs
    have HCC := Lib.hid hcc
    have HFR := Lib.hid hfr
    have hne : ¬ g_e = Bx := by omega
    obtain ⟨d0, d1, d2, d3, d4, d5, d6⟩ : W.cell? ⟨g_e, 0, none⟩ = some (.int .u8 k_v) ∧ W.cell? ⟨g_e, 1, none⟩ = some (.string s_v) ∧ W.cell? ⟨g_e, 2, none⟩ = some (.int .i64 n_v) ∧ W.cell? ⟨g_e, 3, none⟩ = some (.string u_v) ∧ W.cell? ⟨g_e, 4, none⟩ = some (.slice a1_v m1_v c1_v) ∧ W.cell? ⟨g_e, 5, none⟩ = some (.slice a2_v m2_v c2_v) ∧ W.cell? ⟨g_e, 6, none⟩ = some (.slice a3_v m3_v c3_v) := ⟨cell_of hcs 0, cell_of hcs 1, cell_of hcs 2, cell_of hcs 3, cell_of hcs 4, cell_of hcs 5, cell_of hcs 6⟩
    obtain ⟨f0, f1, f2, f3, f4, f5, f6⟩ : W.frozen? ⟨g_e, 0, none⟩ = false ∧ W.frozen? ⟨g_e, 1, none⟩ = false ∧ W.frozen? ⟨g_e, 2, none⟩ = false ∧ W.frozen? ⟨g_e, 3, none⟩ = false ∧ W.frozen? ⟨g_e, 4, none⟩ = false ∧ W.frozen? ⟨g_e, 5, none⟩ = false ∧ W.frozen? ⟨g_e, 6, none⟩ = false := ⟨free_of hcs 0, free_of hcs 1, free_of hcs 2, free_of hcs 3, free_of hcs 4, free_of hcs 5, free_of hcs 6⟩
    obtain ⟨b0, b1, b2, b3, b4, b5, b6⟩ : W.cell? ⟨Bx, 0, none⟩ = some (.int .u8 k_z) ∧ W.cell? ⟨Bx, 1, none⟩ = some (.string s_z) ∧ W.cell? ⟨Bx, 2, none⟩ = some (.int .i64 n_z) ∧ W.cell? ⟨Bx, 3, none⟩ = some (.string u_z) ∧ W.cell? ⟨Bx, 4, none⟩ = some (.slice a1_z m1_z c1_z) ∧ W.cell? ⟨Bx, 5, none⟩ = some (.slice a2_z m2_z c2_z) ∧ W.cell? ⟨Bx, 6, none⟩ = some (.slice a3_z m3_z c3_z) := ⟨cell_of hBx 0, cell_of hBx 1, cell_of hBx 2, cell_of hBx 3, cell_of hBx 4, cell_of hBx 5, cell_of hBx 6⟩
    clear hcs hcc hfr hBx HX
    gi_wp2
    obtain ⟨h1, h2, h3⟩ := seq_body HI.out (x := ⟨xi, .int .u8 k_z, .string s_z, .int .i64 n_z, .string u_z, .slice a1_z m1_z c1_z, .slice a2_z m2_z c2_z, .slice a3_z m3_z c3_z⟩) ⟨t, ht, hxt⟩ (by omega) (by omega) (by omega) HCS.out rfl rfl
    refine ⟨h1, h2, ?_⟩
    simp only [List.map_append, List.map_cons, List.map_nil]
    exact h3
   case done =>
    rintro D xs W hD rfl hI hKd
    have HI := Lib.hid hI
    obtain ⟨hfW, cs, hcs, hcc⟩ := hI
    obtain ⟨k_v, s_v, n_v, u_v, a1_v, m1_v, c1_v, a2_v, m2_v, c2_v, a3_v, m3_v, c3_v, ecs⟩ := hcE hcc
    subst ecs
    have HCS := Lib.hid hcs
    have HD := Lib.hid hD
    have HKD := Lib.hid hKd
    have hrW := hfW.keeps R_r.out (by unfold Sl; omega)
    have RW := Lib.hid hrW
    obtain ⟨d0, d1, d2, d3, d4, d5, d6⟩ : W.cell? ⟨g_e, 0, none⟩ = some (.int .u8 k_v) ∧ W.cell? ⟨g_e, 1, none⟩ = some (.string s_v) ∧ W.cell? ⟨g_e, 2, none⟩ = some (.int .i64 n_v) ∧ W.cell? ⟨g_e, 3, none⟩ = some (.string u_v) ∧ W.cell? ⟨g_e, 4, none⟩ = some (.slice a1_v m1_v c1_v) ∧ W.cell? ⟨g_e, 5, none⟩ = some (.slice a2_v m2_v c2_v) ∧ W.cell? ⟨g_e, 6, none⟩ = some (.slice a3_v m3_v c3_v) := ⟨cell_of hcs 0, cell_of hcs 1, cell_of hcs 2, cell_of hcs 3, cell_of hcs 4, cell_of hcs 5, cell_of hcs 6⟩
    obtain ⟨f0, f1, f2, f3, f4, f5, f6⟩ : W.frozen? ⟨g_r, 0, none⟩ = false ∧ W.frozen? ⟨g_r, 1, none⟩ = false ∧ W.frozen? ⟨g_r, 2, none⟩ = false ∧ W.frozen? ⟨g_r, 3, none⟩ = false ∧ W.frozen? ⟨g_r, 4, none⟩ = false ∧ W.frozen? ⟨g_r, 5, none⟩ = false ∧ W.frozen? ⟨g_r, 6, none⟩ = false := ⟨free_of hrW 0, free_of hrW 1, free_of hrW 2, free_of hrW 3, free_of hrW 4, free_of hrW 5, free_of hrW 6⟩
    obtain ⟨b0, b1, b2, b3, b4, b5, b6⟩ : W.cell? ⟨g_r, 0, none⟩ = some (.int .u8 0) ∧ W.cell? ⟨g_r, 1, none⟩ = some (.string ⟨#[]⟩) ∧ W.cell? ⟨g_r, 2, none⟩ = some (.int .i64 0) ∧ W.cell? ⟨g_r, 3, none⟩ = some (.string ⟨#[]⟩) ∧ W.cell? ⟨g_r, 4, none⟩ = some (.slice none 0 0) ∧ W.cell? ⟨g_r, 5, none⟩ = some (.slice none 0 0) ∧ W.cell? ⟨g_r, 6, none⟩ = some (.slice none 0 0) := ⟨cell_of hrW 0, cell_of hrW 1, cell_of hrW 2, cell_of hrW 3, cell_of hrW 4, cell_of hrW 5, cell_of hrW 6⟩
    clear hrW hcs hcc hfW hD hKd
    simp only [Exit.inBlock, Exit.then]
    go_wp2_with fail
    obtain ⟨s1, s2, s3, s4⟩ := seq_done (el := fun j => (el j).1) (cs := [.int .u8 k_v, .string s_v, .int .i64 n_v, .string u_v, .slice a1_v m1_v c1_v, .slice a2_v m2_v c2_v, .slice a3_v m3_v c3_v]) (old := [.int .u8 0, .string ⟨#[]⟩, .int .i64 0, .string ⟨#[]⟩, .slice none 0 0, .slice none 0 0, .slice none 0 0]) (by have h := HI.out; rw [show (downTo el m1 m1).map Subtype.val = downTo (fun j => (el j).1) m1 m1 by simp [downTo]] at h; exact h) (fun j hj => heli j (by omega)) (by omega) hyl HD.out HKD.out (by omega) HCS.out RW.out rfl rfl
    have hv := HV.out
    subst hv
    refine ⟨by simp, .inl ⟨_, _, rfl, run_takeDeferred s2, _, results_st rfl Tryz.underlying44 (by kernel_rfl) _ _ g_r _ rfl rfl s1, ?_⟩⟩
    have hfin := HF.out.trans s4 (fun i hi h => by rcases h with h | h | h <;> omega)
    exact ⟨⟨_, rfl, s3⟩, hfin, Par.of HP0.out hfin (s4.keeps R_gp.out (fun h => by rcases h with h | h | h <;> omega)) hq_q11P1⟩
   case stop =>
    rintro D c pre W _ _ h _
    exact h.elim
end Go.Proofs.YtjabhmepafofmaaGreatDoor
