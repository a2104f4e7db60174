/- Wlv, Bw, Ro, Kc -/
import Derived.Test.YtjabhmepafofmaaGreatDoorG05
import Derived.Test.YtjabhmepafofmaaGreatDoorH02
import Derived.RangeFuncNested
import Derived.RangeFuncBound
import Derived.RangeFuncCalls
import Derived.RangeFuncLeaves
import Derived.Shelf.Abstract
import Derived.Shelf.RegionOpen
import Derived.OwnWalkIn
import Derived.TacticsInMore
import Derived.LoopNIn
import Derived.LoopIn
set_option linter.unusedVariables false
set_option linter.unusedSimpArgs false
namespace Go.Proofs.YtjabhmepafofmaaGreatDoor
open Go.RowKit
set_option maxHeartbeats 4000000 in
set_option maxRecDepth 100000 in
theorem level_step {gp : Nat} {a : Option Addr} {c : Nat} {l : List Tok} {g : Gr} {n : Nat} (lv : Nat) (hlv : lv ≤ 5) (h : Oks gp a c l g) : CT gp a c l 55 [.int .i64 (lv : Nat)] (stE xE) (g.pLevel n lv) := by
 intro w p hp0 ho
 have HO := Lib.hid ho
 have HP0 := Lib.hid hp0
 have HH := Lib.hid h
 have hq_p := hp0.le
 have hlen := hp0.len
 have HF : Hid (Fr (Just gp) w w) := Lib.hid (Fr.refl _ _)
 have R_gp : Hid (w.heap[gp]? = some (.cells #[.slice a l.length c, .int .i64 (p : Nat)] 49 (0, 0))) := Lib.hid hp0.blk
 obtain ⟨V, hV⟩ : ∃ V, Pr.run l ((g.pLevel n lv)) p = V := ⟨_, rfl⟩
 rw [hV] at HO ⊢
 clear ho hp0 h
 simp only [Gr.pLevel, run_bind, run_skip, run_must, run_take, Pr.run, next, if_true, if_false, Bool.false_eq_true] at hV
 have HV := Lib.hid hV
 clear hV
 go_enter Tryz.func55, Tryz.ntmps55
 have hgw : gp < w.heap.size := lt_of_block HP0.out.blk
 have HG : Hid (Lev w gp) := Lib.hid HP0.out.lev
 go_upto_region 1 with fail
 generalize hn : w.alloc _ = w1
 generalize hg : w.heap.size = g_r
 have HS := fa hn
 have R_r := nb hn hg
 have L_gp_r := lb hg R_gp
 have B_r := bs hg HF
 clear hn hg
 replace R_gp := kn HS R_gp
 replace HF := fn HF HS
 clear HS
 by_cases h5 : lv = 5
 ·
  have hv := HV.out
  rw [if_pos h5] at hv
  replace HV := Lib.hid hv
  clear hv
  have hq5 : ((lv : Int) == 5) = true := by simp [h5]
  obtain ⟨bL, oL, cL, d00, _⟩ := (HG.out.fr HF.out).2
  clear hlv h5 HG
  go_wp2_with fail
  skip
  cases hr_e : Pr.run l g.calls p with
  | out =>
   simp only [hr_e, Re.andThen, run_bind, run_skip, run_must, run_take, Pr.run, next, if_true, if_false, Bool.false_eq_true] at HV
   exact absurd HV.out.symm HO.out
  | fail q =>
   simp only [hr_e, Re.andThen, run_bind, run_skip, run_must, run_take, Pr.run, next, if_true, if_false, Bool.false_eq_true] at HV
   refine ((HH.out.calls).bad (Par.of HP0.out HF.out R_gp.out hq_p) hr_e).mono ?_
   rintro e w2 ⟨rfl, hf, hp⟩
   have hv := HV.out
   subst hv
   exact ⟨rfl, rfl, HF.out.trans hf (fun _ _ h => h), hp⟩
  | ok x_e q3 =>
   simp only [hr_e, Re.andThen, run_bind, run_skip, run_must, run_take, Pr.run, next, if_true, if_false, Bool.false_eq_true] at HV
   have hsz_e : gp < w1.heap.size := lt_of_block R_gp.out
   obtain ⟨b_e, hB⟩ : ∃ bZ, w1.heap.size = bZ := ⟨_, rfl⟩
   have K_gp_e := lb hB R_gp
   have K_r_e := lb hB R_r
   have KB_e := bs hB HF
   clear hsz_e
   refine ((HH.out.calls).good (Par.of HP0.out HF.out R_gp.out hq_p) hr_e).mono ?_
   rintro e w4 ⟨⟨cs_e, rfl, hc⟩, hf, hp⟩
   rw [hB] at hc
   clear hB
   obtain ⟨h_e, hH⟩ : ∃ hZ, w4.heap.size = hZ := ⟨_, rfl⟩
   have I_e := im hH hc
   have Z_h_e : h_e ≤ w4.heap.size := Nat.le_of_eq hH.symm
   clear hc hH
   have HS := Lib.hid hf
   have RG := Lib.hid hp.blk
   have hq_q3 := hp.le
   clear hf hp
   replace R_r := kj HS R_r (by omega)
   replace HF := ft HF HS
   replace R_gp := RG
   clear HS RG
   obtain ⟨k_e, s_e, n_e, u_e, a1_e, m1_e, c1_e, a2_e, m2_e, c2_e, a3_e, m3_e, c3_e, ecs⟩ := hcE I_e.out
   subst ecs
   obtain ⟨d0_r, d1_r, d2_r, d3_r, d4_r, d5_r, d6_r⟩ := z7c R_r.out
   obtain ⟨f0_r, f1_r, f2_r, f3_r, f4_r, f5_r, f6_r⟩ := y7c R_r.out
   go_wp2_with fail
   clear d0_r f0_r d1_r f1_r d2_r f2_r d3_r f3_r d4_r f4_r d5_r f5_r d6_r f6_r
   obtain ⟨w5, hn⟩ : ∃ wZ, setFrom g_r 0 [.int .u8 k_e, .string s_e, .int .i64 n_e, .string u_e, .slice a1_e m1_e c1_e, .slice a2_e m2_e c2_e, .slice a3_e m3_e c3_e] w4 = wZ := ⟨_, rfl⟩
   have R_r' := sf hn R_r rfl
   have HS := sg hn
   have he := hn
   simp only [setFrom, Nat.reduceAdd] at he
   rw [he]
   clear he
   clear hn
   replace R_gp := kj HS R_gp (by omega)
   replace I_e := ij I_e HS (by omega)
   replace HF := fb HF HS (by omega)
   replace Z_h_e := zt Z_h_e HS
   have R_r := R_r'
   clear R_r' HS
   (try simp only [Exit.inBlock, Exit.then])
   have hv := HV.out
   subst hv
   refine bodyPost_ret (results_st rfl Tryz.underlying44 (by kernel_rfl) _ _ g_r _ rfl rfl R_r.out) rfl ?_
   exact ⟨⟨_, rfl, I_e.out.mono (fun b _ hb => by have := hb.1; omega)⟩, HF.out, (Par.of HP0.out HF.out R_gp.out hq_q3)⟩
 have h4 : lv < 5 := by omega
 have hv := HV.out
 rw [if_neg h5] at hv
 replace HV := Lib.hid hv
 clear hv
 have hq5 : ((lv : Int) == 5) = false := by simp only [beq_eq_false_iff_ne, ne_eq]; omega
 clear h5
 obtain ⟨hg0, bL, oL, cL, e00, ebL, elv⟩ := HG.out
 obtain ⟨a3, c3, e0, e1, e2⟩ := elv lv h4
 obtain ⟨m3, hm3⟩ : ∃ m, (Gr.ops lv).length = m := ⟨_, rfl⟩
 rw [hm3] at e1
 have hm36 : m3 ≤ 6 := by
  rw [← hm3]
  have : lv = 0 ∨ lv = 1 ∨ lv = 2 ∨ lv = 3 ∨ lv = 4 := by omega
  rcases this with rfl | rfl | rfl | rfl | rfl <;> decide
 have HK : Hid (∀ w', Fr (Just gp) w w' → w'.cell? ⟨0, 0, none⟩ = some (.slice (some ⟨bL, oL, none⟩) 5 cL) ∧ w'.cell? ⟨bL, oL + lv * 2, none⟩ = some (.int .i64 (Gr.rows lv : Nat)) ∧ w'.cell? ⟨bL, oL + lv * 2 + 1, none⟩ = some (.slice a3 m3 c3) ∧ Texts w' a3 (Gr.ops lv)) := Lib.hid (fun w' hf => by
  have keep : ∀ (x o : Nat) (v : Value), x ≠ gp → w.cell? ⟨x, o, none⟩ = some v → w'.cell? ⟨x, o, none⟩ = some v := fun x o v hx hc =>
   (World.cell?_of_block (hf.block x (World.block_lt_of_cell? w _ hc) (fun (e : x = gp) => hx e))).trans hc
  refine ⟨keep _ _ _ (fun e => hg0 e.symm) e00, keep _ _ _ ebL e0, keep _ _ _ ebL e1, fun j s hj => ?_⟩
  obtain ⟨b2, off2, e, hb2, h4⟩ := e2 j s hj
  exact ⟨b2, off2, e, keep _ _ _ hb2 h4⟩)
 have HM3 := Lib.hid hm3
 clear hg0 e00 ebL elv e0 e1 e2 HG hm3
 obtain ⟨l00, l01, l02, ltx⟩ := HK.out _ HF.out
 clear ltx
 go_wp2_with fail
 clear l00 l01 l02
 cases hr_a : Pr.run l (g.level (lv + 1)) p with
 | out =>
  simp only [hr_a, Re.andThen, run_bind, run_skip, run_must, run_take, Pr.run, next, if_true, if_false, Bool.false_eq_true] at HV
  exact absurd HV.out.symm HO.out
 | fail q =>
  simp only [hr_a, Re.andThen, run_bind, run_skip, run_must, run_take, Pr.run, next, if_true, if_false, Bool.false_eq_true] at HV
  refine ((HH.out.level (lv + 1) (by omega)).bad (Par.of HP0.out HF.out R_gp.out hq_p) hr_a).mono ?_
  rintro e w6 ⟨rfl, hf, hp⟩
  have hv := HV.out
  subst hv
  exact ⟨rfl, rfl, HF.out.trans hf (fun _ _ h => h), hp⟩
 | ok x_a q7 =>
  simp only [hr_a, Re.andThen, run_bind, run_skip, run_must, run_take, Pr.run, next, if_true, if_false, Bool.false_eq_true] at HV
  have hsz_a : gp < w1.heap.size := lt_of_block R_gp.out
  obtain ⟨b_a, hB⟩ : ∃ bZ, w1.heap.size = bZ := ⟨_, rfl⟩
  have K_gp_a := lb hB R_gp
  have K_r_a := lb hB R_r
  have KB_a := bs hB HF
  clear hsz_a
  refine ((HH.out.level (lv + 1) (by omega)).good (Par.of HP0.out HF.out R_gp.out hq_p) hr_a).mono ?_
  rintro e w8 ⟨⟨cs_a, rfl, hc⟩, hf, hp⟩
  rw [hB] at hc
  clear hB
  obtain ⟨h_a, hH⟩ : ∃ hZ, w8.heap.size = hZ := ⟨_, rfl⟩
  have I_a := im hH hc
  have Z_h_a : h_a ≤ w8.heap.size := Nat.le_of_eq hH.symm
  clear hc hH
  have HS := Lib.hid hf
  have RG := Lib.hid hp.blk
  have hq_q7 := hp.le
  clear hf hp
  replace R_r := kj HS R_r (by omega)
  replace HF := ft HF HS
  replace R_gp := RG
  clear HS RG
  obtain ⟨k_a, s_a, n_a, u_a, a1_a, m1_a, c1_a, a2_a, m2_a, c2_a, a3_a, m3_a, c3_a, ecs⟩ := hcE I_a.out
  subst ecs
  go_upto_region 4 with fail
  generalize hn : w8.alloc _ = w9
  generalize hg : w8.heap.size = g_t
  have HS := fa hn
  have R_t := nb hn hg
  have L_gp_t := lb hg R_gp
  have L_r_t := lb hg R_r
  have B_t := bs hg HF
  have M_h_a_t := mz hg Z_h_a
  clear hn hg
  replace R_gp := kn HS R_gp
  replace R_r := kn HS R_r
  replace I_a := ik I_a HS
  replace HF := fn HF HS
  replace Z_h_a := zt Z_h_a HS
  clear HS
  obtain ⟨l00, l01, l02, ltx⟩ := HK.out _ HF.out
  clear ltx
  have k0 : (0 : Int) ≤ (lv : Int) := by omega
  have k1 : (lv : Int) < 5 := by omega
  go_wp2_with fail
  clear l00 l01 l02
  generalize hn : w9.alloc _ = w10
  generalize hg : w9.heap.size = g_x
  have HS := fa hn
  have R_x := nb hn hg
  have L_gp_x := lb hg R_gp
  have L_r_x := lb hg R_r
  have L_t_x := lb hg R_t
  have B_x := bs hg HF
  have M_h_a_x := mz hg Z_h_a
  clear hn hg
  replace R_gp := kn HS R_gp
  replace R_r := kn HS R_r
  replace R_t := kn HS R_t
  replace I_a := ik I_a HS
  replace HF := fn HF HS
  replace Z_h_a := zt Z_h_a HS
  clear HS
  go_loopw [6] (fun v wx => ∃ (q j gx : Nat) (x : E) (k_x : Nat) (s_x : ByteArray) (n_x : Int) (u_x : ByteArray) (a1_x : Option Addr) (m1_x c1_x : Nat) (a2_x : Option Addr) (m2_x c2_x : Nat) (a3_x : Option Addr) (m3_x c3_x : Nat), v = .pointer (some ⟨gx, 0, none⟩) ∧ w.heap.size ≤ gx ∧ gx ≠ g_t ∧ gx ≠ g_r ∧ q ≤ l.length ∧ posOf gp wx = q ∧ Hid (wx.heap[g_t]? = some (.cells #[.int .u8 k_x, .string s_x, .int .i64 n_x, .string u_x, .slice a1_x m1_x c1_x, .slice a2_x m2_x c2_x, .slice a3_x m3_x c3_x] 44 (0, 0))) ∧ Hid (wx.heap[g_r]? = some (.cells #[.int .u8 0, .string ⟨#[]⟩, .int .i64 0, .string ⟨#[]⟩, .slice none 0 0, .slice none 0 0, .slice none 0 0] 44 (0, 0))) ∧ Hid (wx.heap[gx]? = some (.cells #[.int .i64 (Gr.rows lv : Nat), .slice a3 m3 c3] 120 (0, 0))) ∧ Hid (Hc (fun b => w.heap.size ≤ b ∧ b ≠ g_t ∧ b ≠ g_r) wx (xE x) [.int .u8 k_x, .string s_x, .int .i64 n_x, .string u_x, .slice a1_x m1_x c1_x, .slice a2_x m2_x c2_x, .slice a3_x m3_x c3_x]) ∧ Hid (wx.heap[gp]? = some (.cells #[.slice a l.length c, .int .i64 (q : Nat)] 49 (0, 0))) ∧ Hid (Fr (Just gp) w wx) ∧ Hid (Pr.run l (g.opsL lv j x) q = V)) (fun v wx => l.length - posOf gp wx)
  case atStart => exact ⟨q7, n, _, x_a, _, _, _, _, _, _, _, _, _, _, _, _, _, rfl, B_x, by omega, by omega, hq_q7, posOf_at R_gp.out, R_t, R_r, R_x, Lib.hid (I_a.out.mono (fun b _ hb => ⟨by have := hb.1; omega, fun (h : b = g_t) => by have := hb.2; omega, fun (h : b = g_r) => by have := hb.1; omega⟩)), R_gp, HF, HV⟩
  case round =>
   clear R_t R_r R_x I_a R_gp HF HV Z_h_a L_r_x L_gp_x L_t_x M_h_a_x B_x
   obtain ⟨q, j, gx, x, k_x, s_x, n_x, u_x, a1_x, m1_x, c1_x, a2_x, m2_x, c2_x, a3_x, m3_x, c3_x, rfl, hgx, hgx1, hgx2, hq_q, hpq, R_t, R_r, R_x, I_x, R_gp, HF, HV⟩ := hrel
   obtain ⟨wL, hwL⟩ : ∃ wL, wL = wr := ⟨wr, rfl⟩
   rw [← hwL] at R_t R_r R_x I_x R_gp HF ⊢
   try rw [← hwL] at hpq
   clear hwL
   have LX : gp < gx := by omega
   have hv := HV.out
   cases j with
   | zero => exact absurd hv.symm HO.out
   | succ j =>
    simp only [Gr.opsL, Re.andThen, run_bind, run_skip, run_must, run_take, Pr.run, next, if_true, if_false, Bool.false_eq_true] at hv
    replace HV := Lib.hid hv
    clear hv
    obtain ⟨d0_x, d1_x⟩ := z2c R_x.out
    obtain ⟨f0_x, f1_x⟩ := y2c R_x.out
    go_wp2_with fail
    clear d0_x f0_x d1_x f1_x
    cases hst : seesB (l.getD q zTok) (Gr.ops lv) with
    | true =>
     simp only [hst, run_bind, run_skip, run_must, run_take, Pr.run, next, if_true, if_false, Bool.false_eq_true] at HV
     have hss := sees_any gp a c l q (Gr.ops lv) a3 m3 c3 wL (Par.of HP0.out HF.out R_gp.out hq_q) HM3.out (by omega) (HK.out _ HF.out).2.2.2
     rw [hst] at hss
     refine hss.mono ?_
     rintro e w11 ⟨rfl, hf⟩
     clear hss
     have HS := Lib.hid hf
     clear hf
     replace R_gp := kn HS R_gp
     replace R_r := kn HS R_r
     replace R_t := kn HS R_t
     replace R_x := kn HS R_x
     replace I_x := Lib.hid (I_x.out.fr HS.out (fun _ _ => no_one))
     replace HF := fn HF HS
     clear HS
     go_wp2_with fail
     obtain ⟨⟨kt_u, st_u, mt_u, qt_u⟩, ht⟩ : ∃ t, l.getD q zTok = t := ⟨_, rfl⟩
     refine (next_any gp a c l q w11 (Par.of HP0.out HF.out R_gp.out hq_q)).mono ?_
     rintro e w12 ⟨rfl, hf⟩
     rw [ht]
     simp only [tokV]
     have hv := HV.out
     (try simp only [Re.andThen, run_bind, run_skip, run_must, run_take, Pr.run, next, if_true, if_false, Bool.false_eq_true] at hv)
     (try simp only [ht] at hv)
     replace HV := Lib.hid hv
     have HT_u := Lib.hid ht
     clear hv ht
     have HS := Lib.hid hf
     clear hf
     replace R_gp := kn HS R_gp
     replace R_r := kn HS R_r
     replace R_t := kn HS R_t
     replace R_x := kn HS R_x
     replace I_x := Lib.hid (I_x.out.fr HS.out (fun _ _ => no_one))
     replace HF := fn HF HS
     clear HS
     go_wp2_with fail
     simp only [field49_1]
     obtain ⟨d0_gp, d1_gp⟩ := z2c R_gp.out
     obtain ⟨f0_gp, f1_gp⟩ := y2c R_gp.out
     go_upto_region 8 with fail
     clear d0_gp f0_gp d1_gp f1_gp
     have hpl : q < l.length := sees_lt hst
     obtain ⟨w13, hn⟩ : ∃ wZ, w12.setCell ⟨gp, 1, none⟩ (.int .i64 ((q : Nat) + 1)) = wZ := ⟨_, rfl⟩
     have hp : Par w13 gp a c l (q + 1) := by rw [← hn]; exact ((Par.of HP0.out HF.out R_gp.out hq_q)).set hpl
     have hf : Fr (Just gp) w12 w13 := by rw [← hn]; exact Fr.setCell w12 ⟨gp, 1, none⟩ _
     rw [hn]
     clear hn hpl
     have HS := Lib.hid hf
     have RG := Lib.hid hp.blk
     have hq_qP1 := hp.le
     clear hf hp
     replace R_r := kj HS R_r (by omega)
     replace R_t := kj HS R_t (by omega)
     replace R_x := kj HS R_x (by omega)
     replace I_x := Lib.hid (I_x.out.fr HS.out (fun b hb (h : b = gp) => by have := hb.1; have := hb.2; omega))
     replace HF := ft HF HS
     replace R_gp := RG
     clear HS RG
     by_cases hr1 : Gr.rows lv = 1
     ·
      have hqr : (((Gr.rows lv : Nat) : Int) == 1) = true := by simp [hr1]
      have hv := HV.out
      rw [if_pos hr1] at hv
      replace HV := Lib.hid hv
      clear hv
      have hr2 : ¬ Gr.rows lv = 2 := by omega
      obtain ⟨d0_x, d1_x⟩ := z2c R_x.out
      obtain ⟨f0_x, f1_x⟩ := y2c R_x.out
      go_upto_region 10 with fail
      clear d0_x f0_x d1_x f1_x
      refine region_e (fun w' => w'.cell? ⟨g_t, 0, none⟩ = some (.int .u8 k_x) ∧ w'.cell? ⟨g_t, 1, none⟩ = some (.string s_x) ∧ w'.cell? ⟨g_t, 2, none⟩ = some (.int .i64 n_x) ∧ w'.cell? ⟨g_t, 3, none⟩ = some (.string u_x) ∧ w'.cell? ⟨g_t, 4, none⟩ = some (.slice a1_x m1_x c1_x) ∧ w'.cell? ⟨g_t, 5, none⟩ = some (.slice a2_x m2_x c2_x) ∧ w'.cell? ⟨g_t, 6, none⟩ = some (.slice a3_x m3_x c3_x)) [7] (by kernel_rfl) ?_ (fun hHeld => ?_)
      · exact ⟨cell_of ((Fr.drew w13).keeps R_t.out no_one) 0, cell_of ((Fr.drew w13).keeps R_t.out no_one) 1, cell_of ((Fr.drew w13).keeps R_t.out no_one) 2, cell_of ((Fr.drew w13).keeps R_t.out no_one) 3, cell_of ((Fr.drew w13).keeps R_t.out no_one) 4, cell_of ((Fr.drew w13).keeps R_t.out no_one) 5, cell_of ((Fr.drew w13).keeps R_t.out no_one) 6⟩
      obtain ⟨w14, hwd⟩ : ∃ wZ, wZ = w13.drew := ⟨_, rfl⟩
      have HS : Hid (Fr No w13 w14) := Lib.hid (by rw [hwd]; exact Fr.drew _)
      rw [← hwd] at hHeld ⊢
      clear hwd
      replace R_gp := kn HS R_gp
      replace R_r := kn HS R_r
      replace R_t := kn HS R_t
      replace R_x := kn HS R_x
      replace I_x := Lib.hid (I_x.out.fr HS.out (fun _ _ => no_one))
      replace HF := fn HF HS
      clear HS
      refine take_op 0 (some 43) (Op.move ( .tmp 7)) 9 ?_ (by kernel_rfl) (by kernel_rfl) (by kernel_rfl) (fun _ _ _ h => h) ?_ (by assumption) ?_
      rotate_left
      · intro w hSw; (try dsimp only at hSw); go_simp; (try (with_reducible rfl))
      try simp only [Act.put, List.setIfInBounds_toArray, List.set_cons_zero, List.set_cons_succ]
      refine take_op 1 (some 44) (Op.load 44 ( .tmp 5)) 44 ?_ (by kernel_rfl) (by kernel_rfl) (by kernel_rfl) (fun _ _ _ h => h) ?_ (by assumption) ?_
      rotate_left
      · intro w hSw; (try dsimp only at hSw); go_simp; (try (with_reducible rfl))
      try simp only [Act.put, List.setIfInBounds_toArray, List.set_cons_zero, List.set_cons_succ]
      refine take_op 2 (some 45) (Op.move ( .tmp 0)) 47 ?_ (by kernel_rfl) (by kernel_rfl) (by kernel_rfl) (fun _ _ _ h => h) ?_ (by assumption) ?_
      rotate_left
      · intro w hSw; (try dsimp only at hSw); go_simp; (try (with_reducible rfl))
      try simp only [Act.put, List.setIfInBounds_toArray, List.set_cons_zero, List.set_cons_succ]
      refine take_op 3 (some 46) (Op.move ( .tmp 8)) 3 ?_ (by kernel_rfl) (by kernel_rfl) (by kernel_rfl) (fun _ _ _ h => h) ?_ (by assumption) ?_
      rotate_left
      · intro w hSw; (try dsimp only at hSw); go_simp; (try (with_reducible rfl))
      try simp only [Act.put, List.setIfInBounds_toArray, List.set_cons_zero, List.set_cons_succ]
      refine ready_e (rs := [4]) (by kernel_rfl) (by simp) ?_
      refine (do_mid (o := _) rfl (fun K hK => ?_) none_e)
      go_simp
      go_at_call 55
      cases hr_e : Pr.run l (g.level lv) (q + 1) with
      | out =>
       simp only [hr_e, Re.andThen, run_bind, run_skip, run_must, run_take, Pr.run, next, if_true, if_false, Bool.false_eq_true] at HV
       exact absurd HV.out.symm HO.out
      | fail q =>
       simp only [hr_e, Re.andThen, run_bind, run_skip, run_must, run_take, Pr.run, next, if_true, if_false, Bool.false_eq_true] at HV
       refine ((HH.out.level lv (by omega)).bad (Par.of HP0.out HF.out R_gp.out hq_qP1) hr_e).mono ?_
       rintro e w15 ⟨rfl, hf, hp⟩
       have hv := HV.out
       subst hv
       exact ⟨rfl, rfl, HF.out.trans hf (fun _ _ h => h), hp⟩
      | ok x_e q16 =>
       simp only [hr_e, Re.andThen, run_bind, run_skip, run_must, run_take, Pr.run, next, if_true, if_false, Bool.false_eq_true] at HV
       have hsz_e : gp < w14.heap.size := lt_of_block R_gp.out
       obtain ⟨b_e, hB⟩ : ∃ bZ, w14.heap.size = bZ := ⟨_, rfl⟩
       have K_gp_e := lb hB R_gp
       have K_r_e := lb hB R_r
       have K_t_e := lb hB R_t
       have K_x_e := lb hB R_x
       have KB_e := bs hB HF
       clear hsz_e
       refine ((HH.out.level lv (by omega)).good (Par.of HP0.out HF.out R_gp.out hq_qP1) hr_e).mono ?_
       rintro e w17 ⟨⟨cs_e, rfl, hc⟩, hf, hp⟩
       rw [hB] at hc
       clear hB
       obtain ⟨h_e, hH⟩ : ∃ hZ, w17.heap.size = hZ := ⟨_, rfl⟩
       have I_e := im hH hc
       have Z_h_e : h_e ≤ w17.heap.size := Nat.le_of_eq hH.symm
       clear hc hH
       have HS := Lib.hid hf
       have RG := Lib.hid hp.blk
       have hq_q16 := hp.le
       clear hf hp
       replace R_r := kj HS R_r (by omega)
       replace R_t := kj HS R_t (by omega)
       replace R_x := kj HS R_x (by omega)
       replace I_x := Lib.hid (I_x.out.fr HS.out (fun b hb (h : b = gp) => by have := hb.1; have := hb.2; omega))
       replace HF := ft HF HS
       replace R_gp := RG
       clear HS RG
       have hmono := run_mono l _ _ _ _ hr_e
       obtain ⟨k_e, s_e, n_e, u_e, a1_e, m1_e, c1_e, a2_e, m2_e, c2_e, a3_e, m3_e, c3_e, ecs⟩ := hcE I_e.out
       subst ecs
       refine hK.out _ _ ?_ (fun hHeld => ?_)
       · exact ⟨cell_of R_t.out 0, cell_of R_t.out 1, cell_of R_t.out 2, cell_of R_t.out 3, cell_of R_t.out 4, cell_of R_t.out 5, cell_of R_t.out 6⟩
       clear hK K
       try dsimp only
       try simp only [Act.put, List.setIfInBounds_toArray, List.set_cons_zero, List.set_cons_succ]
       refine ready_e (rs := [5]) (by kernel_rfl) (by simp) ?_
       refine (do_mid (o := _) rfl (fun K hK => ?_) none_e)
       go_simp
       generalize hn : w17.alloc _ = w18
       generalize hg : w17.heap.size = g_arr
       have HS := fa hn
       have R_arr := nb hn hg
       have L_gp_arr := lb hg R_gp
       have L_r_arr := lb hg R_r
       have L_t_arr := lb hg R_t
       have L_x_arr := lb hg R_x
       have B_arr := bs hg HF
       have M_h_e_arr := mz hg Z_h_e
       clear hn hg
       replace R_gp := kn HS R_gp
       replace R_r := kn HS R_r
       replace R_t := kn HS R_t
       replace R_x := kn HS R_x
       replace I_x := Lib.hid (I_x.out.fr HS.out (fun _ _ => no_one))
       replace I_e := ik I_e HS
       replace HF := fn HF HS
       replace Z_h_e := zt Z_h_e HS
       clear HS
       refine hK.out _ _ ?_ (fun hHeld => ?_)
       · exact ⟨cell_of R_t.out 0, cell_of R_t.out 1, cell_of R_t.out 2, cell_of R_t.out 3, cell_of R_t.out 4, cell_of R_t.out 5, cell_of R_t.out 6⟩
       clear hK K
       try dsimp only
       try simp only [Act.put, List.setIfInBounds_toArray, List.set_cons_zero, List.set_cons_succ]
       refine take_op 6 (some 49) (Op.build 44 #[(0,  .const (.int .u8 15)), (1,  .tmp 43), (4,  .tmp 48)]) 44 ?_ (by kernel_rfl) (by kernel_rfl) (by kernel_rfl) (fun _ _ _ h => h) ?_ (by assumption) ?_
       rotate_left
       · intro w hSw; (try dsimp only at hSw); go_simp; (try (with_reducible rfl))
       try simp only [Act.put, List.setIfInBounds_toArray, List.set_cons_zero, List.set_cons_succ]
       obtain ⟨d0_t, d1_t, d2_t, d3_t, d4_t, d5_t, d6_t⟩ := z7c R_t.out
       obtain ⟨f0_t, f1_t, f2_t, f3_t, f4_t, f5_t, f6_t⟩ := y7c R_t.out
       refine ready_e (rs := [7]) (by kernel_rfl) (by simp) ?_
       refine (do_late (o := _) rfl (by kernel_rfl) (fun K hK => ?_) none_e)
       go_simp
       clear d0_t f0_t d1_t f1_t d2_t f2_t d3_t f3_t d4_t f4_t d5_t f5_t d6_t f6_t
       obtain ⟨w19, hn⟩ : ∃ wZ, setFrom g_t 0 [.int .u8 15, .string st_u, .int .i64 0, .string ⟨#[]⟩, .slice (some ⟨g_arr, 0, none⟩) 2 2, .slice none 0 0, .slice none 0 0] w18 = wZ := ⟨_, rfl⟩
       have R_t' := sf hn R_t rfl
       have HS := sg hn
       have he := hn
       simp only [setFrom, Nat.reduceAdd] at he
       rw [he]
       clear he
       clear hn
       replace R_gp := kj HS R_gp (by omega)
       replace R_r := kj HS R_r (by omega)
       replace R_x := kj HS R_x (by omega)
       replace R_arr := kj HS R_arr (by omega)
       replace I_x := Lib.hid (I_x.out.fr HS.out (fun b hb (h : b = g_t) => by have := hb.1; have := hb.2; omega))
       replace I_e := ij I_e HS (by omega)
       replace HF := fb HF HS (by omega)
       replace Z_h_e := zt Z_h_e HS
       have R_t := R_t'
       clear R_t' HS
       refine hK.out _ _ ?_
       clear hK K
       try dsimp only
       try simp only [Act.put, List.setIfInBounds_toArray, List.set_cons_zero, List.set_cons_succ]
       refine done_e (by kernel_rfl) ?_ _
       (try simp only [Exit.inBlock, Exit.then])
       skip
       have hqr2 : (((Gr.rows lv : Nat) : Int) != 2) = true := by simp only [bne_iff_ne, ne_eq]; omega
       have hv := HV.out
       rw [if_neg hr2] at hv
       replace HV := Lib.hid hv
       clear hv
       (try simp only [run_bind, run_skip, run_must, run_take, Pr.run, next, if_true, if_false, Bool.false_eq_true] at HV)
       obtain ⟨d0_x, d1_x⟩ := z2c R_x.out
       obtain ⟨f0_x, f1_x⟩ := y2c R_x.out
       have HN : Hid (Hc (fun b => w.heap.size ≤ b ∧ b ≠ g_t ∧ b ≠ g_r) w19 (xE (Gr.mkE 15 st_u [x, x_e])) [.int .u8 15, .string st_u, .int .i64 0, .string ⟨#[]⟩, .slice (some ⟨g_arr, 0, none⟩) 2 2, .slice none 0 0, .slice none 0 0]) := Lib.hid (hcE_kids 15 st_u 0 nob (hx_two (c := [.int .u8 k_x, .string s_x, .int .i64 n_x, .string u_x, .slice a1_x m1_x c1_x, .slice a2_x m2_x c2_x, .slice a3_x m3_x c3_x]) (d := [.int .u8 k_e, .string s_e, .int .i64 n_e, .string u_e, .slice a1_e m1_e c1_e, .slice a2_e m2_e c2_e, .slice a3_e m3_e c3_e]) R_arr.out ⟨B_arr, by omega, by omega⟩ rfl rfl (by decide) I_x.out (I_e.out.mono (fun b _ hb => ⟨by have := hb.1; omega, fun h => by have := hb.1; omega, fun h => by have := hb.1; omega⟩))))
       skip
       obtain ⟨d0_t, d1_t, d2_t, d3_t, d4_t, d5_t, d6_t⟩ := z7c R_t.out
       obtain ⟨f0_t, f1_t, f2_t, f3_t, f4_t, f5_t, f6_t⟩ := y7c R_t.out
       obtain ⟨d0_r, d1_r, d2_r, d3_r, d4_r, d5_r, d6_r⟩ := z7c R_r.out
       obtain ⟨f0_r, f1_r, f2_r, f3_r, f4_r, f5_r, f6_r⟩ := y7c R_r.out
       go_wp2_with fail
       clear d0_t f0_t d1_t f1_t d2_t f2_t d3_t f3_t d4_t f4_t d5_t f5_t d6_t f6_t
       clear d0_r f0_r d1_r f1_r d2_r f2_r d3_r f3_r d4_r f4_r d5_r f5_r d6_r f6_r
       clear d0_x f0_x d1_x f1_x
       replace HN := Lib.hid (HN.out.fr (setFrom_fr g_r 0 [.int .u8 15, .string st_u, .int .i64 0, .string ⟨#[]⟩, .slice (some ⟨g_arr, 0, none⟩) 2 2, .slice none 0 0, .slice none 0 0] w19) (fun b hb (h : b = g_r) => by have := hb.2; omega))
       clear I_x I_e
       obtain ⟨w20, hn⟩ : ∃ wZ, setFrom g_r 0 [.int .u8 15, .string st_u, .int .i64 0, .string ⟨#[]⟩, .slice (some ⟨g_arr, 0, none⟩) 2 2, .slice none 0 0, .slice none 0 0] w19 = wZ := ⟨_, rfl⟩
       have R_r' := sf hn R_r rfl
       have HS := sg hn
       have he := hn
       simp only [setFrom, Nat.reduceAdd] at he
       rw [he]
       clear he
       rw [hn] at HN
       clear hn
       replace R_gp := kj HS R_gp (by omega)
       replace R_t := kj HS R_t (by omega)
       replace R_x := kj HS R_x (by omega)
       replace R_arr := kj HS R_arr (by omega)
       replace HF := fb HF HS (by omega)
       replace Z_h_e := zt Z_h_e HS
       have R_r := R_r'
       clear R_r' HS
       (try simp only [Exit.inBlock, Exit.then])
       have hv := HV.out
       subst hv
       refine bodyPost_ret (results_st rfl Tryz.underlying44 (by kernel_rfl) _ _ g_r _ rfl rfl R_r.out) rfl ?_
       exact ⟨⟨_, rfl, HN.out.mono (fun b _ hb => hb.1)⟩, HF.out, (Par.of HP0.out HF.out R_gp.out hq_q16)⟩
     ·
      have hqr : (((Gr.rows lv : Nat) : Int) == 1) = false := by simp only [beq_eq_false_iff_ne, ne_eq]; omega
      have hv := HV.out
      rw [if_neg hr1] at hv
      replace HV := Lib.hid hv
      clear hv
      obtain ⟨d0_x, d1_x⟩ := z2c R_x.out
      obtain ⟨f0_x, f1_x⟩ := y2c R_x.out
      go_upto_region 10 with fail
      clear d0_x f0_x d1_x f1_x
      refine region_e (fun w' => w'.cell? ⟨g_t, 0, none⟩ = some (.int .u8 k_x) ∧ w'.cell? ⟨g_t, 1, none⟩ = some (.string s_x) ∧ w'.cell? ⟨g_t, 2, none⟩ = some (.int .i64 n_x) ∧ w'.cell? ⟨g_t, 3, none⟩ = some (.string u_x) ∧ w'.cell? ⟨g_t, 4, none⟩ = some (.slice a1_x m1_x c1_x) ∧ w'.cell? ⟨g_t, 5, none⟩ = some (.slice a2_x m2_x c2_x) ∧ w'.cell? ⟨g_t, 6, none⟩ = some (.slice a3_x m3_x c3_x)) [7] (by kernel_rfl) ?_ (fun hHeld => ?_)
      · exact ⟨cell_of ((Fr.drew w13).keeps R_t.out no_one) 0, cell_of ((Fr.drew w13).keeps R_t.out no_one) 1, cell_of ((Fr.drew w13).keeps R_t.out no_one) 2, cell_of ((Fr.drew w13).keeps R_t.out no_one) 3, cell_of ((Fr.drew w13).keeps R_t.out no_one) 4, cell_of ((Fr.drew w13).keeps R_t.out no_one) 5, cell_of ((Fr.drew w13).keeps R_t.out no_one) 6⟩
      obtain ⟨w21, hwd⟩ : ∃ wZ, wZ = w13.drew := ⟨_, rfl⟩
      have HS : Hid (Fr No w13 w21) := Lib.hid (by rw [hwd]; exact Fr.drew _)
      rw [← hwd] at hHeld ⊢
      clear hwd
      replace R_gp := kn HS R_gp
      replace R_r := kn HS R_r
      replace R_t := kn HS R_t
      replace R_x := kn HS R_x
      replace I_x := Lib.hid (I_x.out.fr HS.out (fun _ _ => no_one))
      replace HF := fn HF HS
      clear HS
      refine take_op 0 (some 43) (Op.move ( .tmp 7)) 9 ?_ (by kernel_rfl) (by kernel_rfl) (by kernel_rfl) (fun _ _ _ h => h) ?_ (by assumption) ?_
      rotate_left
      · intro w hSw; (try dsimp only at hSw); go_simp; (try (with_reducible rfl))
      try simp only [Act.put, List.setIfInBounds_toArray, List.set_cons_zero, List.set_cons_succ]
      refine take_op 1 (some 44) (Op.load 44 ( .tmp 5)) 44 ?_ (by kernel_rfl) (by kernel_rfl) (by kernel_rfl) (fun _ _ _ h => h) ?_ (by assumption) ?_
      rotate_left
      · intro w hSw; (try dsimp only at hSw); go_simp; (try (with_reducible rfl))
      try simp only [Act.put, List.setIfInBounds_toArray, List.set_cons_zero, List.set_cons_succ]
      refine take_op 2 (some 45) (Op.move ( .tmp 0)) 47 ?_ (by kernel_rfl) (by kernel_rfl) (by kernel_rfl) (fun _ _ _ h => h) ?_ (by assumption) ?_
      rotate_left
      · intro w hSw; (try dsimp only at hSw); go_simp; (try (with_reducible rfl))
      try simp only [Act.put, List.setIfInBounds_toArray, List.set_cons_zero, List.set_cons_succ]
      refine take_op 3 (some 46) (Op.move ( .tmp 8)) 3 ?_ (by kernel_rfl) (by kernel_rfl) (by kernel_rfl) (fun _ _ _ h => h) ?_ (by assumption) ?_
      rotate_left
      · intro w hSw; (try dsimp only at hSw); go_simp; (try (with_reducible rfl))
      try simp only [Act.put, List.setIfInBounds_toArray, List.set_cons_zero, List.set_cons_succ]
      refine ready_e (rs := [4]) (by kernel_rfl) (by simp) ?_
      refine (do_mid (o := _) rfl (fun K hK => ?_) none_e)
      go_simp
      go_at_call 55
      cases hr_e : Pr.run l (g.level (lv + 1)) (q + 1) with
      | out =>
       simp only [hr_e, Re.andThen, run_bind, run_skip, run_must, run_take, Pr.run, next, if_true, if_false, Bool.false_eq_true] at HV
       exact absurd HV.out.symm HO.out
      | fail q =>
       simp only [hr_e, Re.andThen, run_bind, run_skip, run_must, run_take, Pr.run, next, if_true, if_false, Bool.false_eq_true] at HV
       refine ((HH.out.level (lv + 1) (by omega)).bad (Par.of HP0.out HF.out R_gp.out hq_qP1) hr_e).mono ?_
       rintro e w22 ⟨rfl, hf, hp⟩
       have hv := HV.out
       subst hv
       exact ⟨rfl, rfl, HF.out.trans hf (fun _ _ h => h), hp⟩
      | ok x_e q23 =>
       simp only [hr_e, Re.andThen, run_bind, run_skip, run_must, run_take, Pr.run, next, if_true, if_false, Bool.false_eq_true] at HV
       have hsz_e : gp < w21.heap.size := lt_of_block R_gp.out
       obtain ⟨b_e, hB⟩ : ∃ bZ, w21.heap.size = bZ := ⟨_, rfl⟩
       have K_gp_e := lb hB R_gp
       have K_r_e := lb hB R_r
       have K_t_e := lb hB R_t
       have K_x_e := lb hB R_x
       have KB_e := bs hB HF
       clear hsz_e
       refine ((HH.out.level (lv + 1) (by omega)).good (Par.of HP0.out HF.out R_gp.out hq_qP1) hr_e).mono ?_
       rintro e w24 ⟨⟨cs_e, rfl, hc⟩, hf, hp⟩
       rw [hB] at hc
       clear hB
       obtain ⟨h_e, hH⟩ : ∃ hZ, w24.heap.size = hZ := ⟨_, rfl⟩
       have I_e := im hH hc
       have Z_h_e : h_e ≤ w24.heap.size := Nat.le_of_eq hH.symm
       clear hc hH
       have HS := Lib.hid hf
       have RG := Lib.hid hp.blk
       have hq_q23 := hp.le
       clear hf hp
       replace R_r := kj HS R_r (by omega)
       replace R_t := kj HS R_t (by omega)
       replace R_x := kj HS R_x (by omega)
       replace I_x := Lib.hid (I_x.out.fr HS.out (fun b hb (h : b = gp) => by have := hb.1; have := hb.2; omega))
       replace HF := ft HF HS
       replace R_gp := RG
       clear HS RG
       have hmono := run_mono l _ _ _ _ hr_e
       obtain ⟨k_e, s_e, n_e, u_e, a1_e, m1_e, c1_e, a2_e, m2_e, c2_e, a3_e, m3_e, c3_e, ecs⟩ := hcE I_e.out
       subst ecs
       refine hK.out _ _ ?_ (fun hHeld => ?_)
       · exact ⟨cell_of R_t.out 0, cell_of R_t.out 1, cell_of R_t.out 2, cell_of R_t.out 3, cell_of R_t.out 4, cell_of R_t.out 5, cell_of R_t.out 6⟩
       clear hK K
       try dsimp only
       try simp only [Act.put, List.setIfInBounds_toArray, List.set_cons_zero, List.set_cons_succ]
       refine ready_e (rs := [5]) (by kernel_rfl) (by simp) ?_
       refine (do_mid (o := _) rfl (fun K hK => ?_) none_e)
       go_simp
       generalize hn : w24.alloc _ = w25
       generalize hg : w24.heap.size = g_arr
       have HS := fa hn
       have R_arr := nb hn hg
       have L_gp_arr := lb hg R_gp
       have L_r_arr := lb hg R_r
       have L_t_arr := lb hg R_t
       have L_x_arr := lb hg R_x
       have B_arr := bs hg HF
       have M_h_e_arr := mz hg Z_h_e
       clear hn hg
       replace R_gp := kn HS R_gp
       replace R_r := kn HS R_r
       replace R_t := kn HS R_t
       replace R_x := kn HS R_x
       replace I_x := Lib.hid (I_x.out.fr HS.out (fun _ _ => no_one))
       replace I_e := ik I_e HS
       replace HF := fn HF HS
       replace Z_h_e := zt Z_h_e HS
       clear HS
       refine hK.out _ _ ?_ (fun hHeld => ?_)
       · exact ⟨cell_of R_t.out 0, cell_of R_t.out 1, cell_of R_t.out 2, cell_of R_t.out 3, cell_of R_t.out 4, cell_of R_t.out 5, cell_of R_t.out 6⟩
       clear hK K
       try dsimp only
       try simp only [Act.put, List.setIfInBounds_toArray, List.set_cons_zero, List.set_cons_succ]
       refine take_op 6 (some 49) (Op.build 44 #[(0,  .const (.int .u8 15)), (1,  .tmp 43), (4,  .tmp 48)]) 44 ?_ (by kernel_rfl) (by kernel_rfl) (by kernel_rfl) (fun _ _ _ h => h) ?_ (by assumption) ?_
       rotate_left
       · intro w hSw; (try dsimp only at hSw); go_simp; (try (with_reducible rfl))
       try simp only [Act.put, List.setIfInBounds_toArray, List.set_cons_zero, List.set_cons_succ]
       obtain ⟨d0_t, d1_t, d2_t, d3_t, d4_t, d5_t, d6_t⟩ := z7c R_t.out
       obtain ⟨f0_t, f1_t, f2_t, f3_t, f4_t, f5_t, f6_t⟩ := y7c R_t.out
       refine ready_e (rs := [7]) (by kernel_rfl) (by simp) ?_
       refine (do_late (o := _) rfl (by kernel_rfl) (fun K hK => ?_) none_e)
       go_simp
       clear d0_t f0_t d1_t f1_t d2_t f2_t d3_t f3_t d4_t f4_t d5_t f5_t d6_t f6_t
       obtain ⟨w26, hn⟩ : ∃ wZ, setFrom g_t 0 [.int .u8 15, .string st_u, .int .i64 0, .string ⟨#[]⟩, .slice (some ⟨g_arr, 0, none⟩) 2 2, .slice none 0 0, .slice none 0 0] w25 = wZ := ⟨_, rfl⟩
       have R_t' := sf hn R_t rfl
       have HS := sg hn
       have he := hn
       simp only [setFrom, Nat.reduceAdd] at he
       rw [he]
       clear he
       clear hn
       replace R_gp := kj HS R_gp (by omega)
       replace R_r := kj HS R_r (by omega)
       replace R_x := kj HS R_x (by omega)
       replace R_arr := kj HS R_arr (by omega)
       replace I_x := Lib.hid (I_x.out.fr HS.out (fun b hb (h : b = g_t) => by have := hb.1; have := hb.2; omega))
       replace I_e := ij I_e HS (by omega)
       replace HF := fb HF HS (by omega)
       replace Z_h_e := zt Z_h_e HS
       have R_t := R_t'
       clear R_t' HS
       refine hK.out _ _ ?_
       clear hK K
       try dsimp only
       try simp only [Act.put, List.setIfInBounds_toArray, List.set_cons_zero, List.set_cons_succ]
       refine done_e (by kernel_rfl) ?_ _
       (try simp only [Exit.inBlock, Exit.then])
       by_cases hr2 : Gr.rows lv = 2
       ·
        have hqr2 : (((Gr.rows lv : Nat) : Int) != 2) = false := by simp [hr2]
        have hv := HV.out
        rw [if_pos hr2] at hv
        replace HV := Lib.hid hv
        clear hv
        (try simp only [run_bind, run_skip, run_must, run_take, Pr.run, next, if_true, if_false, Bool.false_eq_true] at HV)
        clear hr2
        obtain ⟨d0_x, d1_x⟩ := z2c R_x.out
        obtain ⟨f0_x, f1_x⟩ := y2c R_x.out
        go_wp2_with fail
        clear d0_x f0_x d1_x f1_x
        have HN : Hid (Hc (fun b => w.heap.size ≤ b ∧ b ≠ g_t ∧ b ≠ g_r) w26 (xE (Gr.mkE 15 st_u [x, x_e])) [.int .u8 15, .string st_u, .int .i64 0, .string ⟨#[]⟩, .slice (some ⟨g_arr, 0, none⟩) 2 2, .slice none 0 0, .slice none 0 0]) := Lib.hid (hcE_kids 15 st_u 0 nob (hx_two (c := [.int .u8 k_x, .string s_x, .int .i64 n_x, .string u_x, .slice a1_x m1_x c1_x, .slice a2_x m2_x c2_x, .slice a3_x m3_x c3_x]) (d := [.int .u8 k_e, .string s_e, .int .i64 n_e, .string u_e, .slice a1_e m1_e c1_e, .slice a2_e m2_e c2_e, .slice a3_e m3_e c3_e]) R_arr.out ⟨B_arr, by omega, by omega⟩ rfl rfl (by decide) I_x.out (I_e.out.mono (fun b _ hb => ⟨by have := hb.1; omega, fun h => by have := hb.1; omega, fun h => by have := hb.1; omega⟩))))
        clear I_x I_e
        have I_N := HN
        clear HN
        generalize hn : w26.alloc _ = w27
        generalize hg : w26.heap.size = g_y
        have HS := fa hn
        have R_y := nb hn hg
        have L_gp_y := lb hg R_gp
        have L_r_y := lb hg R_r
        have L_t_y := lb hg R_t
        have L_x_y := lb hg R_x
        have L_arr_y := lb hg R_arr
        have B_y := bs hg HF
        have M_h_e_y := mz hg Z_h_e
        clear hn hg
        replace R_gp := kn HS R_gp
        replace R_r := kn HS R_r
        replace R_t := kn HS R_t
        replace R_x := kn HS R_x
        replace R_arr := kn HS R_arr
        replace I_N := Lib.hid (I_N.out.fr HS.out (fun _ _ => no_one))
        replace HF := fn HF HS
        replace Z_h_e := zt Z_h_e HS
        clear HS
        exact ⟨⟨q23, j, _, Gr.mkE 15 st_u [x, x_e], 15, st_u, 0, nob, _, _, _, _, _, _, _, _, _, rfl, B_y, by omega, by omega, hq_q23, posOf_at R_gp.out, R_t, R_r, R_y, I_N, R_gp, HF, HV⟩, by rw [posOf_at R_gp.out, hpq]; omega⟩
       ·
        have hqr2 : (((Gr.rows lv : Nat) : Int) != 2) = true := by simp only [bne_iff_ne, ne_eq]; omega
        have hv := HV.out
        rw [if_neg hr2] at hv
        replace HV := Lib.hid hv
        clear hv
        (try simp only [run_bind, run_skip, run_must, run_take, Pr.run, next, if_true, if_false, Bool.false_eq_true] at HV)
        obtain ⟨d0_x, d1_x⟩ := z2c R_x.out
        obtain ⟨f0_x, f1_x⟩ := y2c R_x.out
        have HN : Hid (Hc (fun b => w.heap.size ≤ b ∧ b ≠ g_t ∧ b ≠ g_r) w26 (xE (Gr.mkE 15 st_u [x, x_e])) [.int .u8 15, .string st_u, .int .i64 0, .string ⟨#[]⟩, .slice (some ⟨g_arr, 0, none⟩) 2 2, .slice none 0 0, .slice none 0 0]) := Lib.hid (hcE_kids 15 st_u 0 nob (hx_two (c := [.int .u8 k_x, .string s_x, .int .i64 n_x, .string u_x, .slice a1_x m1_x c1_x, .slice a2_x m2_x c2_x, .slice a3_x m3_x c3_x]) (d := [.int .u8 k_e, .string s_e, .int .i64 n_e, .string u_e, .slice a1_e m1_e c1_e, .slice a2_e m2_e c2_e, .slice a3_e m3_e c3_e]) R_arr.out ⟨B_arr, by omega, by omega⟩ rfl rfl (by decide) I_x.out (I_e.out.mono (fun b _ hb => ⟨by have := hb.1; omega, fun h => by have := hb.1; omega, fun h => by have := hb.1; omega⟩))))
        skip
        obtain ⟨d0_t, d1_t, d2_t, d3_t, d4_t, d5_t, d6_t⟩ := z7c R_t.out
        obtain ⟨f0_t, f1_t, f2_t, f3_t, f4_t, f5_t, f6_t⟩ := y7c R_t.out
        obtain ⟨d0_r, d1_r, d2_r, d3_r, d4_r, d5_r, d6_r⟩ := z7c R_r.out
        obtain ⟨f0_r, f1_r, f2_r, f3_r, f4_r, f5_r, f6_r⟩ := y7c R_r.out
        go_wp2_with fail
        clear d0_t f0_t d1_t f1_t d2_t f2_t d3_t f3_t d4_t f4_t d5_t f5_t d6_t f6_t
        clear d0_r f0_r d1_r f1_r d2_r f2_r d3_r f3_r d4_r f4_r d5_r f5_r d6_r f6_r
        clear d0_x f0_x d1_x f1_x
        replace HN := Lib.hid (HN.out.fr (setFrom_fr g_r 0 [.int .u8 15, .string st_u, .int .i64 0, .string ⟨#[]⟩, .slice (some ⟨g_arr, 0, none⟩) 2 2, .slice none 0 0, .slice none 0 0] w26) (fun b hb (h : b = g_r) => by have := hb.2; omega))
        clear I_x I_e
        obtain ⟨w28, hn⟩ : ∃ wZ, setFrom g_r 0 [.int .u8 15, .string st_u, .int .i64 0, .string ⟨#[]⟩, .slice (some ⟨g_arr, 0, none⟩) 2 2, .slice none 0 0, .slice none 0 0] w26 = wZ := ⟨_, rfl⟩
        have R_r' := sf hn R_r rfl
        have HS := sg hn
        have he := hn
        simp only [setFrom, Nat.reduceAdd] at he
        rw [he]
        clear he
        rw [hn] at HN
        clear hn
        replace R_gp := kj HS R_gp (by omega)
        replace R_t := kj HS R_t (by omega)
        replace R_x := kj HS R_x (by omega)
        replace R_arr := kj HS R_arr (by omega)
        replace HF := fb HF HS (by omega)
        replace Z_h_e := zt Z_h_e HS
        have R_r := R_r'
        clear R_r' HS
        (try simp only [Exit.inBlock, Exit.then])
        have hv := HV.out
        subst hv
        refine bodyPost_ret (results_st rfl Tryz.underlying44 (by kernel_rfl) _ _ g_r _ rfl rfl R_r.out) rfl ?_
        exact ⟨⟨_, rfl, HN.out.mono (fun b _ hb => hb.1)⟩, HF.out, (Par.of HP0.out HF.out R_gp.out hq_q23)⟩
    | false =>
     simp only [hst, run_bind, run_skip, run_must, run_take, Pr.run, next, if_true, if_false, Bool.false_eq_true] at HV
     have hss := sees_any gp a c l q (Gr.ops lv) a3 m3 c3 wL (Par.of HP0.out HF.out R_gp.out hq_q) HM3.out (by omega) (HK.out _ HF.out).2.2.2
     rw [hst] at hss
     refine hss.mono ?_
     rintro e w29 ⟨rfl, hf⟩
     clear hss
     have HS := Lib.hid hf
     clear hf
     replace R_gp := kn HS R_gp
     replace R_r := kn HS R_r
     replace R_t := kn HS R_t
     replace R_x := kn HS R_x
     replace I_x := Lib.hid (I_x.out.fr HS.out (fun _ _ => no_one))
     replace HF := fn HF HS
     clear HS
     obtain ⟨d0_t, d1_t, d2_t, d3_t, d4_t, d5_t, d6_t⟩ := z7c R_t.out
     obtain ⟨f0_t, f1_t, f2_t, f3_t, f4_t, f5_t, f6_t⟩ := y7c R_t.out
     obtain ⟨d0_r, d1_r, d2_r, d3_r, d4_r, d5_r, d6_r⟩ := z7c R_r.out
     obtain ⟨f0_r, f1_r, f2_r, f3_r, f4_r, f5_r, f6_r⟩ := y7c R_r.out
     go_wp2_with fail
     clear d0_t f0_t d1_t f1_t d2_t f2_t d3_t f3_t d4_t f4_t d5_t f5_t d6_t f6_t
     clear d0_r f0_r d1_r f1_r d2_r f2_r d3_r f3_r d4_r f4_r d5_r f5_r d6_r f6_r
     obtain ⟨w30, hn⟩ : ∃ wZ, setFrom g_r 0 [.int .u8 k_x, .string s_x, .int .i64 n_x, .string u_x, .slice a1_x m1_x c1_x, .slice a2_x m2_x c2_x, .slice a3_x m3_x c3_x] w29 = wZ := ⟨_, rfl⟩
     have R_r' := sf hn R_r rfl
     have HS := sg hn
     have he := hn
     simp only [setFrom, Nat.reduceAdd] at he
     rw [he]
     clear he
     clear hn
     replace R_gp := kj HS R_gp (by omega)
     replace R_t := kj HS R_t (by omega)
     replace R_x := kj HS R_x (by omega)
     replace I_x := Lib.hid (I_x.out.fr HS.out (fun b hb (h : b = g_r) => by have := hb.1; have := hb.2; omega))
     replace HF := fb HF HS (by omega)
     have R_r := R_r'
     clear R_r' HS
     (try simp only [Exit.inBlock, Exit.then])
     have hv := HV.out
     subst hv
     refine bodyPost_ret (results_st rfl Tryz.underlying44 (by kernel_rfl) _ _ g_r _ rfl rfl R_r.out) rfl ?_
     exact ⟨⟨_, rfl, I_x.out.mono (fun b _ hb => hb.1)⟩, HF.out, (Par.of HP0.out HF.out R_gp.out hq_q)⟩
end Go.Proofs.YtjabhmepafofmaaGreatDoor
namespace Go.Proofs.YtjabhmepafofmaaGreatDoor
open Go.RowKit Go.Shelf
attribute [local go_sem] Oper.semAt_some
/-- an element as it is handed over: its place, its cells -/
structure El where
  i : Nat
  c0 : Value
  c1 : Value
  c2 : Value
  c3 : Value
  c4 : Value
  c5 : Value
  c6 : Value
def intZ : Value → Int
  | .int _ p => p
  | _ => 0
def El.v (x : El) : Value := .agg #[x.c0, x.c1, x.c2, x.c3, x.c4, x.c5, x.c6]
/-- so many elements, the last one first -/
def downTo {α : Type} (f : Nat → α) (len k : Nat) : List α := (List.range k).map fun j => f (len - 1 - j)
theorem downTo_succ {α : Type} (f : Nat → α) (len k : Nat) : downTo f len (k + 1) = downTo f len k ++ [f (len - 1 - k)] := by simp [downTo, List.range_succ]
theorem downTo_length {α : Type} (f : Nat → α) (len k : Nat) : (downTo f len k).length = k := by simp [downTo]
theorem Fr.cellS {S : Nat → Prop} {w w' : World} (h : Fr S w w') {a : Addr} (hn : ¬ S a.block) {v : Value} (hc : w.cell? a = some v) : w'.cell? a = some v :=
  (World.cell?_of_block (h.block _ (World.block_lt_of_cell? w _ hc) hn)).trans hc
set_option maxRecDepth 100000 in
set_option maxHeartbeats 4000000 in
theorem back1_in {Ok : El → Prop} (F : Fence) (n : Nat) (h95 : F.fn 114) (hro : F.round = none) (hn : 1 ≤ n) (l Bs b off len cap : Nat) (S : Nat → Prop) (hlen : len ≤ 1152921504606846976) (hb : ¬ S b) (el : Nat → { x : El // Ok x }) (J Jx : List { x : El // Ok x } → World → Prop)
    (hi : ∀ j, j < len → (el j).1.i = j)
    (hY : ∀ pre (x : { x : El // Ok x }) W, J pre W → pre.length < len → YieldAt F (n - 1) Tryz.prog l #[.int .i64 (x.1.i : Int), .agg #[x.1.c0, x.1.c1, x.1.c2, x.1.c3, x.1.c4, x.1.c5, x.1.c6]] W fun e W' =>
      (e = .returned (.bool true) ∧ J (pre ++ [x]) W' ∧ Fr S W W') ∨ (e = .returned (.bool false) ∧ Jx (pre ++ [x]) W'))
    (W : World) (hBs : W.cell? ⟨Bs, 0, none⟩ = some (.slice (some ⟨b, off, none⟩) len cap)) (hBn : ¬ S Bs)
    (hc : ∀ j, j < len → W.cell? ⟨b, off + j * 7, none⟩ = some (el j).1.c0 ∧ W.cell? ⟨b, off + j * 7 + 1, none⟩ = some (el j).1.c1 ∧ W.cell? ⟨b, off + j * 7 + 2, none⟩ = some (el j).1.c2 ∧ W.cell? ⟨b, off + j * 7 + 3, none⟩ = some (el j).1.c3 ∧ W.cell? ⟨b, off + j * 7 + 4, none⟩ = some (el j).1.c4 ∧ W.cell? ⟨b, off + j * 7 + 5, none⟩ = some (el j).1.c5 ∧ W.cell? ⟨b, off + j * 7 + 6, none⟩ = some (el j).1.c6) (h0 : J [] W) :
    CallsIn F n Tryz.prog 114 #[.func (.yield l) #[] #[], .pointer (some ⟨Bs, 0, none⟩)] W fun e W' => (∃ v, e = .returned v) ∧
      ((∃ ys, ys = downTo el len len ∧ J ys W') ∨ (∃ pre, (∃ k, k ≤ len ∧ pre = downTo el len k) ∧ Jx pre W')) := by
  refine callsIn_of_wp Tryz.func114 rfl h95 ?_ hro
  simp only [Tryz.ntmps114, List.size_toArray, List.length_cons, List.length_nil, Nat.reduceAdd, Nat.reduceSub, Array.replicate_succ, Array.replicate_zero, List.push_toArray, List.append_toArray, List.nil_append, List.cons_append]
  gi_wp2
  gi_loopw [3] (fun i wr => ∃ k : Nat, k ≤ len ∧ i = .int .i64 ((len : Int) - 1 - k) ∧ J (downTo el len k) wr ∧ Fr S W wr)
    (fun i _ => (intZ i + 1).toNat)
  case atStart => exact ⟨0, Nat.zero_le _, by simp, h0, Fr.refl _ _⟩
  case round =>
    obtain ⟨k, hk, rfl, hJs, hnx⟩ := hrel
    have hcx := fun j (h : j < len) => (⟨hnx.cellS hb (hc j h).1, hnx.cellS hb (hc j h).2.1, hnx.cellS hb (hc j h).2.2.1, hnx.cellS hb (hc j h).2.2.2.1, hnx.cellS hb (hc j h).2.2.2.2.1, hnx.cellS hb (hc j h).2.2.2.2.2.1, hnx.cellS hb (hc j h).2.2.2.2.2.2⟩ : _ ∧ _ ∧ _ ∧ _ ∧ _ ∧ _ ∧ _)
    have hbx := hnx.cellS hBn hBs
    by_cases hlt : k < len
    · obtain ⟨j, hj⟩ : ∃ j, len - 1 - k = j := ⟨_, rfl⟩
      have hjl : j < len := by omega
      have hji : (len : Int) - 1 - k = j := by omega
      obtain ⟨fn, tmps, assign, body, hy, hR⟩ := hY _ (el j) wr hJs (by rw [downTo_length]; exact hlt)
      rw [hi j hjl] at hy
      obtain ⟨d0, d1, d2, d3, d4, d5, d6⟩ := hcx j hjl
      rw [hji]
      have k0 : (0 : Int) ≤ (j : Int) := by omega
      have k1 : (j : Int) < (len : Int) := by omega
      gi_wp2
      refine hR.mono ?_
      rintro e W3 (⟨rfl, hJ3, hk3⟩ | ⟨rfl, hJx3⟩)
      · gi_wp2
        go_roundw
        case rel => exact ⟨k + 1, by omega, by first | (simp; done) | (simp; omega), by rw [downTo_succ, hj]; exact hJ3, hnx.trans hk3 (fun _ _ h => h)⟩
        case measure => first | (simp [intZ]; done) | (simp [intZ]; omega)
      · gi_wp2
        refine bodyPost_ret (results_none rfl _ _ _) rfl ?_
        exact ⟨⟨_, rfl⟩, .inr ⟨_, ⟨k + 1, by omega, by rw [downTo_succ, hj]⟩, hJx3⟩⟩
    · obtain rfl : k = len := by omega
      have hneg : ¬ (0 : Int) ≤ (k : Int) - 1 - k := by omega
      gi_wp2
      go_end0
      first | exact ⟨⟨_, rfl⟩, .inl ⟨_, rfl, hJs⟩⟩ | exact ⟨⟨_, rfl⟩, .inl hJs⟩
set_option maxRecDepth 100000 in
set_option maxHeartbeats 2000000 in
theorem back0_in {Ok : El → Prop} (F : Fence) (n : Nat) (h95 : F.fn 114) (hro : F.round = none) (l Bs cap : Nat) (a : Option Addr) (J : List { x : El // Ok x } → World → Prop) (W : World) (hBs : W.cell? ⟨Bs, 0, none⟩ = some (.slice a 0 cap)) (h0 : J [] W) :
    CallsIn F n Tryz.prog 114 #[.func (.yield l) #[] #[], .pointer (some ⟨Bs, 0, none⟩)] W fun e W' => (∃ v, e = .returned v) ∧ J [] W' := by
  refine callsIn_of_wp Tryz.func114 rfl h95 ?_ hro
  simp only [Tryz.ntmps114, List.size_toArray, List.length_cons, List.length_nil, Nat.reduceAdd, Nat.reduceSub, Array.replicate_succ, Array.replicate_zero, List.push_toArray, List.append_toArray, List.nil_append, List.cons_append]
  gi_wp2
  gi_loopw [3] (fun i wr => i = .int .i64 (-1) ∧ J [] wr) (fun _ _ => 0)
  case atStart => exact ⟨rfl, h0⟩
  case round =>
    obtain ⟨rfl, hJs⟩ := hrel
    gi_wp2
    go_end0
    first | exact ⟨⟨_, rfl⟩, hJs⟩ | exact hJs
/-- the function value that slices.Backward hands back -/
theorem back_stops {Ok : El → Prop} (F : Fence) (n : Nat) (h95 : F.fn 114) (hro : F.round = none) (hn : 1 ≤ n) (Bs len cap : Nat) (a : Option Addr) (S : Nat → Prop) (hlen : len ≤ 1152921504606846976) (el : Nat → { x : El // Ok x }) (hi : ∀ j, j < len → (el j).1.i = j) (w : World)
    (hBs : w.cell? ⟨Bs, 0, none⟩ = some (.slice a len cap)) (hBn : ¬ S Bs) (hS : 0 < len → ∀ b, S b → ∀ off, a ≠ some ⟨b, off, none⟩)
    (hc : ∀ j, j < len → ∃ b off, a = some ⟨b, off, none⟩ ∧ w.cell? ⟨b, off + j * 7, none⟩ = some (el j).1.c0 ∧ w.cell? ⟨b, off + j * 7 + 1, none⟩ = some (el j).1.c1 ∧ w.cell? ⟨b, off + j * 7 + 2, none⟩ = some (el j).1.c2 ∧ w.cell? ⟨b, off + j * 7 + 3, none⟩ = some (el j).1.c3 ∧ w.cell? ⟨b, off + j * 7 + 4, none⟩ = some (el j).1.c4 ∧ w.cell? ⟨b, off + j * 7 + 5, none⟩ = some (el j).1.c5 ∧ w.cell? ⟨b, off + j * 7 + 6, none⟩ = some (el j).1.c6) :
    SeqStopsK F n Tryz.prog 114 #[.pointer (some ⟨Bs, 0, none⟩)] (fun x : { x : El // Ok x } => #[.int .i64 (x.1.i : Int), .agg #[x.1.c0, x.1.c1, x.1.c2, x.1.c3, x.1.c4, x.1.c5, x.1.c6]]) (Fr S) (fun ys => ys = downTo el len len) (fun _ => True) len w := fun l J Jx W hW _ _ hY h0 => by
  have hBs' := (Fr.ofBelow hW).cell hBs
  by_cases hz : len = 0
  · subst hz
    exact (back0_in F n h95 hro l Bs cap a J W hBs' h0).mono fun e W' ⟨he, hj⟩ => ⟨he, .inl ⟨[], rfl, hj⟩⟩
  · obtain ⟨b, off, rfl, _⟩ := hc 0 (by omega)
    have hcells : ∀ j, j < len → W.cell? ⟨b, off + j * 7, none⟩ = some (el j).1.c0 ∧ W.cell? ⟨b, off + j * 7 + 1, none⟩ = some (el j).1.c1 ∧ W.cell? ⟨b, off + j * 7 + 2, none⟩ = some (el j).1.c2 ∧ W.cell? ⟨b, off + j * 7 + 3, none⟩ = some (el j).1.c3 ∧ W.cell? ⟨b, off + j * 7 + 4, none⟩ = some (el j).1.c4 ∧ W.cell? ⟨b, off + j * 7 + 5, none⟩ = some (el j).1.c5 ∧ W.cell? ⟨b, off + j * 7 + 6, none⟩ = some (el j).1.c6 := by
      intro j hj
      obtain ⟨b1, o1, e1, k0, k1, k2, k3, k4, k5, k6⟩ := hc j hj
      simp only [Option.some.injEq, Addr.mk.injEq, and_true] at e1
      obtain ⟨rfl, rfl⟩ := e1
      exact ⟨(Fr.ofBelow hW).cell k0, (Fr.ofBelow hW).cell k1, (Fr.ofBelow hW).cell k2, (Fr.ofBelow hW).cell k3, (Fr.ofBelow hW).cell k4, (Fr.ofBelow hW).cell k5, (Fr.ofBelow hW).cell k6⟩
    refine (back1_in F n h95 hro hn l Bs b off len cap S hlen (fun h => hS (by omega) b h off rfl) el J Jx hi hY W hBs' hBn hcells h0).mono ?_
    rintro e W' ⟨he, ⟨ys, rfl, hj⟩ | ⟨pre, _, hj⟩⟩
    · exact ⟨he, .inl ⟨_, rfl, hj⟩⟩
    · exact ⟨he, .inr ⟨_, trivial, hj⟩⟩
set_option maxHeartbeats 1000000 in
theorem backward_any (a : Option Addr) (len cap : Nat) (w : World) : Calls Tryz.prog 113 #[.slice a len cap] w fun e w' => e = .returned (.func (.func 114) #[] #[.pointer (some ⟨w.heap.size, 0, none⟩)]) ∧ w' = w.alloc (.cells #[.slice a len cap] 41) := by
  go_enter Tryz.func113, Tryz.ntmps113
  go_wp2_with fail
  go_ret
  exact ⟨rfl, rfl⟩
end Go.Proofs.YtjabhmepafofmaaGreatDoor
namespace Go.Proofs.YtjabhmepafofmaaGreatDoor
open Go.RowKit
theorem list_of {α : Type} {P : Nat → α → Prop} : ∀ n : Nat, (∀ j, j < n → ∃ c, P j c) → ∃ cs : List α, cs.length = n ∧ ∀ (j : Nat) (c : α), cs[j]? = some c → P j c
  | 0, _ => ⟨[], rfl, fun j c h => by simp at h⟩
  | n + 1, h => by
    obtain ⟨cs, h1, h2⟩ := list_of n fun j hj => h j (by omega)
    obtain ⟨c, hc⟩ := h n (Nat.lt_succ_self n)
    refine ⟨cs ++ [c], by simp [h1], fun j d hd => ?_⟩
    rcases Nat.lt_or_ge j n with hj | hj
    · rw [List.getElem?_append_left (by omega)] at hd
      exact h2 j d hd
    · have hl := (List.getElem?_eq_some_iff.1 hd).1
      simp only [List.length_append, List.length_singleton] at hl
      obtain rfl : j = n := by omega
      rw [List.getElem?_append_right (by omega), h1, Nat.sub_self] at hd
      cases hd
      exact hc
/-- somebody's row as lists of cells -/
theorem hx_rows {ok : Nat → Prop} {w : World} {k n cp : Nat} {a : Option Addr} {ls : List (List X)} (hk : 0 < k) (h : Hx ok w (.row k ls) (.slice a n cp)) (hn : 0 < n) :
    ∃ g off, ∃ cs : List (List Value), a = some ⟨g, off, none⟩ ∧ ls.length = n ∧ cs.length = n ∧ (∀ c ∈ cs, c.length = k) ∧ (∀ (j : Nat) (u : Value), cs.flatten[j]? = some u → w.cell? ⟨g, off + j, none⟩ = some u) ∧
      ∀ (j : Nat) (x : List X) (c : List Value), ls[j]? = some x → cs[j]? = some c → Hc ok w x c := by
  have hl : ls.length = n := by
    obtain ⟨a', c', e⟩ := hx_slice h
    cases e
    rfl
  obtain ⟨x0, hx0⟩ : ∃ x, ls[0]? = some x := ⟨_, List.getElem?_eq_getElem (by omega)⟩
  obtain ⟨g, off, _, rfl, _⟩ := hx_at h hx0
  obtain ⟨cs, h1, h2⟩ := list_of (P := fun j c => c.length = k ∧ (∀ (m : Nat) (u : Value), c[m]? = some u → w.cell? ⟨g, off + j * k + m, none⟩ = some u) ∧ ∀ x, ls[j]? = some x → Hc ok w x c) n fun j hj => by
    obtain ⟨x, hx⟩ : ∃ x, ls[j]? = some x := ⟨_, List.getElem?_eq_getElem (by omega)⟩
    obtain ⟨g', off', c, e, _, hc, hcell, hxc⟩ := hx_at h hx
    cases e
    exact ⟨c, hc, hcell, fun y hy => by
      rw [hx] at hy
      cases hy
      exact hxc⟩
  have hlen : ∀ c ∈ cs, c.length = k := fun c hc => by
    obtain ⟨j, hj⟩ := List.getElem?_of_mem hc
    exact (h2 j c hj).1
  refine ⟨g, off, cs, rfl, hl, h1, hlen, fun j u hu => ?_, fun j x c hx hc => (h2 j c hc).2.2 x hx⟩
  have hjl : j < cs.flatten.length := (List.getElem?_eq_some_iff.1 hu).1
  rw [flatten_len cs hlen, h1] at hjl
  have hdm : j / k * k + j % k = j := by
    have := Nat.div_add_mod j k
    rw [Nat.mul_comm] at this
    exact this
  have hq : j / k < n := (Nat.div_lt_iff_lt_mul hk).2 hjl
  obtain ⟨c, hc⟩ : ∃ c, cs[j / k]? = some c := ⟨_, List.getElem?_eq_getElem (by omega)⟩
  have hf := flatten_at cs (j / k) (j % k) c hlen hc (Nat.mod_lt _ hk)
  rw [hdm, hu] at hf
  have := (h2 _ c hc).2.1 (j % k) u hf.symm
  rw [Nat.add_assoc, hdm] at this
  exact this
section
variable {α : Type} {R : (Nat → Prop) → World → α → List Value → Prop} {e k : Nat} {P : Program}
theorem OutG.pushes (hR : Kept R) {ok : Nat → Prop} {B m : Nat} {w w' : World} {v : Value} {n : Nat} {l l2 : List α} (h1 : l.length = n) {cs : List (List Value)} (h2 : cs.length = n) (h3 : ∀ c ∈ cs, c.length = k) (h4 : ∀ (j : Nat) (t : α) (c : List Value), l[j]? = some t → cs[j]? = some c → R (fun b => ok b ∧ Av v b) w t c)
    {ds : List (List Value)} (hd : ds.length = m) (hl2 : l2.length = m) (hk : ∀ c ∈ ds, c.length = k) (ht : ∀ (j : Nat) (t : α) (c : List Value), l2[j]? = some t → ds[j]? = some c → R (fun b => ok b ∧ Av v b) w t c) {v' : Value} (hown : w'.ownsRow B e k v' (n + m) (cs.flatten ++ ds.flatten)) (hg : Grows B w w' v v') :
    OutG R e k ok B w' v' (n + m) (l ++ l2) := by
  refine ⟨by simp [h1, hl2], cs ++ ds, by simp [h2, hd], fun x hx => ?_, by rw [List.flatten_append]; exact hown, fun j t' c' hj hc' => hR.keep (ok := fun b => ok b ∧ Av v b) (w := w) (fun b hb hk => ⟨(hg.av b hb hk.2).1, hk.1, (hg.av b hb hk.2).2⟩) t' c' ?_⟩
  · rcases List.mem_append.1 hx with hx | hx
    · exact h3 x hx
    · exact hk x hx
  · rcases Nat.lt_or_ge j n with hlt | hge
    · rw [List.getElem?_append_left (by omega)] at hj hc'
      exact h4 j t' c' hj hc'
    · rw [List.getElem?_append_right (by omega)] at hj hc'
      rw [show j - l.length = j - n by omega] at hj
      rw [show j - cs.length = j - n by omega] at hc'
      exact ht _ t' c' hj hc'
/-- a row behind one's own: out = append(out, l...) -/
theorem wpList_pushes (hR : Kept R) {bytes : Nat} (he : ElemOk P e k bytes) {w : World} {ops : Array Oper} {rest : List Oper} {o : Oper} {a : Act} {Q : Exit → Act → World → Prop} (hgd : o.guard = none) (s x : Operand) (t : TypeId)
    (ho : o.op = .call { callee := .builtin .append, args := #[s, x], argTypes := #[t, t] }) (ht : P.underlying t = some (.slice e)) (ok : Nat → Prop) (B : Nat) (v : Value) (n : Nat) (l : List α) (hs : a.eval s = v) (hv : OutG R e k ok B w v n l)
    (g off m cp : Nat) (l2 : List α) (ds : List (List Value)) (hx : a.eval x = .slice (some ⟨g, off, none⟩) m cp) (hm : 0 < m) (hl2 : l2.length = m) (hd : ds.length = m) (hdk : ∀ c ∈ ds, c.length = k) (hcell : ∀ (j : Nat) (u : Value), ds.flatten[j]? = some u → w.cell? ⟨g, off + j, none⟩ = some u)
    (h1 : ∀ u ∈ ds.flatten, u.oneCell' = true) (hy : ∀ (j : Nat) (t : α) (c : List Value), l2[j]? = some t → ds[j]? = some c → R (fun b => ok b ∧ Av v b) w t c)
    (hn : n + m ≤ maxLen) (hbytes : (n + m) * bytes ≤ 140737488355328) (hB : B ≤ w.heap.size)
    (h : ∀ a' c' w', Hid (OutG R e k ok B w' (.slice a' (n + m) c') (n + m) (l ++ l2)) → Hid (Grows B w w' v (.slice a' (n + m) c')) → wpList P ops Q rest (a.put o.dst (.slice a' (n + m) c')) w') : wpList P ops Q (o :: rest) a w := by
  obtain ⟨⟨i, z, hi, hz, z1, z2, z3⟩, hk⟩ := he
  obtain ⟨g1, cs, g2, g3, hown, g4⟩ := hv
  refine wpList_append_lies w hgd s x t ho B e i z k bytes ht hi hz z1 z2 z3 hk v n cs.flatten hs hown ⟨g, off, none⟩ m cp ds.flatten hx (by rw [flatten_len ds hdk, hd]) (fun j u hj => by
    have h0 := hcell j u hj
    simp only [Addr.add]
    split
    · rename_i hj0
      have hj0 : j = 0 := by simpa using hj0
      subst hj0
      exact h0
    · exact h0) h1 hm hn hbytes hB _ rfl ?_
  intro g cap w' hown' hg hat _
  have hG := grows_of (m := n + m) (cap := cap) hown hB hg hat
  exact h _ _ w' (Lib.hid (OutG.pushes hR g1 g2 g3 g4 hd hl2 hdk hy hown' hG)) (Lib.hid hG)
end
/-- cells of an expression are one cell each -/
theorem oneE {ok : Nat → Prop} {w : World} {t : E} {cs : List Value} (h : Hc ok w (xE t) cs) : ∀ u ∈ cs, u.oneCell' = true := by
  obtain ⟨k, s, n, u, b1, m1, c1, b2, m2, c2, b3, m3, c3, rfl⟩ := hcE h
  simp [Value.oneCell']
theorem more_ne {α : Type} {l : List Tok} {sb : ByteArray} {one : Pr α} : ∀ (n : Nat) (acc : List α) (p q : Nat) (x : List α), acc ≠ [] → Pr.run l (more sb one n acc) p = .ok x q → x ≠ []
  | 0, acc, p, q, x, _, h => by cases h
  | n + 1, acc, p, q, x, ha, h => by
    simp only [more, run_bind, run_skip, Re.andThen] at h
    cases hs : seesB (l.getD p zTok) [sb] with
    | false =>
      simp only [hs, Bool.false_eq_true, if_false, Pr.run, Re.ok.injEq] at h
      rw [← h.1]
      exact ha
    | true =>
      simp only [hs, if_true, run_bind] at h
      cases hr : Pr.run l one (p + 1) with
      | out => rw [hr] at h; cases h
      | fail r => rw [hr] at h; cases h
      | ok y r =>
        rw [hr] at h
        exact more_ne n _ _ _ _ (by simp) h
theorem some_ne {α : Type} {l : List Tok} {sb : ByteArray} {one : Pr α} {n p q : Nat} {x : List α} (h : Pr.run l (some_ n sb one) p = .ok x q) : x ≠ [] := by
  simp only [some_, run_bind] at h
  cases hr : Pr.run l one p with
  | out => rw [hr] at h; cases h
  | fail r => rw [hr] at h; cases h
  | ok y r =>
    rw [hr] at h
    exact more_ne n _ _ _ _ (by simp) h
end Go.Proofs.YtjabhmepafofmaaGreatDoor
namespace Go.Proofs.YtjabhmepafofmaaGreatDoor
open Go.RowKit
theorem more_len {α : Type} {l : List Tok} {sb : ByteArray} {one : Pr α} : ∀ (n : Nat) (acc : List α) (p q : Nat) (x : List α), acc.length ≤ p + 1 → Pr.run l (more sb one n acc) p = .ok x q → x.length ≤ q + 1
  | 0, acc, p, q, x, _, h => by cases h
  | n + 1, acc, p, q, x, ha, h => by
    simp only [more, run_bind, run_skip, Re.andThen] at h
    cases hs : seesB (l.getD p zTok) [sb] with
    | false =>
      simp only [hs, Bool.false_eq_true, if_false, Pr.run, Re.ok.injEq] at h
      obtain ⟨rfl, rfl⟩ := h
      exact ha
    | true =>
      simp only [hs, if_true, run_bind] at h
      cases hr : Pr.run l one (p + 1) with
      | out => rw [hr] at h; cases h
      | fail r => rw [hr] at h; cases h
      | ok y r =>
        rw [hr] at h
        have := run_mono l _ _ _ _ hr
        exact more_len n _ _ _ _ (by simp; omega) h
theorem some_len {α : Type} {l : List Tok} {sb : ByteArray} {one : Pr α} {n p q : Nat} {x : List α} (h : Pr.run l (some_ n sb one) p = .ok x q) : x.length ≤ q + 1 := by
  simp only [some_, run_bind] at h
  cases hr : Pr.run l one p with
  | out => rw [hr] at h; cases h
  | fail r => rw [hr] at h; cases h
  | ok y r =>
    rw [hr] at h
    exact more_len n _ _ _ _ (by simp) h
end Go.Proofs.YtjabhmepafofmaaGreatDoor
namespace Go.Proofs.YtjabhmepafofmaaGreatDoor
open Go.RowKit
def IsCells (w : World) (b : Nat) : Prop := ∃ cs t z, w.heap[b]? = some (.cells cs t z)
theorem isCells_of {w : World} {g o : Nat} {u : Value} (h : w.cell? ⟨g, o, none⟩ = some u) : IsCells w g := by
  unfold World.cell? at h
  simp only at h
  split at h
  · rename_i h1
    exact ⟨_, _, _, h1⟩
  · cases h
mutual
theorem Hx.keepC {ok ok' : Nat → Prop} {w w' : World} (hs : ∀ b, IsCells w b → ok b → w'.heap[b]? = w.heap[b]? ∧ ok' b) : ∀ (x : X) (v : Value), Hx ok w x v → Hx ok' w' x v
  | .lit u, v, h => by
    simp only [Hx] at h ⊢
    exact h
  | .row k l, v, h => by
    simp only [Hx] at h ⊢
    obtain ⟨a, c, e, h1, h2, hr⟩ := h
    exact ⟨a, c, e, h1, h2, Hrow.keepC hs k a 0 l hr⟩
theorem Hrow.keepC {ok ok' : Nat → Prop} {w w' : World} (hs : ∀ b, IsCells w b → ok b → w'.heap[b]? = w.heap[b]? ∧ ok' b) (k : Nat) (a : Option Addr) : ∀ (i : Nat) (l : List (List X)), Hrow ok w k a i l → Hrow ok' w' k a i l
  | _, [], _ => by simp [Hrow]
  | i, x :: r, h => by
    simp only [Hrow] at h ⊢
    obtain ⟨⟨g, off, c, e, ho, hl, hc, hk, hx⟩, hr⟩ := h
    have hlt : IsCells w g := by
      cases c with
      | nil => simp at hl; omega
      | cons u d => exact isCells_of (hc 0 u rfl)
    obtain ⟨hk', ho'⟩ := hs g hlt ho
    exact ⟨⟨g, off, c, e, ho', hl, fun j u hu => (World.cell?_of_block hk').trans (hc j u hu), hk, Hc.keepC hs x c hx⟩, Hrow.keepC hs k a (i + 1) r hr⟩
theorem Hc.keepC {ok ok' : Nat → Prop} {w w' : World} (hs : ∀ b, IsCells w b → ok b → w'.heap[b]? = w.heap[b]? ∧ ok' b) : ∀ (l : List X) (c : List Value), Hc ok w l c → Hc ok' w' l c
  | [], c, h => by
    simp only [Hc] at h ⊢
    exact h
  | x :: r, c, h => by
    simp only [Hc] at h ⊢
    obtain ⟨u, d, e, h1, h2⟩ := h
    exact ⟨u, d, e, Hx.keepC hs x u h1, Hc.keepC hs r d h2⟩
end
end Go.Proofs.YtjabhmepafofmaaGreatDoor
