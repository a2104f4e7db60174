/- A type. -/
import Derived.Test.YtjabhmepafofmaaDoorG02
set_option linter.unusedVariables false
set_option linter.unusedSimpArgs false
namespace Go.Proofs.YtjabhmepafofmaaDoor
open Go.RowKit

set_option maxHeartbeats 4000000 in
set_option maxRecDepth 100000 in
theorem ty_step {gp : Nat} {a : Option Addr} {c : Nat} {l : List Tok} {g : Gr} (h : Oks gp a c l g) : CT gp a c l 37 [] (stE xT) g.pTy := by
 intro w p hp0 ho
 have HO := Lib.hid ho
 have HP0 := Lib.hid hp0
 have HH := Lib.hid h
 have hq_p := hp0.le
 have hlen := hp0.len
 have HF : Hid (Fr (Just gp) w w) := Lib.hid (Fr.refl _ _)
 have R_gp : Hid (w.heap[gp]? = some (.cells #[.slice a l.length c, .int .i64 (p : Nat)] 60 (0, 0))) := Lib.hid hp0.blk
 obtain ⟨V, hV⟩ : ∃ V, Pr.run l (g.pTy) p = V := ⟨_, rfl⟩
 rw [hV] at HO ⊢
 clear ho hp0 h
 simp only [Gr.pTy, run_bind, run_skip, run_must, run_take, Pr.run, next, if_true, if_false, Bool.false_eq_true] at hV
 have HV := Lib.hid hV
 clear hV
 go_enter Tryd.func37, Tryd.ntmps37
 go_wp2_with fail
 generalize hn : w.alloc _ = w1
 generalize hg : w.heap.size = g_r
 have HS := fa hn
 have R_r := nb hn hg
 have L_gp_r := lb hg R_gp
 have B_r := bs hg HF
 clear hn hg
 replace R_gp := kn HS R_gp
 replace HF := fn HF HS
 clear HS
 cases hr_row : Pr.run l g.row p with
 | out =>
  simp only [hr_row, Re.andThen, run_bind, run_skip, run_must, run_take, Pr.run, next, if_true, if_false, Bool.false_eq_true] at HV
  exact absurd HV.out.symm HO.out
 | fail q =>
  simp only [hr_row, Re.andThen, run_bind, run_skip, run_must, run_take, Pr.run, next, if_true, if_false, Bool.false_eq_true] at HV
  refine ((HH.out.row).bad (Par.of HP0.out HF.out R_gp.out hq_p) hr_row).mono ?_
  rintro e w2 ⟨rfl, hf, hp⟩
  have hv := HV.out
  subst hv
  exact ⟨rfl, rfl, HF.out.trans hf (fun _ _ h => h), hp⟩
 | ok x_row q3 =>
  simp only [hr_row, Re.andThen, run_bind, run_skip, run_must, run_take, Pr.run, next, if_true, if_false, Bool.false_eq_true] at HV
  have hsz_row : gp < w1.heap.size := lt_of_block R_gp.out
  obtain ⟨b_row, hB⟩ : ∃ bZ, w1.heap.size = bZ := ⟨_, rfl⟩
  have K_gp_row := lb hB R_gp
  have K_r_row := lb hB R_r
  have KB_row := bs hB HF
  clear hsz_row
  refine ((HH.out.row).good (Par.of HP0.out HF.out R_gp.out hq_p) hr_row).mono ?_
  rintro e w4 ⟨⟨cs_row, rfl, hc⟩, hf, hp⟩
  rw [hB] at hc
  clear hB
  obtain ⟨h_row, hH⟩ : ∃ hZ, w4.heap.size = hZ := ⟨_, rfl⟩
  have I_row := im hH hc
  have Z_h_row : h_row ≤ w4.heap.size := Nat.le_of_eq hH.symm
  clear hc hH
  have HS := Lib.hid hf
  have RG := Lib.hid hp.blk
  have hq_q3 := hp.le
  clear hf hp
  replace R_r := kj HS R_r (by omega)
  replace HF := ft HF HS
  replace R_gp := RG
  clear HS RG
  obtain ⟨k_row, s_row, n_row, a_row, m_row, c_row, ecs⟩ := hcT I_row.out
  subst ecs
  go_upto_region 2 with fail
  generalize hn : w4.alloc _ = w5
  generalize hg : w4.heap.size = g_t
  have HS := fa hn
  have R_t := nb hn hg
  have L_gp_t := lb hg R_gp
  have L_r_t := lb hg R_r
  have B_t := bs hg HF
  have M_h_row_t := mz hg Z_h_row
  clear hn hg
  replace R_gp := kn HS R_gp
  replace R_r := kn HS R_r
  replace I_row := ik I_row HS
  replace HF := fn HF HS
  replace Z_h_row := zt Z_h_row HS
  clear HS
  go_wp2_with fail
  generalize hn : w5.alloc _ = w6
  generalize hg : w5.heap.size = g_sk
  have HS := fa hn
  have R_sk := nb hn hg
  have L_gp_sk := lb hg R_gp
  have L_r_sk := lb hg R_r
  have L_t_sk := lb hg R_t
  have B_sk := bs hg HF
  have M_h_row_sk := mz hg Z_h_row
  clear hn hg
  replace R_gp := kn HS R_gp
  replace R_r := kn HS R_r
  replace R_t := kn HS R_t
  replace I_row := ik I_row HS
  replace HF := fn HF HS
  replace Z_h_row := zt Z_h_row HS
  clear HS
  cases hb_sk : seesB (l.getD q3 zTok) [⟨#[45, 62]⟩] with
  | true =>
   simp only [hb_sk, run_bind, run_skip, run_must, run_take, Pr.run, next, if_true, if_false, Bool.false_eq_true] at HV
   refine (sk_any (ts := [⟨#[45, 62]⟩]) (n := 1) (Par.of HP0.out HF.out R_gp.out hq_q3) R_sk.out rfl (by omega) hb_sk).mono ?_
   rintro e w7 ⟨rfl, hf, hp⟩
   replace hp : Par w7 gp a c l (q3 + 1) := hp
   clear R_sk
   have HS := Lib.hid hf
   have RG := Lib.hid hp.blk
   have hq_q3P1 := hp.le
   clear hf hp
   replace R_r := kj HS R_r (by omega)
   replace R_t := kj HS R_t (by omega)
   replace I_row := ij I_row HS (by omega)
   replace HF := ft HF HS
   replace Z_h_row := zt Z_h_row HS
   replace R_gp := RG
   clear HS RG
   go_upto_region 3 with fail
   refine region_e (fun w' => w'.cell? ⟨g_t, 0, none⟩ = some (.int .u8 k_row) ∧ w'.cell? ⟨g_t, 1, none⟩ = some (.string s_row) ∧ w'.cell? ⟨g_t, 2, none⟩ = some (.int .i64 n_row) ∧ w'.cell? ⟨g_t, 3, none⟩ = some (.slice a_row m_row c_row)) [5] (by kernel_rfl) ?_ (fun hHeld => ?_)
   · exact ⟨cell_of ((Fr.drew w7).keeps R_t.out no_one) 0, cell_of ((Fr.drew w7).keeps R_t.out no_one) 1, cell_of ((Fr.drew w7).keeps R_t.out no_one) 2, cell_of ((Fr.drew w7).keeps R_t.out no_one) 3⟩
   obtain ⟨w8, hwd⟩ : ∃ wZ, wZ = w7.drew := ⟨_, rfl⟩
   have HS : Hid (Fr No w7 w8) := Lib.hid (by rw [hwd]; exact Fr.drew _)
   rw [← hwd] at hHeld ⊢
   clear hwd
   replace R_gp := kn HS R_gp
   replace R_r := kn HS R_r
   replace R_t := kn HS R_t
   replace I_row := ik I_row HS
   replace HF := fn HF HS
   replace Z_h_row := zt Z_h_row HS
   clear HS
   refine take_op 0 (some 9) (Op.load 37 ( .tmp 3)) 37 ?_ (by kernel_rfl) (by kernel_rfl) (by kernel_rfl) (fun _ _ _ h => h) ?_ (by assumption) ?_
   rotate_left
   · intro w hSw; (try dsimp only at hSw); go_simp; (try (with_reducible rfl))
   try simp only [Act.put, List.setIfInBounds_toArray, List.set_cons_zero, List.set_cons_succ]
   refine take_op 1 (some 10) (Op.move ( .tmp 0)) 58 ?_ (by kernel_rfl) (by kernel_rfl) (by kernel_rfl) (fun _ _ _ h => h) ?_ (by assumption) ?_
   rotate_left
   · intro w hSw; (try dsimp only at hSw); go_simp; (try (with_reducible rfl))
   try simp only [Act.put, List.setIfInBounds_toArray, List.set_cons_zero, List.set_cons_succ]
   refine ready_e (rs := [2]) (by kernel_rfl) (by simp) ?_
   refine (do_mid (o := _) rfl (fun K hK => ?_) none_e)
   go_simp
   go_at_call 37
   cases hr_ty : Pr.run l g.ty (q3 + 1) with
   | out =>
    simp only [hr_ty, Re.andThen, run_bind, run_skip, run_must, run_take, Pr.run, next, if_true, if_false, Bool.false_eq_true] at HV
    exact absurd HV.out.symm HO.out
   | fail q =>
    simp only [hr_ty, Re.andThen, run_bind, run_skip, run_must, run_take, Pr.run, next, if_true, if_false, Bool.false_eq_true] at HV
    refine ((HH.out.ty).bad (Par.of HP0.out HF.out R_gp.out hq_q3P1) hr_ty).mono ?_
    rintro e w9 ⟨rfl, hf, hp⟩
    have hv := HV.out
    subst hv
    exact ⟨rfl, rfl, HF.out.trans hf (fun _ _ h => h), hp⟩
   | ok x_ty q10 =>
    simp only [hr_ty, Re.andThen, run_bind, run_skip, run_must, run_take, Pr.run, next, if_true, if_false, Bool.false_eq_true] at HV
    have hsz_ty : gp < w8.heap.size := lt_of_block R_gp.out
    obtain ⟨b_ty, hB⟩ : ∃ bZ, w8.heap.size = bZ := ⟨_, rfl⟩
    have K_gp_ty := lb hB R_gp
    have K_r_ty := lb hB R_r
    have K_t_ty := lb hB R_t
    have KB_ty := bs hB HF
    clear hsz_ty
    refine ((HH.out.ty).good (Par.of HP0.out HF.out R_gp.out hq_q3P1) hr_ty).mono ?_
    rintro e w11 ⟨⟨cs_ty, rfl, hc⟩, hf, hp⟩
    rw [hB] at hc
    clear hB
    obtain ⟨h_ty, hH⟩ : ∃ hZ, w11.heap.size = hZ := ⟨_, rfl⟩
    have I_ty := im hH hc
    have Z_h_ty : h_ty ≤ w11.heap.size := Nat.le_of_eq hH.symm
    clear hc hH
    have HS := Lib.hid hf
    have RG := Lib.hid hp.blk
    have hq_q10 := hp.le
    clear hf hp
    replace R_r := kj HS R_r (by omega)
    replace R_t := kj HS R_t (by omega)
    replace I_row := ij I_row HS (by omega)
    replace HF := ft HF HS
    replace Z_h_row := zt Z_h_row HS
    replace R_gp := RG
    clear HS RG
    obtain ⟨k_ty, s_ty, n_ty, a_ty, m_ty, c_ty, ecs⟩ := hcT I_ty.out
    subst ecs
    (try simp only [List.toArray])
    refine hK.out _ _ ?_ (fun hHeld => ?_)
    · exact ⟨cell_of R_t.out 0, cell_of R_t.out 1, cell_of R_t.out 2, cell_of R_t.out 3⟩
    clear hK K
    try dsimp only
    try simp only [Act.put, List.setIfInBounds_toArray, List.set_cons_zero, List.set_cons_succ]
    refine ready_e (rs := [3]) (by kernel_rfl) (by simp) ?_
    refine (do_mid (o := _) rfl (fun K hK => ?_) none_e)
    go_simp
    generalize hn : w11.alloc _ = w12
    generalize hg : w11.heap.size = g_arr
    have HS := fa hn
    have R_arr := nb hn hg
    have L_gp_arr := lb hg R_gp
    have L_r_arr := lb hg R_r
    have L_t_arr := lb hg R_t
    have B_arr := bs hg HF
    have M_h_row_arr := mz hg Z_h_row
    have M_h_ty_arr := mz hg Z_h_ty
    clear hn hg
    replace R_gp := kn HS R_gp
    replace R_r := kn HS R_r
    replace R_t := kn HS R_t
    replace I_row := ik I_row HS
    replace I_ty := ik I_ty HS
    replace HF := fn HF HS
    replace Z_h_row := zt Z_h_row HS
    replace Z_h_ty := zt Z_h_ty HS
    clear HS
    refine hK.out _ _ ?_ (fun hHeld => ?_)
    · exact ⟨cell_of R_t.out 0, cell_of R_t.out 1, cell_of R_t.out 2, cell_of R_t.out 3⟩
    clear hK K
    try dsimp only
    try simp only [Act.put, List.setIfInBounds_toArray, List.set_cons_zero, List.set_cons_succ]
    refine take_op 4 (some 13) (Op.build 37 #[(0,  .const (.int .u8 3)), (3,  .tmp 12)]) 37 ?_ (by kernel_rfl) (by kernel_rfl) (by kernel_rfl) (fun _ _ _ h => h) ?_ (by assumption) ?_
    rotate_left
    · intro w hSw; (try dsimp only at hSw); go_simp; (try (with_reducible rfl))
    try simp only [Act.put, List.setIfInBounds_toArray, List.set_cons_zero, List.set_cons_succ]
    obtain ⟨d0_r, d1_r, d2_r, d3_r⟩ := z4c R_r.out
    obtain ⟨f0_r, f1_r, f2_r, f3_r⟩ := y4c R_r.out
    refine ready_e (rs := [5]) (by kernel_rfl) (by simp) ?_
    refine (do_late (o := _) rfl (by kernel_rfl) (fun K hK => ?_) none_e)
    go_simp
    clear d0_r f0_r d1_r f1_r d2_r f2_r d3_r f3_r
    obtain ⟨w13, hn⟩ : ∃ wZ, setFrom g_r 0 [.int .u8 3, .string ⟨#[]⟩, .int .i64 0, .slice (some ⟨g_arr, 0, none⟩) 2 2] w12 = wZ := ⟨_, rfl⟩
    have R_r' := sf hn R_r rfl
    have HS := sg hn
    have he := hn
    simp only [setFrom, Nat.reduceAdd] at he
    rw [he]
    clear he
    clear hn
    replace R_gp := kj HS R_gp (by omega)
    replace R_t := kj HS R_t (by omega)
    replace R_arr := kj HS R_arr (by omega)
    replace I_row := ij I_row HS (by omega)
    replace I_ty := ij I_ty HS (by omega)
    replace HF := fb HF HS (by omega)
    replace Z_h_row := zt Z_h_row HS
    replace Z_h_ty := zt Z_h_ty HS
    have R_r := R_r'
    clear R_r' HS
    refine hK.out _ _ ?_
    clear hK K
    try dsimp only
    try simp only [Act.put, List.setIfInBounds_toArray, List.set_cons_zero, List.set_cons_succ]
    refine done_e (by kernel_rfl) ?_ _
    (try simp only [Exit.inBlock, Exit.then])
    go_wp2_with fail
    (try simp only [Exit.inBlock, Exit.then])
    have hv := HV.out
    subst hv
    refine bodyPost_ret (results_st rfl Tryd.underlying37 (by kernel_rfl) _ _ g_r _ rfl rfl R_r.out) rfl ?_
    exact ⟨⟨_, rfl, hcT_mk 3 nob 0 (hx_two (c := [.int .u8 k_row, .string s_row, .int .i64 n_row, .slice a_row m_row c_row]) (d := [.int .u8 k_ty, .string s_ty, .int .i64 n_ty, .slice a_ty m_ty c_ty]) R_arr.out B_arr rfl rfl (by decide) (I_row.out.mono (fun b _ hb => by have := hb.1; omega)) (I_ty.out.mono (fun b _ hb => by have := hb.1; omega)))⟩, HF.out, (Par.of HP0.out HF.out R_gp.out hq_q10)⟩
  | false =>
   simp only [hb_sk, run_bind, run_skip, run_must, run_take, Pr.run, next, if_true, if_false, Bool.false_eq_true] at HV
   refine (sk_any (ts := [⟨#[45, 62]⟩]) (n := 1) (Par.of HP0.out HF.out R_gp.out hq_q3) R_sk.out rfl (by omega) hb_sk).mono ?_
   rintro e w14 ⟨rfl, hf, hp⟩
   replace hp : Par w14 gp a c l q3 := hp
   clear R_sk
   have HS := Lib.hid hf
   have RG := Lib.hid hp.blk
   have hq_q3 := hp.le
   clear hf hp
   replace R_r := kj HS R_r (by omega)
   replace R_t := kj HS R_t (by omega)
   replace I_row := ij I_row HS (by omega)
   replace HF := ft HF HS
   replace Z_h_row := zt Z_h_row HS
   replace R_gp := RG
   clear HS RG
   obtain ⟨d0_t, d1_t, d2_t, d3_t⟩ := z4c R_t.out
   obtain ⟨f0_t, f1_t, f2_t, f3_t⟩ := y4c R_t.out
   obtain ⟨d0_r, d1_r, d2_r, d3_r⟩ := z4c R_r.out
   obtain ⟨f0_r, f1_r, f2_r, f3_r⟩ := y4c R_r.out
   go_wp2_with fail
   clear d0_t f0_t d1_t f1_t d2_t f2_t d3_t f3_t
   clear d0_r f0_r d1_r f1_r d2_r f2_r d3_r f3_r
   obtain ⟨w15, hn⟩ : ∃ wZ, setFrom g_r 0 [.int .u8 k_row, .string s_row, .int .i64 n_row, .slice a_row m_row c_row] w14 = wZ := ⟨_, rfl⟩
   have R_r' := sf hn R_r rfl
   have HS := sg hn
   have he := hn
   simp only [setFrom, Nat.reduceAdd] at he
   rw [he]
   clear he
   clear hn
   replace R_gp := kj HS R_gp (by omega)
   replace R_t := kj HS R_t (by omega)
   replace I_row := ij I_row HS (by omega)
   replace HF := fb HF HS (by omega)
   replace Z_h_row := zt Z_h_row HS
   have R_r := R_r'
   clear R_r' HS
   (try simp only [Exit.inBlock, Exit.then])
   have hv := HV.out
   subst hv
   refine bodyPost_ret (results_st rfl Tryd.underlying37 (by kernel_rfl) _ _ g_r _ rfl rfl R_r.out) rfl ?_
   exact ⟨⟨_, rfl, I_row.out.mono (fun b _ hb => by have := hb.1; omega)⟩, HF.out, (Par.of HP0.out HF.out R_gp.out hq_q3)⟩
end Go.Proofs.YtjabhmepafofmaaDoor
namespace Go.Proofs.YtjabhmepafofmaaDoor
open Go.RowKit

set_option maxHeartbeats 4000000 in
set_option maxRecDepth 100000 in
theorem some_ty {gp : Nat} {a : Option Addr} {c : Nat} {l : List Tok} {one : Pr T} {f1 : FuncId} (he : ∀ (args : Array Value) (u : World), Sem.run Tryd.prog (callFunc f1 args) u = .ok (.enter f1 args) u) (h1 : CT gp a c l f1 [] (stE xT) one) (sb : ByteArray) (n : Nat) :
  CT gp a c l 76 [.string sb, .func (.func f1) #[.pointer (some ⟨gp, 0, none⟩)] #[]] (rowE 4 xT) (some_ n sb one) := by
 intro w p hp0 ho
 have HO := Lib.hid ho
 have HP0 := Lib.hid hp0
 have HH := Lib.hid h1
 have hq_p := hp0.le
 have hlen := hp0.len
 have HF : Hid (Fr (Just gp) w w) := Lib.hid (Fr.refl _ _)
 have R_gp : Hid (w.heap[gp]? = some (.cells #[.slice a l.length c, .int .i64 (p : Nat)] 60 (0, 0))) := Lib.hid hp0.blk
 have hgw : gp < w.heap.size := lt_of_block hp0.blk
 obtain ⟨V, hV⟩ : ∃ V, Pr.run l (some_ n sb one) p = V := ⟨_, rfl⟩
 rw [hV] at HO ⊢
 clear ho hp0 h1
 simp only [some_, run_bind] at hV
 have HV := Lib.hid hV
 clear hV
 go_enter Tryd.func76, Tryd.ntmps76
 go_wp2_with fail
 cases hr_x : Pr.run l one p with
 | out =>
  simp only [hr_x, Re.andThen, run_bind, run_skip, run_must, run_take, Pr.run, next, if_true, if_false, Bool.false_eq_true] at HV
  exact absurd HV.out.symm HO.out
 | fail q =>
  simp only [hr_x, Re.andThen, run_bind, run_skip, run_must, run_take, Pr.run, next, if_true, if_false, Bool.false_eq_true] at HV
  refine ((HH.out).bad (Par.of HP0.out HF.out R_gp.out hq_p) hr_x).mono ?_
  rintro e w1 ⟨rfl, hf, hp⟩
  have hv := HV.out
  subst hv
  exact ⟨rfl, rfl, HF.out.trans hf (fun _ _ h => h), hp⟩
 | ok x_x q2 =>
  simp only [hr_x, Re.andThen, run_bind, run_skip, run_must, run_take, Pr.run, next, if_true, if_false, Bool.false_eq_true] at HV
  have hsz_x : gp < w.heap.size := lt_of_block R_gp.out
  obtain ⟨b_x, hB⟩ : ∃ bZ, w.heap.size = bZ := ⟨_, rfl⟩
  have K_gp_x := lb hB R_gp
  have KB_x := bs hB HF
  clear hsz_x
  refine ((HH.out).good (Par.of HP0.out HF.out R_gp.out hq_p) hr_x).mono ?_
  rintro e w3 ⟨⟨cs_x, rfl, hc⟩, hf, hp⟩
  rw [hB] at hc
  clear hB
  obtain ⟨h_x, hH⟩ : ∃ hZ, w3.heap.size = hZ := ⟨_, rfl⟩
  have I_x := im hH hc
  have Z_h_x : h_x ≤ w3.heap.size := Nat.le_of_eq hH.symm
  clear hc hH
  have HS := Lib.hid hf
  have RG := Lib.hid hp.blk
  have hq_q2 := hp.le
  clear hf hp
  replace HF := ft HF HS
  replace R_gp := RG
  clear HS RG
  obtain ⟨k_x, s_x, n_x, a_x, m_x, c_x, ecs⟩ := hcT I_x.out
  subst ecs
  go_upto_region 2 with fail
  generalize hn : w3.alloc _ = w4
  generalize hg : w3.heap.size = g_arr
  have HS := fa hn
  have R_arr := nb hn hg
  have L_gp_arr := lb hg R_gp
  have B_arr := bs hg HF
  have M_h_x_arr := mz hg Z_h_x
  clear hn hg
  replace R_gp := kn HS R_gp
  replace I_x := ik I_x HS
  replace HF := fn HF HS
  replace Z_h_x := zt Z_h_x HS
  clear HS
  have O_l : Hid (OutG RX 37 4 (fun b => w.heap.size ≤ b) w.heap.size w4 (.slice (some ⟨g_arr, 0, none⟩) 1 1) 1 ([x_x].map xT)) := Lib.hid (out_lits (cs := [[.int .u8 k_x, .string s_x, .int .i64 n_x, .slice a_x m_x c_x]]) R_arr.out B_arr rfl rfl (fun c hc => by rw [List.mem_singleton.1 hc]; rfl) (by omega) (fun j t c hj hc => by
   have hj0 : j < 1 := (List.getElem?_eq_some_iff.1 hj).1
   obtain rfl : j = 0 := by omega
   cases hj
   cases hc
   exact I_x.out.mono (fun b _ hb => ⟨by have := hb.1; omega, fun (h : b = g_arr) => by have := hb.2; omega⟩)))
  go_wp2_with fail
  go_loopw [7] (fun v wx => ∃ (m q j : Nat) (acc : List T) (av : Option Addr) (cv : Nat), v = .slice av m cv ∧ m + j = n + 1 ∧ m ≤ q + 1 ∧ q ≤ l.length ∧ Hid (OutG RX 37 4 (fun b => w.heap.size ≤ b) w.heap.size wx (.slice av m cv) m (acc.map xT)) ∧ Hid (wx.heap[gp]? = some (.cells #[.slice a l.length c, .int .i64 (q : Nat)] 60 (0, 0))) ∧ Hid (Fr (Just gp) w wx) ∧ Hid (Pr.run l (more sb one j acc) q = V)) (fun v _ => n + 1 - lenOf v)
  case atStart => exact ⟨1, q2, n, [x_x], _, _, rfl, by omega, by omega, hq_q2, O_l, R_gp, HF, HV⟩
  case round =>
   clear O_l R_gp HF HV R_arr I_x
   obtain ⟨m, q, j, acc, av, cv, rfl, hmj, hmq, hq_q, O_l, R_gp, HF, HV⟩ := hrel
   obtain ⟨wL, hwL⟩ : ∃ wL, wL = wr := ⟨wr, rfl⟩
   rw [← hwL] at O_l R_gp HF ⊢
   clear hwL wr
   cases j with
   | zero =>
    exact absurd HV.out.symm HO.out
   | succ j =>
    simp only [more, run_bind, run_skip, Re.andThen] at HV
    go_wp2_with fail
    obtain ⟨w5, hn⟩ : ∃ wZ, wL.alloc (.cells #[.string sb] 9) = wZ := ⟨_, rfl⟩
    obtain ⟨g_sk, hg⟩ : ∃ gZ, wL.heap.size = gZ := ⟨_, rfl⟩
    rw [hn, hg]
    have HS : Hid (Fr No wL w5) := Lib.hid (by rw [← hn]; exact Fr.alloc _ _)
    have R_sk := nb hn hg
    have L_gp_sk := lb hg R_gp
    have B_sk := bs hg HF
    clear hn hg
    replace R_gp := kn HS R_gp
    replace O_l := on HS O_l
    replace HF := fn HF HS
    clear HS
    replace R_sk : Hid (w5.heap[g_sk]? = some (.cells ([sb].map Value.string).toArray 9 (0, 0))) := R_sk
    have hgw2 : w.heap.size ≤ w5.heap.size := HF.out.size
    cases hb_sk : seesB (l.getD q zTok) [sb] with
    | true =>
     simp only [hb_sk, run_bind, run_skip, run_must, run_take, Pr.run, next, if_true, if_false, Bool.false_eq_true] at HV
     refine (sk_any (ts := [sb]) (n := 1) (Par.of HP0.out HF.out R_gp.out hq_q) R_sk.out rfl (by omega) hb_sk).mono ?_
     rintro e w6 ⟨rfl, hf, hp⟩
     replace hp : Par w6 gp a c l (q + 1) := hp
     clear R_sk
     have HS := Lib.hid hf
     have RG := Lib.hid hp.blk
     have hq_qP1 := hp.le
     clear hf hp
     replace O_l := oj O_l HS (by omega) (fun b hb => hb)
     replace HF := ft HF HS
     replace R_gp := RG
     clear HS RG
     go_wp2_with fail
     cases hr_y : Pr.run l one (q + 1) with
     | out =>
      simp only [hr_y, Re.andThen, run_bind, run_skip, run_must, run_take, Pr.run, next, if_true, if_false, Bool.false_eq_true] at HV
      exact absurd HV.out.symm HO.out
     | fail q =>
      simp only [hr_y, Re.andThen, run_bind, run_skip, run_must, run_take, Pr.run, next, if_true, if_false, Bool.false_eq_true] at HV
      refine ((HH.out).bad (Par.of HP0.out HF.out R_gp.out hq_qP1) hr_y).mono ?_
      rintro e w7 ⟨rfl, hf, hp⟩
      have hv := HV.out
      subst hv
      exact ⟨rfl, rfl, HF.out.trans hf (fun _ _ h => h), hp⟩
     | ok x_y q8 =>
      simp only [hr_y, Re.andThen, run_bind, run_skip, run_must, run_take, Pr.run, next, if_true, if_false, Bool.false_eq_true] at HV
      have hsz_y : gp < w6.heap.size := lt_of_block R_gp.out
      obtain ⟨b_y, hB⟩ : ∃ bZ, w6.heap.size = bZ := ⟨_, rfl⟩
      have K_gp_y := lb hB R_gp
      have KB_y := bs hB HF
      clear hsz_y
      have OB_l_y : Hid (∀ b, (Value.slice av m cv).ownBlock = some b → b < b_y) := Lib.hid (fun bb hbb => by rw [← hB]; exact (O_l.out.block hbb).2)
      refine ((HH.out).good (Par.of HP0.out HF.out R_gp.out hq_qP1) hr_y).mono ?_
      rintro e w9 ⟨⟨cs_y, rfl, hc⟩, hf, hp⟩
      rw [hB] at hc
      clear hB
      obtain ⟨h_y, hH⟩ : ∃ hZ, w9.heap.size = hZ := ⟨_, rfl⟩
      have I_y := im hH hc
      have Z_h_y : h_y ≤ w9.heap.size := Nat.le_of_eq hH.symm
      clear hc hH
      have HS := Lib.hid hf
      have RG := Lib.hid hp.blk
      have hq_q8 := hp.le
      clear hf hp
      replace O_l := oj O_l HS (by omega) (fun b hb => hb)
      replace HF := ft HF HS
      replace R_gp := RG
      clear HS RG
      obtain ⟨k_y, s_y, n_y, a_y, m_y, c_y, ecs⟩ := hcT I_y.out
      subst ecs
      have hmono := run_mono l one _ _ _ hr_y
      go_wp2_with (at_builtin; refine wpList_push keptX elemT rfl _ _ 35 rfl Tryd.underlying35 (fun b => w.heap.size ≤ b) w.heap.size (.slice av m cv) m (acc.map xT) rfl (O_l.out.no keptX (Fr.alloc _ _)) _ [.int .u8 k_y, .string s_y, .int .i64 n_y, .slice a_y m_y c_y] 37 rfl (new_block _ _) (by simp [Value.oneCell']) rfl (xT x_y) (Hc.no (I_y.out.mono (ok' := fun b => w.heap.size ≤ b ∧ Av (.slice av m cv) b) (fun b _ hb => ⟨by have := hb.1; omega, fun eb => by have := OB_l_y.out b eb; have := hb.1; omega⟩)) (Fr.alloc _ _)) (by unfold maxLen; omega) (by omega) (Nat.le_trans HF.out.size (Fr.alloc w9 (.cells #[.int .u8 k_y, .string s_y, .int .i64 n_y, .slice a_y m_y c_y] 37)).size) ?_; intro a3 c3 wn HON HGN)
      have HFN : Hid (Fr (Just gp) w wn) := Lib.hid ((HF.out.trans ((Fr.alloc w9 (.cells #[.int .u8 k_y, .string s_y, .int .i64 n_y, .slice a_y m_y c_y] 37)).just gp) (fun _ _ h => h)).trans HGN.out.fr (fun i hi hb => by have hb : w.heap.size ≤ i := hb; omega))
      have R_gpN : Hid (wn.heap[gp]? = some (.cells #[.slice a l.length c, .int .i64 (q8 : Nat)] 60 (0, 0))) := Lib.hid (HGN.out.fr.keeps ((Fr.alloc _ _).keeps R_gp.out no_one) (fun hb => by have hb : w.heap.size ≤ gp := hb; omega))
      exact ⟨⟨m + 1, q8, j, acc ++ [x_y], a3, c3, rfl, by omega, by omega, hq_q8, Lib.hid (by rw [List.map_append]; exact HON.out), R_gpN, HFN, HV⟩, by simp [lenOf]; omega⟩
    | false =>
     simp only [hb_sk, run_bind, run_skip, run_must, run_take, Pr.run, next, if_true, if_false, Bool.false_eq_true] at HV
     refine (sk_any (ts := [sb]) (n := 1) (Par.of HP0.out HF.out R_gp.out hq_q) R_sk.out rfl (by omega) hb_sk).mono ?_
     rintro e w10 ⟨rfl, hf, hp⟩
     replace hp : Par w10 gp a c l q := hp
     clear R_sk
     have HS := Lib.hid hf
     have RG := Lib.hid hp.blk
     have hq_q := hp.le
     clear hf hp
     replace O_l := oj O_l HS (by omega) (fun b hb => hb)
     replace HF := ft HF HS
     replace R_gp := RG
     clear HS RG
     go_wp2_with fail
     go_ret
     have hv := HV.out
     subst hv
     exact ⟨⟨_, rfl, hx_of_out O_l.out (by decide) (fun b hb _ => hb) (fun b _ hb => hb)⟩, HF.out, (Par.of HP0.out HF.out R_gp.out hq_q)⟩
set_option maxHeartbeats 4000000 in
set_option maxRecDepth 100000 in
theorem some_pat {gp : Nat} {a : Option Addr} {c : Nat} {l : List Tok} {one : Pr T} {f1 : FuncId} (he : ∀ (args : Array Value) (u : World), Sem.run Tryd.prog (callFunc f1 args) u = .ok (.enter f1 args) u) (h1 : CT gp a c l f1 [] (stE xT) one) (sb : ByteArray) (n : Nat) :
  CT gp a c l 90 [.string sb, .func (.func f1) #[.pointer (some ⟨gp, 0, none⟩)] #[]] (rowE 4 xT) (some_ n sb one) := by
 intro w p hp0 ho
 have HO := Lib.hid ho
 have HP0 := Lib.hid hp0
 have HH := Lib.hid h1
 have hq_p := hp0.le
 have hlen := hp0.len
 have HF : Hid (Fr (Just gp) w w) := Lib.hid (Fr.refl _ _)
 have R_gp : Hid (w.heap[gp]? = some (.cells #[.slice a l.length c, .int .i64 (p : Nat)] 60 (0, 0))) := Lib.hid hp0.blk
 have hgw : gp < w.heap.size := lt_of_block hp0.blk
 obtain ⟨V, hV⟩ : ∃ V, Pr.run l (some_ n sb one) p = V := ⟨_, rfl⟩
 rw [hV] at HO ⊢
 clear ho hp0 h1
 simp only [some_, run_bind] at hV
 have HV := Lib.hid hV
 clear hV
 go_enter Tryd.func90, Tryd.ntmps90
 go_wp2_with fail
 cases hr_x : Pr.run l one p with
 | out =>
  simp only [hr_x, Re.andThen, run_bind, run_skip, run_must, run_take, Pr.run, next, if_true, if_false, Bool.false_eq_true] at HV
  exact absurd HV.out.symm HO.out
 | fail q =>
  simp only [hr_x, Re.andThen, run_bind, run_skip, run_must, run_take, Pr.run, next, if_true, if_false, Bool.false_eq_true] at HV
  refine ((HH.out).bad (Par.of HP0.out HF.out R_gp.out hq_p) hr_x).mono ?_
  rintro e w1 ⟨rfl, hf, hp⟩
  have hv := HV.out
  subst hv
  exact ⟨rfl, rfl, HF.out.trans hf (fun _ _ h => h), hp⟩
 | ok x_x q2 =>
  simp only [hr_x, Re.andThen, run_bind, run_skip, run_must, run_take, Pr.run, next, if_true, if_false, Bool.false_eq_true] at HV
  have hsz_x : gp < w.heap.size := lt_of_block R_gp.out
  obtain ⟨b_x, hB⟩ : ∃ bZ, w.heap.size = bZ := ⟨_, rfl⟩
  have K_gp_x := lb hB R_gp
  have KB_x := bs hB HF
  clear hsz_x
  refine ((HH.out).good (Par.of HP0.out HF.out R_gp.out hq_p) hr_x).mono ?_
  rintro e w3 ⟨⟨cs_x, rfl, hc⟩, hf, hp⟩
  rw [hB] at hc
  clear hB
  obtain ⟨h_x, hH⟩ : ∃ hZ, w3.heap.size = hZ := ⟨_, rfl⟩
  have I_x := im hH hc
  have Z_h_x : h_x ≤ w3.heap.size := Nat.le_of_eq hH.symm
  clear hc hH
  have HS := Lib.hid hf
  have RG := Lib.hid hp.blk
  have hq_q2 := hp.le
  clear hf hp
  replace HF := ft HF HS
  replace R_gp := RG
  clear HS RG
  obtain ⟨k_x, s_x, n_x, a_x, m_x, c_x, ecs⟩ := hcT I_x.out
  subst ecs
  go_upto_region 2 with fail
  generalize hn : w3.alloc _ = w4
  generalize hg : w3.heap.size = g_arr
  have HS := fa hn
  have R_arr := nb hn hg
  have L_gp_arr := lb hg R_gp
  have B_arr := bs hg HF
  have M_h_x_arr := mz hg Z_h_x
  clear hn hg
  replace R_gp := kn HS R_gp
  replace I_x := ik I_x HS
  replace HF := fn HF HS
  replace Z_h_x := zt Z_h_x HS
  clear HS
  have O_l : Hid (OutG RX 74 4 (fun b => w.heap.size ≤ b) w.heap.size w4 (.slice (some ⟨g_arr, 0, none⟩) 1 1) 1 ([x_x].map xT)) := Lib.hid (out_lits (cs := [[.int .u8 k_x, .string s_x, .int .i64 n_x, .slice a_x m_x c_x]]) R_arr.out B_arr rfl rfl (fun c hc => by rw [List.mem_singleton.1 hc]; rfl) (by omega) (fun j t c hj hc => by
   have hj0 : j < 1 := (List.getElem?_eq_some_iff.1 hj).1
   obtain rfl : j = 0 := by omega
   cases hj
   cases hc
   exact I_x.out.mono (fun b _ hb => ⟨by have := hb.1; omega, fun (h : b = g_arr) => by have := hb.2; omega⟩)))
  go_wp2_with fail
  go_loopw [7] (fun v wx => ∃ (m q j : Nat) (acc : List T) (av : Option Addr) (cv : Nat), v = .slice av m cv ∧ m + j = n + 1 ∧ m ≤ q + 1 ∧ q ≤ l.length ∧ Hid (OutG RX 74 4 (fun b => w.heap.size ≤ b) w.heap.size wx (.slice av m cv) m (acc.map xT)) ∧ Hid (wx.heap[gp]? = some (.cells #[.slice a l.length c, .int .i64 (q : Nat)] 60 (0, 0))) ∧ Hid (Fr (Just gp) w wx) ∧ Hid (Pr.run l (more sb one j acc) q = V)) (fun v _ => n + 1 - lenOf v)
  case atStart => exact ⟨1, q2, n, [x_x], _, _, rfl, by omega, by omega, hq_q2, O_l, R_gp, HF, HV⟩
  case round =>
   clear O_l R_gp HF HV R_arr I_x
   obtain ⟨m, q, j, acc, av, cv, rfl, hmj, hmq, hq_q, O_l, R_gp, HF, HV⟩ := hrel
   obtain ⟨wL, hwL⟩ : ∃ wL, wL = wr := ⟨wr, rfl⟩
   rw [← hwL] at O_l R_gp HF ⊢
   clear hwL wr
   cases j with
   | zero =>
    exact absurd HV.out.symm HO.out
   | succ j =>
    simp only [more, run_bind, run_skip, Re.andThen] at HV
    go_wp2_with fail
    obtain ⟨w5, hn⟩ : ∃ wZ, wL.alloc (.cells #[.string sb] 9) = wZ := ⟨_, rfl⟩
    obtain ⟨g_sk, hg⟩ : ∃ gZ, wL.heap.size = gZ := ⟨_, rfl⟩
    rw [hn, hg]
    have HS : Hid (Fr No wL w5) := Lib.hid (by rw [← hn]; exact Fr.alloc _ _)
    have R_sk := nb hn hg
    have L_gp_sk := lb hg R_gp
    have B_sk := bs hg HF
    clear hn hg
    replace R_gp := kn HS R_gp
    replace O_l := on HS O_l
    replace HF := fn HF HS
    clear HS
    replace R_sk : Hid (w5.heap[g_sk]? = some (.cells ([sb].map Value.string).toArray 9 (0, 0))) := R_sk
    have hgw2 : w.heap.size ≤ w5.heap.size := HF.out.size
    cases hb_sk : seesB (l.getD q zTok) [sb] with
    | true =>
     simp only [hb_sk, run_bind, run_skip, run_must, run_take, Pr.run, next, if_true, if_false, Bool.false_eq_true] at HV
     refine (sk_any (ts := [sb]) (n := 1) (Par.of HP0.out HF.out R_gp.out hq_q) R_sk.out rfl (by omega) hb_sk).mono ?_
     rintro e w6 ⟨rfl, hf, hp⟩
     replace hp : Par w6 gp a c l (q + 1) := hp
     clear R_sk
     have HS := Lib.hid hf
     have RG := Lib.hid hp.blk
     have hq_qP1 := hp.le
     clear hf hp
     replace O_l := oj O_l HS (by omega) (fun b hb => hb)
     replace HF := ft HF HS
     replace R_gp := RG
     clear HS RG
     go_wp2_with fail
     cases hr_y : Pr.run l one (q + 1) with
     | out =>
      simp only [hr_y, Re.andThen, run_bind, run_skip, run_must, run_take, Pr.run, next, if_true, if_false, Bool.false_eq_true] at HV
      exact absurd HV.out.symm HO.out
     | fail q =>
      simp only [hr_y, Re.andThen, run_bind, run_skip, run_must, run_take, Pr.run, next, if_true, if_false, Bool.false_eq_true] at HV
      refine ((HH.out).bad (Par.of HP0.out HF.out R_gp.out hq_qP1) hr_y).mono ?_
      rintro e w7 ⟨rfl, hf, hp⟩
      have hv := HV.out
      subst hv
      exact ⟨rfl, rfl, HF.out.trans hf (fun _ _ h => h), hp⟩
     | ok x_y q8 =>
      simp only [hr_y, Re.andThen, run_bind, run_skip, run_must, run_take, Pr.run, next, if_true, if_false, Bool.false_eq_true] at HV
      have hsz_y : gp < w6.heap.size := lt_of_block R_gp.out
      obtain ⟨b_y, hB⟩ : ∃ bZ, w6.heap.size = bZ := ⟨_, rfl⟩
      have K_gp_y := lb hB R_gp
      have KB_y := bs hB HF
      clear hsz_y
      have OB_l_y : Hid (∀ b, (Value.slice av m cv).ownBlock = some b → b < b_y) := Lib.hid (fun bb hbb => by rw [← hB]; exact (O_l.out.block hbb).2)
      refine ((HH.out).good (Par.of HP0.out HF.out R_gp.out hq_qP1) hr_y).mono ?_
      rintro e w9 ⟨⟨cs_y, rfl, hc⟩, hf, hp⟩
      rw [hB] at hc
      clear hB
      obtain ⟨h_y, hH⟩ : ∃ hZ, w9.heap.size = hZ := ⟨_, rfl⟩
      have I_y := im hH hc
      have Z_h_y : h_y ≤ w9.heap.size := Nat.le_of_eq hH.symm
      clear hc hH
      have HS := Lib.hid hf
      have RG := Lib.hid hp.blk
      have hq_q8 := hp.le
      clear hf hp
      replace O_l := oj O_l HS (by omega) (fun b hb => hb)
      replace HF := ft HF HS
      replace R_gp := RG
      clear HS RG
      obtain ⟨k_y, s_y, n_y, a_y, m_y, c_y, ecs⟩ := hcT I_y.out
      subst ecs
      have hmono := run_mono l one _ _ _ hr_y
      go_wp2_with (at_builtin; refine wpList_push keptX elemP rfl _ _ 72 rfl Tryd.underlying72 (fun b => w.heap.size ≤ b) w.heap.size (.slice av m cv) m (acc.map xT) rfl (O_l.out.no keptX (Fr.alloc _ _)) _ [.int .u8 k_y, .string s_y, .int .i64 n_y, .slice a_y m_y c_y] 74 rfl (new_block _ _) (by simp [Value.oneCell']) rfl (xT x_y) (Hc.no (I_y.out.mono (ok' := fun b => w.heap.size ≤ b ∧ Av (.slice av m cv) b) (fun b _ hb => ⟨by have := hb.1; omega, fun eb => by have := OB_l_y.out b eb; have := hb.1; omega⟩)) (Fr.alloc _ _)) (by unfold maxLen; omega) (by omega) (Nat.le_trans HF.out.size (Fr.alloc w9 (.cells #[.int .u8 k_y, .string s_y, .int .i64 n_y, .slice a_y m_y c_y] 74)).size) ?_; intro a3 c3 wn HON HGN)
      have HFN : Hid (Fr (Just gp) w wn) := Lib.hid ((HF.out.trans ((Fr.alloc w9 (.cells #[.int .u8 k_y, .string s_y, .int .i64 n_y, .slice a_y m_y c_y] 74)).just gp) (fun _ _ h => h)).trans HGN.out.fr (fun i hi hb => by have hb : w.heap.size ≤ i := hb; omega))
      have R_gpN : Hid (wn.heap[gp]? = some (.cells #[.slice a l.length c, .int .i64 (q8 : Nat)] 60 (0, 0))) := Lib.hid (HGN.out.fr.keeps ((Fr.alloc _ _).keeps R_gp.out no_one) (fun hb => by have hb : w.heap.size ≤ gp := hb; omega))
      exact ⟨⟨m + 1, q8, j, acc ++ [x_y], a3, c3, rfl, by omega, by omega, hq_q8, Lib.hid (by rw [List.map_append]; exact HON.out), R_gpN, HFN, HV⟩, by simp [lenOf]; omega⟩
    | false =>
     simp only [hb_sk, run_bind, run_skip, run_must, run_take, Pr.run, next, if_true, if_false, Bool.false_eq_true] at HV
     refine (sk_any (ts := [sb]) (n := 1) (Par.of HP0.out HF.out R_gp.out hq_q) R_sk.out rfl (by omega) hb_sk).mono ?_
     rintro e w10 ⟨rfl, hf, hp⟩
     replace hp : Par w10 gp a c l q := hp
     clear R_sk
     have HS := Lib.hid hf
     have RG := Lib.hid hp.blk
     have hq_q := hp.le
     clear hf hp
     replace O_l := oj O_l HS (by omega) (fun b hb => hb)
     replace HF := ft HF HS
     replace R_gp := RG
     clear HS RG
     go_wp2_with fail
     go_ret
     have hv := HV.out
     subst hv
     exact ⟨⟨_, rfl, hx_of_out O_l.out (by decide) (fun b hb _ => hb) (fun b _ hb => hb)⟩, HF.out, (Par.of HP0.out HF.out R_gp.out hq_q)⟩
set_option maxHeartbeats 4000000 in
set_option maxRecDepth 100000 in
theorem some_con {gp : Nat} {a : Option Addr} {c : Nat} {l : List Tok} {one : Pr C} {f1 : FuncId} (he : ∀ (args : Array Value) (u : World), Sem.run Tryd.prog (callFunc f1 args) u = .ok (.enter f1 args) u) (h1 : CT gp a c l f1 [] (stE xC) one) (sb : ByteArray) (n : Nat) :
  CT gp a c l 35 [.string sb, .func (.func f1) #[.pointer (some ⟨gp, 0, none⟩)] #[]] (rowE 6 xC) (some_ n sb one) := by
 intro w p hp0 ho
 have HO := Lib.hid ho
 have HP0 := Lib.hid hp0
 have HH := Lib.hid h1
 have hq_p := hp0.le
 have hlen := hp0.len
 have HF : Hid (Fr (Just gp) w w) := Lib.hid (Fr.refl _ _)
 have R_gp : Hid (w.heap[gp]? = some (.cells #[.slice a l.length c, .int .i64 (p : Nat)] 60 (0, 0))) := Lib.hid hp0.blk
 have hgw : gp < w.heap.size := lt_of_block hp0.blk
 obtain ⟨V, hV⟩ : ∃ V, Pr.run l (some_ n sb one) p = V := ⟨_, rfl⟩
 rw [hV] at HO ⊢
 clear ho hp0 h1
 simp only [some_, run_bind] at hV
 have HV := Lib.hid hV
 clear hV
 go_enter Tryd.func35, Tryd.ntmps35
 go_wp2_with fail
 cases hr_x : Pr.run l one p with
 | out =>
  simp only [hr_x, Re.andThen, run_bind, run_skip, run_must, run_take, Pr.run, next, if_true, if_false, Bool.false_eq_true] at HV
  exact absurd HV.out.symm HO.out
 | fail q =>
  simp only [hr_x, Re.andThen, run_bind, run_skip, run_must, run_take, Pr.run, next, if_true, if_false, Bool.false_eq_true] at HV
  refine ((HH.out).bad (Par.of HP0.out HF.out R_gp.out hq_p) hr_x).mono ?_
  rintro e w1 ⟨rfl, hf, hp⟩
  have hv := HV.out
  subst hv
  exact ⟨rfl, rfl, HF.out.trans hf (fun _ _ h => h), hp⟩
 | ok x_x q2 =>
  simp only [hr_x, Re.andThen, run_bind, run_skip, run_must, run_take, Pr.run, next, if_true, if_false, Bool.false_eq_true] at HV
  have hsz_x : gp < w.heap.size := lt_of_block R_gp.out
  obtain ⟨b_x, hB⟩ : ∃ bZ, w.heap.size = bZ := ⟨_, rfl⟩
  have K_gp_x := lb hB R_gp
  have KB_x := bs hB HF
  clear hsz_x
  refine ((HH.out).good (Par.of HP0.out HF.out R_gp.out hq_p) hr_x).mono ?_
  rintro e w3 ⟨⟨cs_x, rfl, hc⟩, hf, hp⟩
  rw [hB] at hc
  clear hB
  obtain ⟨h_x, hH⟩ : ∃ hZ, w3.heap.size = hZ := ⟨_, rfl⟩
  have I_x := im hH hc
  have Z_h_x : h_x ≤ w3.heap.size := Nat.le_of_eq hH.symm
  clear hc hH
  have HS := Lib.hid hf
  have RG := Lib.hid hp.blk
  have hq_q2 := hp.le
  clear hf hp
  replace HF := ft HF HS
  replace R_gp := RG
  clear HS RG
  obtain ⟨z_x, y_x, k_x, s_x, n_x, a_x, m_x, c_x, ecs⟩ := hcC I_x.out
  subst ecs
  go_upto_region 2 with fail
  generalize hn : w3.alloc _ = w4
  generalize hg : w3.heap.size = g_arr
  have HS := fa hn
  have R_arr := nb hn hg
  have L_gp_arr := lb hg R_gp
  have B_arr := bs hg HF
  have M_h_x_arr := mz hg Z_h_x
  clear hn hg
  replace R_gp := kn HS R_gp
  replace I_x := ik I_x HS
  replace HF := fn HF HS
  replace Z_h_x := zt Z_h_x HS
  clear HS
  have O_l : Hid (OutG RX 86 6 (fun b => w.heap.size ≤ b) w.heap.size w4 (.slice (some ⟨g_arr, 0, none⟩) 1 1) 1 ([x_x].map xC)) := Lib.hid (out_lits (cs := [[.string z_x, .bool y_x, .int .u8 k_x, .string s_x, .int .i64 n_x, .slice a_x m_x c_x]]) R_arr.out B_arr rfl rfl (fun c hc => by rw [List.mem_singleton.1 hc]; rfl) (by omega) (fun j t c hj hc => by
   have hj0 : j < 1 := (List.getElem?_eq_some_iff.1 hj).1
   obtain rfl : j = 0 := by omega
   cases hj
   cases hc
   exact I_x.out.mono (fun b _ hb => ⟨by have := hb.1; omega, fun (h : b = g_arr) => by have := hb.2; omega⟩)))
  go_wp2_with fail
  go_loopw [7] (fun v wx => ∃ (m q j : Nat) (acc : List C) (av : Option Addr) (cv : Nat), v = .slice av m cv ∧ m + j = n + 1 ∧ m ≤ q + 1 ∧ q ≤ l.length ∧ Hid (OutG RX 86 6 (fun b => w.heap.size ≤ b) w.heap.size wx (.slice av m cv) m (acc.map xC)) ∧ Hid (wx.heap[gp]? = some (.cells #[.slice a l.length c, .int .i64 (q : Nat)] 60 (0, 0))) ∧ Hid (Fr (Just gp) w wx) ∧ Hid (Pr.run l (more sb one j acc) q = V)) (fun v _ => n + 1 - lenOf v)
  case atStart => exact ⟨1, q2, n, [x_x], _, _, rfl, by omega, by omega, hq_q2, O_l, R_gp, HF, HV⟩
  case round =>
   clear O_l R_gp HF HV R_arr I_x
   obtain ⟨m, q, j, acc, av, cv, rfl, hmj, hmq, hq_q, O_l, R_gp, HF, HV⟩ := hrel
   obtain ⟨wL, hwL⟩ : ∃ wL, wL = wr := ⟨wr, rfl⟩
   rw [← hwL] at O_l R_gp HF ⊢
   clear hwL wr
   cases j with
   | zero =>
    exact absurd HV.out.symm HO.out
   | succ j =>
    simp only [more, run_bind, run_skip, Re.andThen] at HV
    go_wp2_with fail
    obtain ⟨w5, hn⟩ : ∃ wZ, wL.alloc (.cells #[.string sb] 9) = wZ := ⟨_, rfl⟩
    obtain ⟨g_sk, hg⟩ : ∃ gZ, wL.heap.size = gZ := ⟨_, rfl⟩
    rw [hn, hg]
    have HS : Hid (Fr No wL w5) := Lib.hid (by rw [← hn]; exact Fr.alloc _ _)
    have R_sk := nb hn hg
    have L_gp_sk := lb hg R_gp
    have B_sk := bs hg HF
    clear hn hg
    replace R_gp := kn HS R_gp
    replace O_l := on HS O_l
    replace HF := fn HF HS
    clear HS
    replace R_sk : Hid (w5.heap[g_sk]? = some (.cells ([sb].map Value.string).toArray 9 (0, 0))) := R_sk
    have hgw2 : w.heap.size ≤ w5.heap.size := HF.out.size
    cases hb_sk : seesB (l.getD q zTok) [sb] with
    | true =>
     simp only [hb_sk, run_bind, run_skip, run_must, run_take, Pr.run, next, if_true, if_false, Bool.false_eq_true] at HV
     refine (sk_any (ts := [sb]) (n := 1) (Par.of HP0.out HF.out R_gp.out hq_q) R_sk.out rfl (by omega) hb_sk).mono ?_
     rintro e w6 ⟨rfl, hf, hp⟩
     replace hp : Par w6 gp a c l (q + 1) := hp
     clear R_sk
     have HS := Lib.hid hf
     have RG := Lib.hid hp.blk
     have hq_qP1 := hp.le
     clear hf hp
     replace O_l := oj O_l HS (by omega) (fun b hb => hb)
     replace HF := ft HF HS
     replace R_gp := RG
     clear HS RG
     go_wp2_with fail
     cases hr_y : Pr.run l one (q + 1) with
     | out =>
      simp only [hr_y, Re.andThen, run_bind, run_skip, run_must, run_take, Pr.run, next, if_true, if_false, Bool.false_eq_true] at HV
      exact absurd HV.out.symm HO.out
     | fail q =>
      simp only [hr_y, Re.andThen, run_bind, run_skip, run_must, run_take, Pr.run, next, if_true, if_false, Bool.false_eq_true] at HV
      refine ((HH.out).bad (Par.of HP0.out HF.out R_gp.out hq_qP1) hr_y).mono ?_
      rintro e w7 ⟨rfl, hf, hp⟩
      have hv := HV.out
      subst hv
      exact ⟨rfl, rfl, HF.out.trans hf (fun _ _ h => h), hp⟩
     | ok x_y q8 =>
      simp only [hr_y, Re.andThen, run_bind, run_skip, run_must, run_take, Pr.run, next, if_true, if_false, Bool.false_eq_true] at HV
      have hsz_y : gp < w6.heap.size := lt_of_block R_gp.out
      obtain ⟨b_y, hB⟩ : ∃ bZ, w6.heap.size = bZ := ⟨_, rfl⟩
      have K_gp_y := lb hB R_gp
      have KB_y := bs hB HF
      clear hsz_y
      have OB_l_y : Hid (∀ b, (Value.slice av m cv).ownBlock = some b → b < b_y) := Lib.hid (fun bb hbb => by rw [← hB]; exact (O_l.out.block hbb).2)
      refine ((HH.out).good (Par.of HP0.out HF.out R_gp.out hq_qP1) hr_y).mono ?_
      rintro e w9 ⟨⟨cs_y, rfl, hc⟩, hf, hp⟩
      rw [hB] at hc
      clear hB
      obtain ⟨h_y, hH⟩ : ∃ hZ, w9.heap.size = hZ := ⟨_, rfl⟩
      have I_y := im hH hc
      have Z_h_y : h_y ≤ w9.heap.size := Nat.le_of_eq hH.symm
      clear hc hH
      have HS := Lib.hid hf
      have RG := Lib.hid hp.blk
      have hq_q8 := hp.le
      clear hf hp
      replace O_l := oj O_l HS (by omega) (fun b hb => hb)
      replace HF := ft HF HS
      replace R_gp := RG
      clear HS RG
      obtain ⟨z_y, y_y, k_y, s_y, n_y, a_y, m_y, c_y, ecs⟩ := hcC I_y.out
      subst ecs
      have hmono := run_mono l one _ _ _ hr_y
      go_wp2_with (at_builtin; refine wpList_push keptX elemC rfl _ _ 33 rfl Tryd.underlying33 (fun b => w.heap.size ≤ b) w.heap.size (.slice av m cv) m (acc.map xC) rfl (O_l.out.no keptX (Fr.alloc _ _)) _ [.string z_y, .bool y_y, .int .u8 k_y, .string s_y, .int .i64 n_y, .slice a_y m_y c_y] 86 rfl (new_block _ _) (by simp [Value.oneCell']) rfl (xC x_y) (Hc.no (I_y.out.mono (ok' := fun b => w.heap.size ≤ b ∧ Av (.slice av m cv) b) (fun b _ hb => ⟨by have := hb.1; omega, fun eb => by have := OB_l_y.out b eb; have := hb.1; omega⟩)) (Fr.alloc _ _)) (by unfold maxLen; omega) (by omega) (Nat.le_trans HF.out.size (Fr.alloc w9 (.cells #[.string z_y, .bool y_y, .int .u8 k_y, .string s_y, .int .i64 n_y, .slice a_y m_y c_y] 86)).size) ?_; intro a3 c3 wn HON HGN)
      have HFN : Hid (Fr (Just gp) w wn) := Lib.hid ((HF.out.trans ((Fr.alloc w9 (.cells #[.string z_y, .bool y_y, .int .u8 k_y, .string s_y, .int .i64 n_y, .slice a_y m_y c_y] 86)).just gp) (fun _ _ h => h)).trans HGN.out.fr (fun i hi hb => by have hb : w.heap.size ≤ i := hb; omega))
      have R_gpN : Hid (wn.heap[gp]? = some (.cells #[.slice a l.length c, .int .i64 (q8 : Nat)] 60 (0, 0))) := Lib.hid (HGN.out.fr.keeps ((Fr.alloc _ _).keeps R_gp.out no_one) (fun hb => by have hb : w.heap.size ≤ gp := hb; omega))
      exact ⟨⟨m + 1, q8, j, acc ++ [x_y], a3, c3, rfl, by omega, by omega, hq_q8, Lib.hid (by rw [List.map_append]; exact HON.out), R_gpN, HFN, HV⟩, by simp [lenOf]; omega⟩
    | false =>
     simp only [hb_sk, run_bind, run_skip, run_must, run_take, Pr.run, next, if_true, if_false, Bool.false_eq_true] at HV
     refine (sk_any (ts := [sb]) (n := 1) (Par.of HP0.out HF.out R_gp.out hq_q) R_sk.out rfl (by omega) hb_sk).mono ?_
     rintro e w10 ⟨rfl, hf, hp⟩
     replace hp : Par w10 gp a c l q := hp
     clear R_sk
     have HS := Lib.hid hf
     have RG := Lib.hid hp.blk
     have hq_q := hp.le
     clear hf hp
     replace O_l := oj O_l HS (by omega) (fun b hb => hb)
     replace HF := ft HF HS
     replace R_gp := RG
     clear HS RG
     go_wp2_with fail
     go_ret
     have hv := HV.out
     subst hv
     exact ⟨⟨_, rfl, hx_of_out O_l.out (by decide) (fun b hb _ => hb) (fun b _ hb => hb)⟩, HF.out, (Par.of HP0.out HF.out R_gp.out hq_q)⟩
set_option maxHeartbeats 4000000 in
set_option maxRecDepth 100000 in
theorem some_str {gp : Nat} {a : Option Addr} {c : Nat} {l : List Tok} {one : Pr ByteArray} {f1 : FuncId} (he : ∀ (args : Array Value) (u : World), Sem.run Tryd.prog (callFunc f1 args) u = .ok (.enter f1 args) u) (h1 : CT gp a c l f1 [] (txE) one) (sb : ByteArray) (n : Nat) :
  CT gp a c l 54 [.string sb, .func (.func f1) #[.pointer (some ⟨gp, 0, none⟩)] #[]] (rowE 1 (fun s => [xb s])) (some_ n sb one) := by
 intro w p hp0 ho
 have HO := Lib.hid ho
 have HP0 := Lib.hid hp0
 have HH := Lib.hid h1
 have hq_p := hp0.le
 have hlen := hp0.len
 have HF : Hid (Fr (Just gp) w w) := Lib.hid (Fr.refl _ _)
 have R_gp : Hid (w.heap[gp]? = some (.cells #[.slice a l.length c, .int .i64 (p : Nat)] 60 (0, 0))) := Lib.hid hp0.blk
 have hgw : gp < w.heap.size := lt_of_block hp0.blk
 obtain ⟨V, hV⟩ : ∃ V, Pr.run l (some_ n sb one) p = V := ⟨_, rfl⟩
 rw [hV] at HO ⊢
 clear ho hp0 h1
 simp only [some_, run_bind] at hV
 have HV := Lib.hid hV
 clear hV
 go_enter Tryd.func54, Tryd.ntmps54
 go_wp2_with fail
 cases hr_x : Pr.run l one p with
 | out =>
  simp only [hr_x, Re.andThen, run_bind, run_skip, run_must, run_take, Pr.run, next, if_true, if_false, Bool.false_eq_true] at HV
  exact absurd HV.out.symm HO.out
 | fail q =>
  simp only [hr_x, Re.andThen, run_bind, run_skip, run_must, run_take, Pr.run, next, if_true, if_false, Bool.false_eq_true] at HV
  refine ((HH.out).bad (Par.of HP0.out HF.out R_gp.out hq_p) hr_x).mono ?_
  rintro e w1 ⟨rfl, hf, hp⟩
  have hv := HV.out
  subst hv
  exact ⟨rfl, rfl, HF.out.trans hf (fun _ _ h => h), hp⟩
 | ok x_x q2 =>
  simp only [hr_x, Re.andThen, run_bind, run_skip, run_must, run_take, Pr.run, next, if_true, if_false, Bool.false_eq_true] at HV
  have hsz_x : gp < w.heap.size := lt_of_block R_gp.out
  obtain ⟨b_x, hB⟩ : ∃ bZ, w.heap.size = bZ := ⟨_, rfl⟩
  have K_gp_x := lb hB R_gp
  have KB_x := bs hB HF
  clear hsz_x
  refine ((HH.out).good (Par.of HP0.out HF.out R_gp.out hq_p) hr_x).mono ?_
  rintro e w3 ⟨rfl, hf, hp⟩
  clear hB
  have HS := Lib.hid hf
  have RG := Lib.hid hp.blk
  have hq_q2 := hp.le
  clear hf hp
  replace HF := ft HF HS
  replace R_gp := RG
  clear HS RG
  go_upto_region 2 with fail
  generalize hn : w3.alloc _ = w4
  generalize hg : w3.heap.size = g_arr
  have HS := fa hn
  have R_arr := nb hn hg
  have L_gp_arr := lb hg R_gp
  have B_arr := bs hg HF
  clear hn hg
  replace R_gp := kn HS R_gp
  replace HF := fn HF HS
  clear HS
  have O_l : Hid (OutG RX 9 1 (fun b => w.heap.size ≤ b) w.heap.size w4 (.slice (some ⟨g_arr, 0, none⟩) 1 1) 1 ([x_x].map (fun s => [xb s]))) := Lib.hid (out_lits (cs := [[.string x_x]]) R_arr.out B_arr rfl rfl (fun c hc => by rw [List.mem_singleton.1 hc]; rfl) (by omega) (fun j t c hj hc => by
   have hj0 : j < 1 := (List.getElem?_eq_some_iff.1 hj).1
   obtain rfl : j = 0 := by omega
   cases hj
   cases hc
   exact hc_cons (hx_lit _) hc_end))
  go_wp2_with fail
  go_loopw [7] (fun v wx => ∃ (m q j : Nat) (acc : List ByteArray) (av : Option Addr) (cv : Nat), v = .slice av m cv ∧ m + j = n + 1 ∧ m ≤ q + 1 ∧ q ≤ l.length ∧ Hid (OutG RX 9 1 (fun b => w.heap.size ≤ b) w.heap.size wx (.slice av m cv) m (acc.map (fun s => [xb s]))) ∧ Hid (wx.heap[gp]? = some (.cells #[.slice a l.length c, .int .i64 (q : Nat)] 60 (0, 0))) ∧ Hid (Fr (Just gp) w wx) ∧ Hid (Pr.run l (more sb one j acc) q = V)) (fun v _ => n + 1 - lenOf v)
  case atStart => exact ⟨1, q2, n, [x_x], _, _, rfl, by omega, by omega, hq_q2, O_l, R_gp, HF, HV⟩
  case round =>
   clear O_l R_gp HF HV R_arr
   obtain ⟨m, q, j, acc, av, cv, rfl, hmj, hmq, hq_q, O_l, R_gp, HF, HV⟩ := hrel
   obtain ⟨wL, hwL⟩ : ∃ wL, wL = wr := ⟨wr, rfl⟩
   rw [← hwL] at O_l R_gp HF ⊢
   clear hwL wr
   cases j with
   | zero =>
    exact absurd HV.out.symm HO.out
   | succ j =>
    simp only [more, run_bind, run_skip, Re.andThen] at HV
    go_wp2_with fail
    obtain ⟨w5, hn⟩ : ∃ wZ, wL.alloc (.cells #[.string sb] 9) = wZ := ⟨_, rfl⟩
    obtain ⟨g_sk, hg⟩ : ∃ gZ, wL.heap.size = gZ := ⟨_, rfl⟩
    rw [hn, hg]
    have HS : Hid (Fr No wL w5) := Lib.hid (by rw [← hn]; exact Fr.alloc _ _)
    have R_sk := nb hn hg
    have L_gp_sk := lb hg R_gp
    have B_sk := bs hg HF
    clear hn hg
    replace R_gp := kn HS R_gp
    replace O_l := on HS O_l
    replace HF := fn HF HS
    clear HS
    replace R_sk : Hid (w5.heap[g_sk]? = some (.cells ([sb].map Value.string).toArray 9 (0, 0))) := R_sk
    have hgw2 : w.heap.size ≤ w5.heap.size := HF.out.size
    cases hb_sk : seesB (l.getD q zTok) [sb] with
    | true =>
     simp only [hb_sk, run_bind, run_skip, run_must, run_take, Pr.run, next, if_true, if_false, Bool.false_eq_true] at HV
     refine (sk_any (ts := [sb]) (n := 1) (Par.of HP0.out HF.out R_gp.out hq_q) R_sk.out rfl (by omega) hb_sk).mono ?_
     rintro e w6 ⟨rfl, hf, hp⟩
     replace hp : Par w6 gp a c l (q + 1) := hp
     clear R_sk
     have HS := Lib.hid hf
     have RG := Lib.hid hp.blk
     have hq_qP1 := hp.le
     clear hf hp
     replace O_l := oj O_l HS (by omega) (fun b hb => hb)
     replace HF := ft HF HS
     replace R_gp := RG
     clear HS RG
     go_wp2_with fail
     cases hr_y : Pr.run l one (q + 1) with
     | out =>
      simp only [hr_y, Re.andThen, run_bind, run_skip, run_must, run_take, Pr.run, next, if_true, if_false, Bool.false_eq_true] at HV
      exact absurd HV.out.symm HO.out
     | fail q =>
      simp only [hr_y, Re.andThen, run_bind, run_skip, run_must, run_take, Pr.run, next, if_true, if_false, Bool.false_eq_true] at HV
      refine ((HH.out).bad (Par.of HP0.out HF.out R_gp.out hq_qP1) hr_y).mono ?_
      rintro e w7 ⟨rfl, hf, hp⟩
      have hv := HV.out
      subst hv
      exact ⟨rfl, rfl, HF.out.trans hf (fun _ _ h => h), hp⟩
     | ok x_y q8 =>
      simp only [hr_y, Re.andThen, run_bind, run_skip, run_must, run_take, Pr.run, next, if_true, if_false, Bool.false_eq_true] at HV
      have hsz_y : gp < w6.heap.size := lt_of_block R_gp.out
      obtain ⟨b_y, hB⟩ : ∃ bZ, w6.heap.size = bZ := ⟨_, rfl⟩
      have K_gp_y := lb hB R_gp
      have KB_y := bs hB HF
      clear hsz_y
      have OB_l_y : Hid (∀ b, (Value.slice av m cv).ownBlock = some b → b < b_y) := Lib.hid (fun bb hbb => by rw [← hB]; exact (O_l.out.block hbb).2)
      refine ((HH.out).good (Par.of HP0.out HF.out R_gp.out hq_qP1) hr_y).mono ?_
      rintro e w9 ⟨rfl, hf, hp⟩
      clear hB
      have HS := Lib.hid hf
      have RG := Lib.hid hp.blk
      have hq_q8 := hp.le
      clear hf hp
      replace O_l := oj O_l HS (by omega) (fun b hb => hb)
      replace HF := ft HF HS
      replace R_gp := RG
      clear HS RG
      have hmono := run_mono l one _ _ _ hr_y
      go_wp2_with (at_builtin; refine wpList_push keptX elemS rfl _ _ 22 rfl Tryd.underlying22 (fun b => w.heap.size ≤ b) w.heap.size (.slice av m cv) m (acc.map (fun s => [xb s])) rfl (O_l.out.no keptX (Fr.alloc _ _)) _ [.string x_y] 9 rfl (new_block _ _) (by simp [Value.oneCell']) rfl ((fun s => [xb s]) x_y) (hc_cons (hx_lit _) hc_end) (by unfold maxLen; omega) (by omega) (Nat.le_trans HF.out.size (Fr.alloc w9 (.cells #[.string x_y] 9)).size) ?_; intro a3 c3 wn HON HGN)
      have HFN : Hid (Fr (Just gp) w wn) := Lib.hid ((HF.out.trans ((Fr.alloc w9 (.cells #[.string x_y] 9)).just gp) (fun _ _ h => h)).trans HGN.out.fr (fun i hi hb => by have hb : w.heap.size ≤ i := hb; omega))
      have R_gpN : Hid (wn.heap[gp]? = some (.cells #[.slice a l.length c, .int .i64 (q8 : Nat)] 60 (0, 0))) := Lib.hid (HGN.out.fr.keeps ((Fr.alloc _ _).keeps R_gp.out no_one) (fun hb => by have hb : w.heap.size ≤ gp := hb; omega))
      exact ⟨⟨m + 1, q8, j, acc ++ [x_y], a3, c3, rfl, by omega, by omega, hq_q8, Lib.hid (by rw [List.map_append]; exact HON.out), R_gpN, HFN, HV⟩, by simp [lenOf]; omega⟩
    | false =>
     simp only [hb_sk, run_bind, run_skip, run_must, run_take, Pr.run, next, if_true, if_false, Bool.false_eq_true] at HV
     refine (sk_any (ts := [sb]) (n := 1) (Par.of HP0.out HF.out R_gp.out hq_q) R_sk.out rfl (by omega) hb_sk).mono ?_
     rintro e w10 ⟨rfl, hf, hp⟩
     replace hp : Par w10 gp a c l q := hp
     clear R_sk
     have HS := Lib.hid hf
     have RG := Lib.hid hp.blk
     have hq_q := hp.le
     clear hf hp
     replace O_l := oj O_l HS (by omega) (fun b hb => hb)
     replace HF := ft HF HS
     replace R_gp := RG
     clear HS RG
     go_wp2_with fail
     go_ret
     have hv := HV.out
     subst hv
     exact ⟨⟨_, rfl, hx_of_out O_l.out (by decide) (fun b hb _ => hb) (fun b _ hb => hb)⟩, HF.out, (Par.of HP0.out HF.out R_gp.out hq_q)⟩
end Go.Proofs.YtjabhmepafofmaaDoor
namespace Go.Proofs.YtjabhmepafofmaaDoor
open Go.RowKit

set_option maxHeartbeats 4000000 in
set_option maxRecDepth 100000 in
theorem some_exp {gp : Nat} {a : Option Addr} {c : Nat} {l : List Tok} {one : Pr E} {f1 : FuncId} (he : ∀ (args : Array Value) (u : World), Sem.run Tryd.prog (callFunc f1 args) u = .ok (.enter f1 args) u) (h1 : CT gp a c l f1 [] (stE xE) one) (sb : ByteArray) (n : Nat) :
  CT gp a c l 93 [.string sb, .func (.func f1) #[.pointer (some ⟨gp, 0, none⟩)] #[]] (rowE 7 xE) (some_ n sb one) := by
 intro w p hp0 ho
 have HO := Lib.hid ho
 have HP0 := Lib.hid hp0
 have HH := Lib.hid h1
 have hq_p := hp0.le
 have hlen := hp0.len
 have HF : Hid (Fr (Just gp) w w) := Lib.hid (Fr.refl _ _)
 have R_gp : Hid (w.heap[gp]? = some (.cells #[.slice a l.length c, .int .i64 (p : Nat)] 60 (0, 0))) := Lib.hid hp0.blk
 have hgw : gp < w.heap.size := lt_of_block hp0.blk
 obtain ⟨V, hV⟩ : ∃ V, Pr.run l (some_ n sb one) p = V := ⟨_, rfl⟩
 rw [hV] at HO ⊢
 clear ho hp0 h1
 simp only [some_, run_bind] at hV
 have HV := Lib.hid hV
 clear hV
 go_enter Tryd.func93, Tryd.ntmps93
 go_wp2_with fail
 cases hr_x : Pr.run l one p with
 | out =>
  simp only [hr_x, Re.andThen, run_bind, run_skip, run_must, run_take, Pr.run, next, if_true, if_false, Bool.false_eq_true] at HV
  exact absurd HV.out.symm HO.out
 | fail q =>
  simp only [hr_x, Re.andThen, run_bind, run_skip, run_must, run_take, Pr.run, next, if_true, if_false, Bool.false_eq_true] at HV
  refine ((HH.out).bad (Par.of HP0.out HF.out R_gp.out hq_p) hr_x).mono ?_
  rintro e w1 ⟨rfl, hf, hp⟩
  have hv := HV.out
  subst hv
  exact ⟨rfl, rfl, HF.out.trans hf (fun _ _ h => h), hp⟩
 | ok x_x q2 =>
  simp only [hr_x, Re.andThen, run_bind, run_skip, run_must, run_take, Pr.run, next, if_true, if_false, Bool.false_eq_true] at HV
  have hsz_x : gp < w.heap.size := lt_of_block R_gp.out
  obtain ⟨b_x, hB⟩ : ∃ bZ, w.heap.size = bZ := ⟨_, rfl⟩
  have K_gp_x := lb hB R_gp
  have KB_x := bs hB HF
  clear hsz_x
  refine ((HH.out).good (Par.of HP0.out HF.out R_gp.out hq_p) hr_x).mono ?_
  rintro e w3 ⟨⟨cs_x, rfl, hc⟩, hf, hp⟩
  rw [hB] at hc
  clear hB
  obtain ⟨h_x, hH⟩ : ∃ hZ, w3.heap.size = hZ := ⟨_, rfl⟩
  have I_x := im hH hc
  have Z_h_x : h_x ≤ w3.heap.size := Nat.le_of_eq hH.symm
  clear hc hH
  have HS := Lib.hid hf
  have RG := Lib.hid hp.blk
  have hq_q2 := hp.le
  clear hf hp
  replace HF := ft HF HS
  replace R_gp := RG
  clear HS RG
  obtain ⟨k_x, s_x, n_x, u_x, a1_x, m1_x, c1_x, a2_x, m2_x, c2_x, a3_x, m3_x, c3_x, ecs⟩ := hcE I_x.out
  subst ecs
  go_upto_region 2 with fail
  generalize hn : w3.alloc _ = w4
  generalize hg : w3.heap.size = g_arr
  have HS := fa hn
  have R_arr := nb hn hg
  have L_gp_arr := lb hg R_gp
  have B_arr := bs hg HF
  have M_h_x_arr := mz hg Z_h_x
  clear hn hg
  replace R_gp := kn HS R_gp
  replace I_x := ik I_x HS
  replace HF := fn HF HS
  replace Z_h_x := zt Z_h_x HS
  clear HS
  have O_l : Hid (OutG RX 32 7 (fun b => w.heap.size ≤ b) w.heap.size w4 (.slice (some ⟨g_arr, 0, none⟩) 1 1) 1 ([x_x].map xE)) := Lib.hid (out_lits (cs := [[.int .u8 k_x, .string s_x, .int .i64 n_x, .string u_x, .slice a1_x m1_x c1_x, .slice a2_x m2_x c2_x, .slice a3_x m3_x c3_x]]) R_arr.out B_arr rfl rfl (fun c hc => by rw [List.mem_singleton.1 hc]; rfl) (by omega) (fun j t c hj hc => by
   have hj0 : j < 1 := (List.getElem?_eq_some_iff.1 hj).1
   obtain rfl : j = 0 := by omega
   cases hj
   cases hc
   exact I_x.out.mono (fun b _ hb => ⟨by have := hb.1; omega, fun (h : b = g_arr) => by have := hb.2; omega⟩)))
  go_wp2_with fail
  go_loopw [7] (fun v wx => ∃ (m q j : Nat) (acc : List E) (av : Option Addr) (cv : Nat), v = .slice av m cv ∧ m + j = n + 1 ∧ m ≤ q + 1 ∧ q ≤ l.length ∧ Hid (OutG RX 32 7 (fun b => w.heap.size ≤ b) w.heap.size wx (.slice av m cv) m (acc.map xE)) ∧ Hid (wx.heap[gp]? = some (.cells #[.slice a l.length c, .int .i64 (q : Nat)] 60 (0, 0))) ∧ Hid (Fr (Just gp) w wx) ∧ Hid (Pr.run l (more sb one j acc) q = V)) (fun v _ => n + 1 - lenOf v)
  case atStart => exact ⟨1, q2, n, [x_x], _, _, rfl, by omega, by omega, hq_q2, O_l, R_gp, HF, HV⟩
  case round =>
   clear O_l R_gp HF HV R_arr I_x
   obtain ⟨m, q, j, acc, av, cv, rfl, hmj, hmq, hq_q, O_l, R_gp, HF, HV⟩ := hrel
   obtain ⟨wL, hwL⟩ : ∃ wL, wL = wr := ⟨wr, rfl⟩
   rw [← hwL] at O_l R_gp HF ⊢
   clear hwL wr
   cases j with
   | zero =>
    exact absurd HV.out.symm HO.out
   | succ j =>
    simp only [more, run_bind, run_skip, Re.andThen] at HV
    go_wp2_with fail
    obtain ⟨w5, hn⟩ : ∃ wZ, wL.alloc (.cells #[.string sb] 9) = wZ := ⟨_, rfl⟩
    obtain ⟨g_sk, hg⟩ : ∃ gZ, wL.heap.size = gZ := ⟨_, rfl⟩
    rw [hn, hg]
    have HS : Hid (Fr No wL w5) := Lib.hid (by rw [← hn]; exact Fr.alloc _ _)
    have R_sk := nb hn hg
    have L_gp_sk := lb hg R_gp
    have B_sk := bs hg HF
    clear hn hg
    replace R_gp := kn HS R_gp
    replace O_l := on HS O_l
    replace HF := fn HF HS
    clear HS
    replace R_sk : Hid (w5.heap[g_sk]? = some (.cells ([sb].map Value.string).toArray 9 (0, 0))) := R_sk
    have hgw2 : w.heap.size ≤ w5.heap.size := HF.out.size
    cases hb_sk : seesB (l.getD q zTok) [sb] with
    | true =>
     simp only [hb_sk, run_bind, run_skip, run_must, run_take, Pr.run, next, if_true, if_false, Bool.false_eq_true] at HV
     refine (sk_any (ts := [sb]) (n := 1) (Par.of HP0.out HF.out R_gp.out hq_q) R_sk.out rfl (by omega) hb_sk).mono ?_
     rintro e w6 ⟨rfl, hf, hp⟩
     replace hp : Par w6 gp a c l (q + 1) := hp
     clear R_sk
     have HS := Lib.hid hf
     have RG := Lib.hid hp.blk
     have hq_qP1 := hp.le
     clear hf hp
     replace O_l := oj O_l HS (by omega) (fun b hb => hb)
     replace HF := ft HF HS
     replace R_gp := RG
     clear HS RG
     go_wp2_with fail
     cases hr_y : Pr.run l one (q + 1) with
     | out =>
      simp only [hr_y, Re.andThen, run_bind, run_skip, run_must, run_take, Pr.run, next, if_true, if_false, Bool.false_eq_true] at HV
      exact absurd HV.out.symm HO.out
     | fail q =>
      simp only [hr_y, Re.andThen, run_bind, run_skip, run_must, run_take, Pr.run, next, if_true, if_false, Bool.false_eq_true] at HV
      refine ((HH.out).bad (Par.of HP0.out HF.out R_gp.out hq_qP1) hr_y).mono ?_
      rintro e w7 ⟨rfl, hf, hp⟩
      have hv := HV.out
      subst hv
      exact ⟨rfl, rfl, HF.out.trans hf (fun _ _ h => h), hp⟩
     | ok x_y q8 =>
      simp only [hr_y, Re.andThen, run_bind, run_skip, run_must, run_take, Pr.run, next, if_true, if_false, Bool.false_eq_true] at HV
      have hsz_y : gp < w6.heap.size := lt_of_block R_gp.out
      obtain ⟨b_y, hB⟩ : ∃ bZ, w6.heap.size = bZ := ⟨_, rfl⟩
      have K_gp_y := lb hB R_gp
      have KB_y := bs hB HF
      clear hsz_y
      have OB_l_y : Hid (∀ b, (Value.slice av m cv).ownBlock = some b → b < b_y) := Lib.hid (fun bb hbb => by rw [← hB]; exact (O_l.out.block hbb).2)
      refine ((HH.out).good (Par.of HP0.out HF.out R_gp.out hq_qP1) hr_y).mono ?_
      rintro e w9 ⟨⟨cs_y, rfl, hc⟩, hf, hp⟩
      rw [hB] at hc
      clear hB
      obtain ⟨h_y, hH⟩ : ∃ hZ, w9.heap.size = hZ := ⟨_, rfl⟩
      have I_y := im hH hc
      have Z_h_y : h_y ≤ w9.heap.size := Nat.le_of_eq hH.symm
      clear hc hH
      have HS := Lib.hid hf
      have RG := Lib.hid hp.blk
      have hq_q8 := hp.le
      clear hf hp
      replace O_l := oj O_l HS (by omega) (fun b hb => hb)
      replace HF := ft HF HS
      replace R_gp := RG
      clear HS RG
      obtain ⟨k_y, s_y, n_y, u_y, a1_y, m1_y, c1_y, a2_y, m2_y, c2_y, a3_y, m3_y, c3_y, ecs⟩ := hcE I_y.out
      subst ecs
      have hmono := run_mono l one _ _ _ hr_y
      go_wp2_with (at_builtin; refine wpList_push keptX elemE rfl _ _ 29 rfl Tryd.underlying29 (fun b => w.heap.size ≤ b) w.heap.size (.slice av m cv) m (acc.map xE) rfl (O_l.out.no keptX (Fr.alloc _ _)) _ [.int .u8 k_y, .string s_y, .int .i64 n_y, .string u_y, .slice a1_y m1_y c1_y, .slice a2_y m2_y c2_y, .slice a3_y m3_y c3_y] 32 rfl (new_block _ _) (by simp [Value.oneCell']) rfl (xE x_y) (Hc.no (I_y.out.mono (ok' := fun b => w.heap.size ≤ b ∧ Av (.slice av m cv) b) (fun b _ hb => ⟨by have := hb.1; omega, fun eb => by have := OB_l_y.out b eb; have := hb.1; omega⟩)) (Fr.alloc _ _)) (by unfold maxLen; omega) (by omega) (Nat.le_trans HF.out.size (Fr.alloc w9 (.cells #[.int .u8 k_y, .string s_y, .int .i64 n_y, .string u_y, .slice a1_y m1_y c1_y, .slice a2_y m2_y c2_y, .slice a3_y m3_y c3_y] 32)).size) ?_; intro a3 c3 wn HON HGN)
      have HFN : Hid (Fr (Just gp) w wn) := Lib.hid ((HF.out.trans ((Fr.alloc w9 (.cells #[.int .u8 k_y, .string s_y, .int .i64 n_y, .string u_y, .slice a1_y m1_y c1_y, .slice a2_y m2_y c2_y, .slice a3_y m3_y c3_y] 32)).just gp) (fun _ _ h => h)).trans HGN.out.fr (fun i hi hb => by have hb : w.heap.size ≤ i := hb; omega))
      have R_gpN : Hid (wn.heap[gp]? = some (.cells #[.slice a l.length c, .int .i64 (q8 : Nat)] 60 (0, 0))) := Lib.hid (HGN.out.fr.keeps ((Fr.alloc _ _).keeps R_gp.out no_one) (fun hb => by have hb : w.heap.size ≤ gp := hb; omega))
      exact ⟨⟨m + 1, q8, j, acc ++ [x_y], a3, c3, rfl, by omega, by omega, hq_q8, Lib.hid (by rw [List.map_append]; exact HON.out), R_gpN, HFN, HV⟩, by simp [lenOf]; omega⟩
    | false =>
     simp only [hb_sk, run_bind, run_skip, run_must, run_take, Pr.run, next, if_true, if_false, Bool.false_eq_true] at HV
     refine (sk_any (ts := [sb]) (n := 1) (Par.of HP0.out HF.out R_gp.out hq_q) R_sk.out rfl (by omega) hb_sk).mono ?_
     rintro e w10 ⟨rfl, hf, hp⟩
     replace hp : Par w10 gp a c l q := hp
     clear R_sk
     have HS := Lib.hid hf
     have RG := Lib.hid hp.blk
     have hq_q := hp.le
     clear hf hp
     replace O_l := oj O_l HS (by omega) (fun b hb => hb)
     replace HF := ft HF HS
     replace R_gp := RG
     clear HS RG
     go_wp2_with fail
     go_ret
     have hv := HV.out
     subst hv
     exact ⟨⟨_, rfl, hx_of_out O_l.out (by decide) (fun b hb _ => hb) (fun b _ hb => hb)⟩, HF.out, (Par.of HP0.out HF.out R_gp.out hq_q)⟩
set_option maxHeartbeats 4000000 in
set_option maxRecDepth 100000 in
theorem some_rule {gp : Nat} {a : Option Addr} {c : Nat} {l : List Tok} {one : Pr R} {f1 : FuncId} (he : ∀ (args : Array Value) (u : World), Sem.run Tryd.prog (callFunc f1 args) u = .ok (.enter f1 args) u) (h1 : CT gp a c l f1 [] (stE xR) one) (sb : ByteArray) (n : Nat) :
  CT gp a c l 51 [.string sb, .func (.func f1) #[.pointer (some ⟨gp, 0, none⟩)] #[]] (rowE 11 xR) (some_ n sb one) := by
 intro w p hp0 ho
 have HO := Lib.hid ho
 have HP0 := Lib.hid hp0
 have HH := Lib.hid h1
 have hq_p := hp0.le
 have hlen := hp0.len
 have HF : Hid (Fr (Just gp) w w) := Lib.hid (Fr.refl _ _)
 have R_gp : Hid (w.heap[gp]? = some (.cells #[.slice a l.length c, .int .i64 (p : Nat)] 60 (0, 0))) := Lib.hid hp0.blk
 have hgw : gp < w.heap.size := lt_of_block hp0.blk
 obtain ⟨V, hV⟩ : ∃ V, Pr.run l (some_ n sb one) p = V := ⟨_, rfl⟩
 rw [hV] at HO ⊢
 clear ho hp0 h1
 simp only [some_, run_bind] at hV
 have HV := Lib.hid hV
 clear hV
 go_enter Tryd.func51, Tryd.ntmps51
 go_wp2_with fail
 cases hr_x : Pr.run l one p with
 | out =>
  simp only [hr_x, Re.andThen, run_bind, run_skip, run_must, run_take, Pr.run, next, if_true, if_false, Bool.false_eq_true] at HV
  exact absurd HV.out.symm HO.out
 | fail q =>
  simp only [hr_x, Re.andThen, run_bind, run_skip, run_must, run_take, Pr.run, next, if_true, if_false, Bool.false_eq_true] at HV
  refine ((HH.out).bad (Par.of HP0.out HF.out R_gp.out hq_p) hr_x).mono ?_
  rintro e w1 ⟨rfl, hf, hp⟩
  have hv := HV.out
  subst hv
  exact ⟨rfl, rfl, HF.out.trans hf (fun _ _ h => h), hp⟩
 | ok x_x q2 =>
  simp only [hr_x, Re.andThen, run_bind, run_skip, run_must, run_take, Pr.run, next, if_true, if_false, Bool.false_eq_true] at HV
  have hsz_x : gp < w.heap.size := lt_of_block R_gp.out
  obtain ⟨b_x, hB⟩ : ∃ bZ, w.heap.size = bZ := ⟨_, rfl⟩
  have K_gp_x := lb hB R_gp
  have KB_x := bs hB HF
  clear hsz_x
  refine ((HH.out).good (Par.of HP0.out HF.out R_gp.out hq_p) hr_x).mono ?_
  rintro e w3 ⟨⟨cs_x, rfl, hc⟩, hf, hp⟩
  rw [hB] at hc
  clear hB
  obtain ⟨h_x, hH⟩ : ∃ hZ, w3.heap.size = hZ := ⟨_, rfl⟩
  have I_x := im hH hc
  have Z_h_x : h_x ≤ w3.heap.size := Nat.le_of_eq hH.symm
  clear hc hH
  have HS := Lib.hid hf
  have RG := Lib.hid hp.blk
  have hq_q2 := hp.le
  clear hf hp
  replace HF := ft HF HS
  replace R_gp := RG
  clear HS RG
  obtain ⟨k_x, s_x, n_x, a_x, m_x, c_x, ek_x, es_x, en_x, eu_x, ea1_x, em1_x, ec1_x, ea2_x, em2_x, ec2_x, ea3_x, em3_x, ec3_x, ecs⟩ := hcR I_x.out
  subst ecs
  go_upto_region 2 with fail
  generalize hn : w3.alloc _ = w4
  generalize hg : w3.heap.size = g_arr
  have HS := fa hn
  have R_arr := nb hn hg
  have L_gp_arr := lb hg R_gp
  have B_arr := bs hg HF
  have M_h_x_arr := mz hg Z_h_x
  clear hn hg
  replace R_gp := kn HS R_gp
  replace I_x := ik I_x HS
  replace HF := fn HF HS
  replace Z_h_x := zt Z_h_x HS
  clear HS
  have O_l : Hid (OutG RX 76 11 (fun b => w.heap.size ≤ b) w.heap.size w4 (.slice (some ⟨g_arr, 0, none⟩) 1 1) 1 ([x_x].map xR)) := Lib.hid (out_lits (cs := [[.int .u8 k_x, .string s_x, .int .i64 n_x, .slice a_x m_x c_x, .int .u8 ek_x, .string es_x, .int .i64 en_x, .string eu_x, .slice ea1_x em1_x ec1_x, .slice ea2_x em2_x ec2_x, .slice ea3_x em3_x ec3_x]]) R_arr.out B_arr rfl rfl (fun c hc => by rw [List.mem_singleton.1 hc]; rfl) (by omega) (fun j t c hj hc => by
   have hj0 : j < 1 := (List.getElem?_eq_some_iff.1 hj).1
   obtain rfl : j = 0 := by omega
   cases hj
   cases hc
   exact I_x.out.mono (fun b _ hb => ⟨by have := hb.1; omega, fun (h : b = g_arr) => by have := hb.2; omega⟩)))
  go_wp2_with fail
  go_loopw [7] (fun v wx => ∃ (m q j : Nat) (acc : List R) (av : Option Addr) (cv : Nat), v = .slice av m cv ∧ m + j = n + 1 ∧ m ≤ q + 1 ∧ q ≤ l.length ∧ Hid (OutG RX 76 11 (fun b => w.heap.size ≤ b) w.heap.size wx (.slice av m cv) m (acc.map xR)) ∧ Hid (wx.heap[gp]? = some (.cells #[.slice a l.length c, .int .i64 (q : Nat)] 60 (0, 0))) ∧ Hid (Fr (Just gp) w wx) ∧ Hid (Pr.run l (more sb one j acc) q = V)) (fun v _ => n + 1 - lenOf v)
  case atStart => exact ⟨1, q2, n, [x_x], _, _, rfl, by omega, by omega, hq_q2, O_l, R_gp, HF, HV⟩
  case round =>
   clear O_l R_gp HF HV R_arr I_x
   obtain ⟨m, q, j, acc, av, cv, rfl, hmj, hmq, hq_q, O_l, R_gp, HF, HV⟩ := hrel
   obtain ⟨wL, hwL⟩ : ∃ wL, wL = wr := ⟨wr, rfl⟩
   rw [← hwL] at O_l R_gp HF ⊢
   clear hwL wr
   cases j with
   | zero =>
    exact absurd HV.out.symm HO.out
   | succ j =>
    simp only [more, run_bind, run_skip, Re.andThen] at HV
    go_wp2_with fail
    obtain ⟨w5, hn⟩ : ∃ wZ, wL.alloc (.cells #[.string sb] 9) = wZ := ⟨_, rfl⟩
    obtain ⟨g_sk, hg⟩ : ∃ gZ, wL.heap.size = gZ := ⟨_, rfl⟩
    rw [hn, hg]
    have HS : Hid (Fr No wL w5) := Lib.hid (by rw [← hn]; exact Fr.alloc _ _)
    have R_sk := nb hn hg
    have L_gp_sk := lb hg R_gp
    have B_sk := bs hg HF
    clear hn hg
    replace R_gp := kn HS R_gp
    replace O_l := on HS O_l
    replace HF := fn HF HS
    clear HS
    replace R_sk : Hid (w5.heap[g_sk]? = some (.cells ([sb].map Value.string).toArray 9 (0, 0))) := R_sk
    have hgw2 : w.heap.size ≤ w5.heap.size := HF.out.size
    cases hb_sk : seesB (l.getD q zTok) [sb] with
    | true =>
     simp only [hb_sk, run_bind, run_skip, run_must, run_take, Pr.run, next, if_true, if_false, Bool.false_eq_true] at HV
     refine (sk_any (ts := [sb]) (n := 1) (Par.of HP0.out HF.out R_gp.out hq_q) R_sk.out rfl (by omega) hb_sk).mono ?_
     rintro e w6 ⟨rfl, hf, hp⟩
     replace hp : Par w6 gp a c l (q + 1) := hp
     clear R_sk
     have HS := Lib.hid hf
     have RG := Lib.hid hp.blk
     have hq_qP1 := hp.le
     clear hf hp
     replace O_l := oj O_l HS (by omega) (fun b hb => hb)
     replace HF := ft HF HS
     replace R_gp := RG
     clear HS RG
     go_wp2_with fail
     cases hr_y : Pr.run l one (q + 1) with
     | out =>
      simp only [hr_y, Re.andThen, run_bind, run_skip, run_must, run_take, Pr.run, next, if_true, if_false, Bool.false_eq_true] at HV
      exact absurd HV.out.symm HO.out
     | fail q =>
      simp only [hr_y, Re.andThen, run_bind, run_skip, run_must, run_take, Pr.run, next, if_true, if_false, Bool.false_eq_true] at HV
      refine ((HH.out).bad (Par.of HP0.out HF.out R_gp.out hq_qP1) hr_y).mono ?_
      rintro e w7 ⟨rfl, hf, hp⟩
      have hv := HV.out
      subst hv
      exact ⟨rfl, rfl, HF.out.trans hf (fun _ _ h => h), hp⟩
     | ok x_y q8 =>
      simp only [hr_y, Re.andThen, run_bind, run_skip, run_must, run_take, Pr.run, next, if_true, if_false, Bool.false_eq_true] at HV
      have hsz_y : gp < w6.heap.size := lt_of_block R_gp.out
      obtain ⟨b_y, hB⟩ : ∃ bZ, w6.heap.size = bZ := ⟨_, rfl⟩
      have K_gp_y := lb hB R_gp
      have KB_y := bs hB HF
      clear hsz_y
      have OB_l_y : Hid (∀ b, (Value.slice av m cv).ownBlock = some b → b < b_y) := Lib.hid (fun bb hbb => by rw [← hB]; exact (O_l.out.block hbb).2)
      refine ((HH.out).good (Par.of HP0.out HF.out R_gp.out hq_qP1) hr_y).mono ?_
      rintro e w9 ⟨⟨cs_y, rfl, hc⟩, hf, hp⟩
      rw [hB] at hc
      clear hB
      obtain ⟨h_y, hH⟩ : ∃ hZ, w9.heap.size = hZ := ⟨_, rfl⟩
      have I_y := im hH hc
      have Z_h_y : h_y ≤ w9.heap.size := Nat.le_of_eq hH.symm
      clear hc hH
      have HS := Lib.hid hf
      have RG := Lib.hid hp.blk
      have hq_q8 := hp.le
      clear hf hp
      replace O_l := oj O_l HS (by omega) (fun b hb => hb)
      replace HF := ft HF HS
      replace R_gp := RG
      clear HS RG
      obtain ⟨k_y, s_y, n_y, a_y, m_y, c_y, ek_y, es_y, en_y, eu_y, ea1_y, em1_y, ec1_y, ea2_y, em2_y, ec2_y, ea3_y, em3_y, ec3_y, ecs⟩ := hcR I_y.out
      subst ecs
      have hmono := run_mono l one _ _ _ hr_y
      go_wp2_with (at_builtin; refine wpList_push keptX elemR rfl _ _ 30 rfl Tryd.underlying30 (fun b => w.heap.size ≤ b) w.heap.size (.slice av m cv) m (acc.map xR) rfl (O_l.out.no keptX (Fr.alloc _ _)) _ [.int .u8 k_y, .string s_y, .int .i64 n_y, .slice a_y m_y c_y, .int .u8 ek_y, .string es_y, .int .i64 en_y, .string eu_y, .slice ea1_y em1_y ec1_y, .slice ea2_y em2_y ec2_y, .slice ea3_y em3_y ec3_y] 76 rfl (new_block _ _) (by simp [Value.oneCell']) rfl (xR x_y) (Hc.no (I_y.out.mono (ok' := fun b => w.heap.size ≤ b ∧ Av (.slice av m cv) b) (fun b _ hb => ⟨by have := hb.1; omega, fun eb => by have := OB_l_y.out b eb; have := hb.1; omega⟩)) (Fr.alloc _ _)) (by unfold maxLen; omega) (by omega) (Nat.le_trans HF.out.size (Fr.alloc w9 (.cells #[.int .u8 k_y, .string s_y, .int .i64 n_y, .slice a_y m_y c_y, .int .u8 ek_y, .string es_y, .int .i64 en_y, .string eu_y, .slice ea1_y em1_y ec1_y, .slice ea2_y em2_y ec2_y, .slice ea3_y em3_y ec3_y] 76)).size) ?_; intro a3 c3 wn HON HGN)
      have HFN : Hid (Fr (Just gp) w wn) := Lib.hid ((HF.out.trans ((Fr.alloc w9 (.cells #[.int .u8 k_y, .string s_y, .int .i64 n_y, .slice a_y m_y c_y, .int .u8 ek_y, .string es_y, .int .i64 en_y, .string eu_y, .slice ea1_y em1_y ec1_y, .slice ea2_y em2_y ec2_y, .slice ea3_y em3_y ec3_y] 76)).just gp) (fun _ _ h => h)).trans HGN.out.fr (fun i hi hb => by have hb : w.heap.size ≤ i := hb; omega))
      have R_gpN : Hid (wn.heap[gp]? = some (.cells #[.slice a l.length c, .int .i64 (q8 : Nat)] 60 (0, 0))) := Lib.hid (HGN.out.fr.keeps ((Fr.alloc _ _).keeps R_gp.out no_one) (fun hb => by have hb : w.heap.size ≤ gp := hb; omega))
      exact ⟨⟨m + 1, q8, j, acc ++ [x_y], a3, c3, rfl, by omega, by omega, hq_q8, Lib.hid (by rw [List.map_append]; exact HON.out), R_gpN, HFN, HV⟩, by simp [lenOf]; omega⟩
    | false =>
     simp only [hb_sk, run_bind, run_skip, run_must, run_take, Pr.run, next, if_true, if_false, Bool.false_eq_true] at HV
     refine (sk_any (ts := [sb]) (n := 1) (Par.of HP0.out HF.out R_gp.out hq_q) R_sk.out rfl (by omega) hb_sk).mono ?_
     rintro e w10 ⟨rfl, hf, hp⟩
     replace hp : Par w10 gp a c l q := hp
     clear R_sk
     have HS := Lib.hid hf
     have RG := Lib.hid hp.blk
     have hq_q := hp.le
     clear hf hp
     replace O_l := oj O_l HS (by omega) (fun b hb => hb)
     replace HF := ft HF HS
     replace R_gp := RG
     clear HS RG
     go_wp2_with fail
     go_ret
     have hv := HV.out
     subst hv
     exact ⟨⟨_, rfl, hx_of_out O_l.out (by decide) (fun b hb _ => hb) (fun b _ hb => hb)⟩, HF.out, (Par.of HP0.out HF.out R_gp.out hq_q)⟩
set_option maxHeartbeats 4000000 in
set_option maxRecDepth 100000 in
theorem some_fun {gp : Nat} {a : Option Addr} {c : Nat} {l : List Tok} {one : Pr F} {f1 : FuncId} (he : ∀ (args : Array Value) (u : World), Sem.run Tryd.prog (callFunc f1 args) u = .ok (.enter f1 args) u) (h1 : CT gp a c l f1 [] (stE xF) one) (sb : ByteArray) (n : Nat) :
  CT gp a c l 32 [.string sb, .func (.func f1) #[.pointer (some ⟨gp, 0, none⟩)] #[]] (rowE 9 xF) (some_ n sb one) := by
 intro w p hp0 ho
 have HO := Lib.hid ho
 have HP0 := Lib.hid hp0
 have HH := Lib.hid h1
 have hq_p := hp0.le
 have hlen := hp0.len
 have HF : Hid (Fr (Just gp) w w) := Lib.hid (Fr.refl _ _)
 have R_gp : Hid (w.heap[gp]? = some (.cells #[.slice a l.length c, .int .i64 (p : Nat)] 60 (0, 0))) := Lib.hid hp0.blk
 have hgw : gp < w.heap.size := lt_of_block hp0.blk
 obtain ⟨V, hV⟩ : ∃ V, Pr.run l (some_ n sb one) p = V := ⟨_, rfl⟩
 rw [hV] at HO ⊢
 clear ho hp0 h1
 simp only [some_, run_bind] at hV
 have HV := Lib.hid hV
 clear hV
 go_enter Tryd.func32, Tryd.ntmps32
 go_wp2_with fail
 cases hr_x : Pr.run l one p with
 | out =>
  simp only [hr_x, Re.andThen, run_bind, run_skip, run_must, run_take, Pr.run, next, if_true, if_false, Bool.false_eq_true] at HV
  exact absurd HV.out.symm HO.out
 | fail q =>
  simp only [hr_x, Re.andThen, run_bind, run_skip, run_must, run_take, Pr.run, next, if_true, if_false, Bool.false_eq_true] at HV
  refine ((HH.out).bad (Par.of HP0.out HF.out R_gp.out hq_p) hr_x).mono ?_
  rintro e w1 ⟨rfl, hf, hp⟩
  have hv := HV.out
  subst hv
  exact ⟨rfl, rfl, HF.out.trans hf (fun _ _ h => h), hp⟩
 | ok x_x q2 =>
  simp only [hr_x, Re.andThen, run_bind, run_skip, run_must, run_take, Pr.run, next, if_true, if_false, Bool.false_eq_true] at HV
  have hsz_x : gp < w.heap.size := lt_of_block R_gp.out
  obtain ⟨b_x, hB⟩ : ∃ bZ, w.heap.size = bZ := ⟨_, rfl⟩
  have K_gp_x := lb hB R_gp
  have KB_x := bs hB HF
  clear hsz_x
  refine ((HH.out).good (Par.of HP0.out HF.out R_gp.out hq_p) hr_x).mono ?_
  rintro e w3 ⟨⟨cs_x, rfl, hc⟩, hf, hp⟩
  rw [hB] at hc
  clear hB
  obtain ⟨h_x, hH⟩ : ∃ hZ, w3.heap.size = hZ := ⟨_, rfl⟩
  have I_x := im hH hc
  have Z_h_x : h_x ≤ w3.heap.size := Nat.le_of_eq hH.symm
  clear hc hH
  have HS := Lib.hid hf
  have RG := Lib.hid hp.blk
  have hq_q2 := hp.le
  clear hf hp
  replace HF := ft HF HS
  replace R_gp := RG
  clear HS RG
  obtain ⟨z_x, fa_x, fm_x, fc_x, ek_x, es_x, en_x, eu_x, ea1_x, em1_x, ec1_x, ea2_x, em2_x, ec2_x, ea3_x, em3_x, ec3_x, ecs⟩ := hcF I_x.out
  subst ecs
  go_upto_region 2 with fail
  generalize hn : w3.alloc _ = w4
  generalize hg : w3.heap.size = g_arr
  have HS := fa hn
  have R_arr := nb hn hg
  have L_gp_arr := lb hg R_gp
  have B_arr := bs hg HF
  have M_h_x_arr := mz hg Z_h_x
  clear hn hg
  replace R_gp := kn HS R_gp
  replace I_x := ik I_x HS
  replace HF := fn HF HS
  replace Z_h_x := zt Z_h_x HS
  clear HS
  have O_l : Hid (OutG RX 82 9 (fun b => w.heap.size ≤ b) w.heap.size w4 (.slice (some ⟨g_arr, 0, none⟩) 1 1) 1 ([x_x].map xF)) := Lib.hid (out_lits (cs := [[.string z_x, .slice fa_x fm_x fc_x, .int .u8 ek_x, .string es_x, .int .i64 en_x, .string eu_x, .slice ea1_x em1_x ec1_x, .slice ea2_x em2_x ec2_x, .slice ea3_x em3_x ec3_x]]) R_arr.out B_arr rfl rfl (fun c hc => by rw [List.mem_singleton.1 hc]; rfl) (by omega) (fun j t c hj hc => by
   have hj0 : j < 1 := (List.getElem?_eq_some_iff.1 hj).1
   obtain rfl : j = 0 := by omega
   cases hj
   cases hc
   exact I_x.out.mono (fun b _ hb => ⟨by have := hb.1; omega, fun (h : b = g_arr) => by have := hb.2; omega⟩)))
  go_wp2_with fail
  go_loopw [7] (fun v wx => ∃ (m q j : Nat) (acc : List F) (av : Option Addr) (cv : Nat), v = .slice av m cv ∧ m + j = n + 1 ∧ m ≤ q + 1 ∧ q ≤ l.length ∧ Hid (OutG RX 82 9 (fun b => w.heap.size ≤ b) w.heap.size wx (.slice av m cv) m (acc.map xF)) ∧ Hid (wx.heap[gp]? = some (.cells #[.slice a l.length c, .int .i64 (q : Nat)] 60 (0, 0))) ∧ Hid (Fr (Just gp) w wx) ∧ Hid (Pr.run l (more sb one j acc) q = V)) (fun v _ => n + 1 - lenOf v)
  case atStart => exact ⟨1, q2, n, [x_x], _, _, rfl, by omega, by omega, hq_q2, O_l, R_gp, HF, HV⟩
  case round =>
   clear O_l R_gp HF HV R_arr I_x
   obtain ⟨m, q, j, acc, av, cv, rfl, hmj, hmq, hq_q, O_l, R_gp, HF, HV⟩ := hrel
   obtain ⟨wL, hwL⟩ : ∃ wL, wL = wr := ⟨wr, rfl⟩
   rw [← hwL] at O_l R_gp HF ⊢
   clear hwL wr
   cases j with
   | zero =>
    exact absurd HV.out.symm HO.out
   | succ j =>
    simp only [more, run_bind, run_skip, Re.andThen] at HV
    go_wp2_with fail
    obtain ⟨w5, hn⟩ : ∃ wZ, wL.alloc (.cells #[.string sb] 9) = wZ := ⟨_, rfl⟩
    obtain ⟨g_sk, hg⟩ : ∃ gZ, wL.heap.size = gZ := ⟨_, rfl⟩
    rw [hn, hg]
    have HS : Hid (Fr No wL w5) := Lib.hid (by rw [← hn]; exact Fr.alloc _ _)
    have R_sk := nb hn hg
    have L_gp_sk := lb hg R_gp
    have B_sk := bs hg HF
    clear hn hg
    replace R_gp := kn HS R_gp
    replace O_l := on HS O_l
    replace HF := fn HF HS
    clear HS
    replace R_sk : Hid (w5.heap[g_sk]? = some (.cells ([sb].map Value.string).toArray 9 (0, 0))) := R_sk
    have hgw2 : w.heap.size ≤ w5.heap.size := HF.out.size
    cases hb_sk : seesB (l.getD q zTok) [sb] with
    | true =>
     simp only [hb_sk, run_bind, run_skip, run_must, run_take, Pr.run, next, if_true, if_false, Bool.false_eq_true] at HV
     refine (sk_any (ts := [sb]) (n := 1) (Par.of HP0.out HF.out R_gp.out hq_q) R_sk.out rfl (by omega) hb_sk).mono ?_
     rintro e w6 ⟨rfl, hf, hp⟩
     replace hp : Par w6 gp a c l (q + 1) := hp
     clear R_sk
     have HS := Lib.hid hf
     have RG := Lib.hid hp.blk
     have hq_qP1 := hp.le
     clear hf hp
     replace O_l := oj O_l HS (by omega) (fun b hb => hb)
     replace HF := ft HF HS
     replace R_gp := RG
     clear HS RG
     go_wp2_with fail
     cases hr_y : Pr.run l one (q + 1) with
     | out =>
      simp only [hr_y, Re.andThen, run_bind, run_skip, run_must, run_take, Pr.run, next, if_true, if_false, Bool.false_eq_true] at HV
      exact absurd HV.out.symm HO.out
     | fail q =>
      simp only [hr_y, Re.andThen, run_bind, run_skip, run_must, run_take, Pr.run, next, if_true, if_false, Bool.false_eq_true] at HV
      refine ((HH.out).bad (Par.of HP0.out HF.out R_gp.out hq_qP1) hr_y).mono ?_
      rintro e w7 ⟨rfl, hf, hp⟩
      have hv := HV.out
      subst hv
      exact ⟨rfl, rfl, HF.out.trans hf (fun _ _ h => h), hp⟩
     | ok x_y q8 =>
      simp only [hr_y, Re.andThen, run_bind, run_skip, run_must, run_take, Pr.run, next, if_true, if_false, Bool.false_eq_true] at HV
      have hsz_y : gp < w6.heap.size := lt_of_block R_gp.out
      obtain ⟨b_y, hB⟩ : ∃ bZ, w6.heap.size = bZ := ⟨_, rfl⟩
      have K_gp_y := lb hB R_gp
      have KB_y := bs hB HF
      clear hsz_y
      have OB_l_y : Hid (∀ b, (Value.slice av m cv).ownBlock = some b → b < b_y) := Lib.hid (fun bb hbb => by rw [← hB]; exact (O_l.out.block hbb).2)
      refine ((HH.out).good (Par.of HP0.out HF.out R_gp.out hq_qP1) hr_y).mono ?_
      rintro e w9 ⟨⟨cs_y, rfl, hc⟩, hf, hp⟩
      rw [hB] at hc
      clear hB
      obtain ⟨h_y, hH⟩ : ∃ hZ, w9.heap.size = hZ := ⟨_, rfl⟩
      have I_y := im hH hc
      have Z_h_y : h_y ≤ w9.heap.size := Nat.le_of_eq hH.symm
      clear hc hH
      have HS := Lib.hid hf
      have RG := Lib.hid hp.blk
      have hq_q8 := hp.le
      clear hf hp
      replace O_l := oj O_l HS (by omega) (fun b hb => hb)
      replace HF := ft HF HS
      replace R_gp := RG
      clear HS RG
      obtain ⟨z_y, fa_y, fm_y, fc_y, ek_y, es_y, en_y, eu_y, ea1_y, em1_y, ec1_y, ea2_y, em2_y, ec2_y, ea3_y, em3_y, ec3_y, ecs⟩ := hcF I_y.out
      subst ecs
      have hmono := run_mono l one _ _ _ hr_y
      go_wp2_with (at_builtin; refine wpList_push keptX elemF rfl _ _ 34 rfl Tryd.underlying34 (fun b => w.heap.size ≤ b) w.heap.size (.slice av m cv) m (acc.map xF) rfl (O_l.out.no keptX (Fr.alloc _ _)) _ [.string z_y, .slice fa_y fm_y fc_y, .int .u8 ek_y, .string es_y, .int .i64 en_y, .string eu_y, .slice ea1_y em1_y ec1_y, .slice ea2_y em2_y ec2_y, .slice ea3_y em3_y ec3_y] 82 rfl (new_block _ _) (by simp [Value.oneCell']) rfl (xF x_y) (Hc.no (I_y.out.mono (ok' := fun b => w.heap.size ≤ b ∧ Av (.slice av m cv) b) (fun b _ hb => ⟨by have := hb.1; omega, fun eb => by have := OB_l_y.out b eb; have := hb.1; omega⟩)) (Fr.alloc _ _)) (by unfold maxLen; omega) (by omega) (Nat.le_trans HF.out.size (Fr.alloc w9 (.cells #[.string z_y, .slice fa_y fm_y fc_y, .int .u8 ek_y, .string es_y, .int .i64 en_y, .string eu_y, .slice ea1_y em1_y ec1_y, .slice ea2_y em2_y ec2_y, .slice ea3_y em3_y ec3_y] 82)).size) ?_; intro a3 c3 wn HON HGN)
      have HFN : Hid (Fr (Just gp) w wn) := Lib.hid ((HF.out.trans ((Fr.alloc w9 (.cells #[.string z_y, .slice fa_y fm_y fc_y, .int .u8 ek_y, .string es_y, .int .i64 en_y, .string eu_y, .slice ea1_y em1_y ec1_y, .slice ea2_y em2_y ec2_y, .slice ea3_y em3_y ec3_y] 82)).just gp) (fun _ _ h => h)).trans HGN.out.fr (fun i hi hb => by have hb : w.heap.size ≤ i := hb; omega))
      have R_gpN : Hid (wn.heap[gp]? = some (.cells #[.slice a l.length c, .int .i64 (q8 : Nat)] 60 (0, 0))) := Lib.hid (HGN.out.fr.keeps ((Fr.alloc _ _).keeps R_gp.out no_one) (fun hb => by have hb : w.heap.size ≤ gp := hb; omega))
      exact ⟨⟨m + 1, q8, j, acc ++ [x_y], a3, c3, rfl, by omega, by omega, hq_q8, Lib.hid (by rw [List.map_append]; exact HON.out), R_gpN, HFN, HV⟩, by simp [lenOf]; omega⟩
    | false =>
     simp only [hb_sk, run_bind, run_skip, run_must, run_take, Pr.run, next, if_true, if_false, Bool.false_eq_true] at HV
     refine (sk_any (ts := [sb]) (n := 1) (Par.of HP0.out HF.out R_gp.out hq_q) R_sk.out rfl (by omega) hb_sk).mono ?_
     rintro e w10 ⟨rfl, hf, hp⟩
     replace hp : Par w10 gp a c l q := hp
     clear R_sk
     have HS := Lib.hid hf
     have RG := Lib.hid hp.blk
     have hq_q := hp.le
     clear hf hp
     replace O_l := oj O_l HS (by omega) (fun b hb => hb)
     replace HF := ft HF HS
     replace R_gp := RG
     clear HS RG
     go_wp2_with fail
     go_ret
     have hv := HV.out
     subst hv
     exact ⟨⟨_, rfl, hx_of_out O_l.out (by decide) (fun b hb _ => hb) (fun b _ hb => hb)⟩, HF.out, (Par.of HP0.out HF.out R_gp.out hq_q)⟩
end Go.Proofs.YtjabhmepafofmaaDoor
