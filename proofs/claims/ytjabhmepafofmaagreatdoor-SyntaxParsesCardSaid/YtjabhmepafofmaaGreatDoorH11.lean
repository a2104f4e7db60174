/- Wfu, Wle, Wva -/
import Derived.Test.YtjabhmepafofmaaGreatDoorG05
import Derived.Test.YtjabhmepafofmaaGreatDoorH02
import Derived.Test.YtjabhmepafofmaaGreatDoorH09
import Derived.Test.YtjabhmepafofmaaGreatDoorH37
set_option linter.unusedVariables false
set_option linter.unusedSimpArgs false
namespace Go.Proofs.YtjabhmepafofmaaGreatDoor
open Go.RowKit
set_option maxHeartbeats 4000000 in
set_option maxRecDepth 100000 in
theorem fun_step {gp : Nat} {a : Option Addr} {c : Nat} {l : List Tok} {g : Gr} {n : Nat} (h : Oks gp a c l g) : CT gp a c l 26 [] (stE xF) (g.pFun n) := by
 intro w p hp0 ho
 have HO := Lib.hid ho
 have HP0 := Lib.hid hp0
 have HH := Lib.hid h
 have hq_p := hp0.le
 have hlen := hp0.len
 have HF : Hid (Fr (Just gp) w w) := Lib.hid (Fr.refl _ _)
 have R_gp : Hid (w.heap[gp]? = some (.cells #[.slice a l.length c, .int .i64 (p : Nat)] 49 (0, 0))) := Lib.hid hp0.blk
 obtain ⟨V, hV⟩ : ∃ V, Pr.run l ((g.pFun n)) p = V := ⟨_, rfl⟩
 rw [hV] at HO ⊢
 clear ho hp0 h
 simp only [Gr.pFun, run_bind, run_skip, run_must, run_take, Pr.run, next, if_true, if_false, Bool.false_eq_true] at hV
 have HV := Lib.hid hV
 clear hV
 go_enter Tryz.func26, Tryz.ntmps26
 have hgw : gp < w.heap.size := lt_of_block HP0.out.blk
 go_upto_region 1 with fail
 generalize hn : w.alloc _ = w1
 generalize hg : w.heap.size = g_r
 have HS := fa hn
 have R_r := nb hn hg
 have L_gp_r := lb hg R_gp
 have B_r := bs hg HF
 clear hn hg
 replace R_gp := kn HS R_gp
 replace HF := fn HF HS
 clear HS
 go_wp2_with fail
 by_cases hk_s : (l.getD p zTok).kind = 1
 ·
  simp only [hk_s, Re.andThen, run_bind, run_skip, run_must, run_take, Pr.run, next, if_true, if_false, Bool.false_eq_true] at HV
  refine (take_good (Par.of HP0.out HF.out R_gp.out hq_p) (by decide) hk_s).mono ?_
  rintro e w2 ⟨rfl, hf, hp⟩
  obtain ⟨tx_s, htx⟩ : ∃ s, (l.getD p zTok).text = s := ⟨_, rfl⟩
  rw [htx]
  have hv := HV.out
  rw [htx] at hv
  replace HV := Lib.hid hv
  clear hv htx
  have HS := Lib.hid hf
  have RG := Lib.hid hp.blk
  have hq_pP1 := hp.le
  clear hf hp
  replace R_r := kj HS R_r (by omega)
  replace HF := ft HF HS
  replace R_gp := RG
  clear HS RG
  go_wp2_with fail
  by_cases hk_a : (l.getD (p + 1) zTok).kind = 1
  ·
   simp only [hk_a, Re.andThen, run_bind, run_skip, run_must, run_take, Pr.run, next, if_true, if_false, Bool.false_eq_true] at HV
   refine (take_good (Par.of HP0.out HF.out R_gp.out hq_pP1) (by decide) hk_a).mono ?_
   rintro e w3 ⟨rfl, hf, hp⟩
   obtain ⟨tx_a, htx⟩ : ∃ s, (l.getD (p + 1) zTok).text = s := ⟨_, rfl⟩
   rw [htx]
   have hv := HV.out
   rw [htx] at hv
   replace HV := Lib.hid hv
   clear hv htx
   have HS := Lib.hid hf
   have RG := Lib.hid hp.blk
   have hq_pP1P1 := hp.le
   clear hf hp
   replace R_r := kj HS R_r (by omega)
   replace HF := ft HF HS
   replace R_gp := RG
   clear HS RG
   go_upto_region 2 with fail
   generalize hn : w3.alloc _ = w4
   generalize hg : w3.heap.size = g_arr
   have HS := fa hn
   have R_arr := nb hn hg
   have hsz_arr : w4.heap.size = g_arr + 1 := by rw [← hn, ← hg]; exact alloc_size _ _
   have L_gp_arr := lb hg R_gp
   have L_r_arr := lb hg R_r
   have B_arr := bs hg HF
   clear hn hg
   replace R_gp := kn HS R_gp
   replace R_r := kn HS R_r
   replace HF := fn HF HS
   clear HS
   obtain ⟨w5, hn⟩ : ∃ wZ, w4.alloc (.cells #[.string tx_s, .slice (some ⟨g_arr, 0, none⟩) 1 1, .int .u8 0, .string ⟨#[]⟩, .int .i64 0, .string ⟨#[]⟩, .slice none 0 0, .slice none 0 0, .slice none 0 0] 71) = wZ := ⟨_, rfl⟩
   obtain ⟨g_t, hg⟩ : ∃ gZ, w4.heap.size = gZ := ⟨_, rfl⟩
   rw [hn, hsz_arr.symm.trans hg]
   clear hsz_arr
   have HS := fa hn
   have R_t := nb hn hg
   have L_gp_t := lb hg R_gp
   have L_r_t := lb hg R_r
   have L_arr_t := lb hg R_arr
   have B_t := bs hg HF
   clear hn hg
   replace R_gp := kn HS R_gp
   replace R_r := kn HS R_r
   replace R_arr := kn HS R_arr
   replace HF := fn HF HS
   clear HS
   have O_k : Hid (OutG RX 9 1 (fun b => w.heap.size ≤ b ∧ b ≠ g_r ∧ b ≠ g_t) w.heap.size w5 (.slice (some ⟨g_arr, 0, none⟩) 1 1) 1 ([tx_a].map (fun s => [xb s]))) := Lib.hid (out_lits (cs := [[.string tx_a]]) R_arr.out B_arr rfl rfl (fun c hc => by rw [List.mem_singleton.1 hc]; rfl) (by omega) (fun j t c hj hc => by
    have hj0 : j < 1 := (List.getElem?_eq_some_iff.1 hj).1
    obtain rfl : j = 0 := by omega
    cases hj
    cases hc
    exact hc_cons (hx_lit _) hc_end))
   have hvi : Hid (Pr.run l ((Gr.argsL n [tx_a]).bind (fun l => (must ⟨#[61]⟩).bind fun _ => g.exp.bind fun e => .ret (.mk tx_s l e))) ((p + 1) + 1) = V) := Lib.hid (by
    have hv := HV.out
    simp only [Re.andThen, run_bind, run_skip, run_must, run_take, Pr.run, next, if_true, if_false, Bool.false_eq_true]
    exact hv)
   go_wp2_with fail
   go_loopw [] (fun wx => ∃ (q j m : Nat) (acc : List ByteArray) (av : Option Addr) (cv : Nat), q ≤ l.length ∧ posOf gp wx = q ∧ m ≤ q ∧ Hid (OutG RX 9 1 (fun b => w.heap.size ≤ b ∧ b ≠ g_r ∧ b ≠ g_t) w.heap.size wx (.slice av m cv) m (acc.map (fun s => [xb s]))) ∧ Hid (wx.heap[g_t]? = some (.cells #[.string tx_s, .slice av m cv, .int .u8 0, .string ⟨#[]⟩, .int .i64 0, .string ⟨#[]⟩, .slice none 0 0, .slice none 0 0, .slice none 0 0] 71 (0, 0))) ∧ Hid (wx.heap[g_r]? = some (.cells #[.string ⟨#[]⟩, .slice none 0 0, .int .u8 0, .string ⟨#[]⟩, .int .i64 0, .string ⟨#[]⟩, .slice none 0 0, .slice none 0 0, .slice none 0 0] 71 (0, 0))) ∧ Hid (Av (.slice av m cv) g_t) ∧ Hid (Av (.slice av m cv) g_r) ∧ Hid (wx.heap[gp]? = some (.cells #[.slice a l.length c, .int .i64 (q : Nat)] 49 (0, 0))) ∧ Hid (Fr (Just gp) w wx) ∧ Hid (Pr.run l ((Gr.argsL j acc).bind (fun l => (must ⟨#[61]⟩).bind fun _ => g.exp.bind fun e => .ret (.mk tx_s l e))) q = V)) (fun wx => l.length - posOf gp wx)
   case atStart => exact ⟨((p + 1) + 1), n, 1, [tx_a], _, _, hq_pP1P1, posOf_at R_gp.out, by omega, O_k, R_t, R_r, Lib.hid (av_ne (by omega)), Lib.hid (av_ne (by omega)), R_gp, HF, hvi⟩
   case round =>
    clear O_k R_t R_r R_arr R_gp HF HV hvi
    obtain ⟨q, j, m, acc, av, cv, hq_q, hpq, hmq, O_k, R_t, R_r, A_t, A_r, R_gp, HF, HV⟩ := hrel
    obtain ⟨wL, hwL⟩ : ∃ wL, wL = wr := ⟨wr, rfl⟩
    rw [← hwL] at O_k R_t R_r R_gp HF ⊢
    try rw [← hwL] at hpq
    clear hwL
    have hv := HV.out
    cases j with
    | zero => exact absurd hv.symm HO.out
    | succ j =>
     simp only [Gr.argsL, Re.andThen, run_bind, run_skip, run_must, run_take, Pr.run, next, if_true, if_false, Bool.false_eq_true] at hv
     replace HV := Lib.hid hv
     clear hv
     go_wp2_with fail
     obtain ⟨⟨kt_t, st_t, mt_t, qt_t⟩, ht⟩ : ∃ t, l.getD q zTok = t := ⟨_, rfl⟩
     refine (next_any gp a c l q wL (Par.of HP0.out HF.out R_gp.out hq_q)).mono ?_
     rintro e w6 ⟨rfl, hf⟩
     rw [ht]
     simp only [tokV]
     have hv := HV.out
     (try simp only [Re.andThen, run_bind, run_skip, run_must, run_take, Pr.run, next, if_true, if_false, Bool.false_eq_true] at hv)
     (try simp only [ht] at hv)
     replace HV := Lib.hid hv
     have HT_t := Lib.hid ht
     clear hv ht
     have HS := Lib.hid hf
     clear hf
     replace R_r := kn HS R_r
     replace R_t := kn HS R_t
     replace R_gp := kn HS R_gp
     replace O_k := on HS O_k
     replace HF := fn HF HS
     clear HS
     go_wp2_with fail
     simp only [field49_0]
     by_cases hk1_t : kt_t = 1
     ·
      have hv := HV.out
      rw [if_pos hk1_t] at hv
      replace HV := Lib.hid hv
      clear hv
      have hq1_t : ((kt_t : Int) == 1) = true := by simp [hk1_t]
      have hn1_t : ((kt_t : Int) != 1) = false := by rw [bne, hq1_t]; rfl
      go_upto_region 3 with fail
      refine region_e (fun w' => w'.cell? ⟨g_t, 0, none⟩ = some (.string tx_s) ∧ w'.cell? ⟨g_t, 1, none⟩ = some (.slice av m cv) ∧ w'.cell? ⟨g_t, 2, none⟩ = some (.int .u8 0) ∧ w'.cell? ⟨g_t, 3, none⟩ = some (.string ⟨#[]⟩) ∧ w'.cell? ⟨g_t, 4, none⟩ = some (.int .i64 0) ∧ w'.cell? ⟨g_t, 5, none⟩ = some (.string ⟨#[]⟩) ∧ w'.cell? ⟨g_t, 6, none⟩ = some (.slice none 0 0) ∧ w'.cell? ⟨g_t, 7, none⟩ = some (.slice none 0 0) ∧ w'.cell? ⟨g_t, 8, none⟩ = some (.slice none 0 0)) [7] (by kernel_rfl) ?_ (fun hHeld => ?_)
      · exact ⟨cell_of ((Fr.drew w6).keeps R_t.out no_one) 0, cell_of ((Fr.drew w6).keeps R_t.out no_one) 1, cell_of ((Fr.drew w6).keeps R_t.out no_one) 2, cell_of ((Fr.drew w6).keeps R_t.out no_one) 3, cell_of ((Fr.drew w6).keeps R_t.out no_one) 4, cell_of ((Fr.drew w6).keeps R_t.out no_one) 5, cell_of ((Fr.drew w6).keeps R_t.out no_one) 6, cell_of ((Fr.drew w6).keeps R_t.out no_one) 7, cell_of ((Fr.drew w6).keeps R_t.out no_one) 8⟩
      obtain ⟨w7, hwd⟩ : ∃ wZ, wZ = w6.drew := ⟨_, rfl⟩
      have HS : Hid (Fr No w6 w7) := Lib.hid (by rw [hwd]; exact Fr.drew _)
      rw [← hwd] at hHeld ⊢
      clear hwd
      replace R_r := kn HS R_r
      replace R_t := kn HS R_t
      replace R_gp := kn HS R_gp
      replace O_k := on HS O_k
      replace HF := fn HF HS
      clear HS
      refine take_op 0 (some 14) (Op.fieldAddr 71 ( .tmp 3) 1) 0 ?_ (by kernel_rfl) (by kernel_rfl) (by kernel_rfl) (fun _ _ _ h => h) ?_ (by assumption) ?_
      rotate_left
      · intro w hSw; (try dsimp only at hSw); go_simp; (try (with_reducible rfl))
      try simp only [Act.put, List.setIfInBounds_toArray, List.set_cons_zero, List.set_cons_succ]
      refine take_op 1 (some 15) (Op.load 35 ( .tmp 14)) 35 ?_ (by kernel_rfl) (by kernel_rfl) (by kernel_rfl) (fun _ _ _ h => h) ?_ (by assumption) ?_
      rotate_left
      · intro w hSw; (try dsimp only at hSw); go_simp; (try (with_reducible rfl))
      try simp only [Act.put, List.setIfInBounds_toArray, List.set_cons_zero, List.set_cons_succ]
      refine take_op 2 (some 16) (Op.move ( .tmp 0)) 47 ?_ (by kernel_rfl) (by kernel_rfl) (by kernel_rfl) (fun _ _ _ h => h) ?_ (by assumption) ?_
      rotate_left
      · intro w hSw; (try dsimp only at hSw); go_simp; (try (with_reducible rfl))
      try simp only [Act.put, List.setIfInBounds_toArray, List.set_cons_zero, List.set_cons_succ]
      refine ready_e (rs := [3]) (by kernel_rfl) (by simp) ?_
      refine (do_mid (o := _) rfl (fun K hK => ?_) none_e)
      go_simp
      go_at_call 23
      have hk : (l.getD q zTok).kind = 1 := by rw [HT_t.out]; exact hk1_t
      refine (take_good (Par.of HP0.out HF.out R_gp.out hq_q) (by decide) hk).mono ?_
      rintro e w8 ⟨rfl, hf, hp⟩
      rw [HT_t.out]
      (try dsimp only)
      have hv := HV.out
      simp only [hk, hk1_t, Re.andThen, run_bind, run_skip, run_must, run_take, Pr.run, next, if_true, if_false, Bool.false_eq_true] at hv
      (try simp only [HT_t.out] at hv)
      replace HV := Lib.hid hv
      clear hv hk
      have HS := Lib.hid hf
      have RG := Lib.hid hp.blk
      have hq_qP1 := hp.le
      clear hf hp
      replace R_r := kj HS R_r (by omega)
      replace R_t := kj HS R_t (by omega)
      replace O_k := oj O_k HS (by omega) (fun b hb => by have := hb.1; omega)
      replace HF := ft HF HS
      replace R_gp := RG
      clear HS RG
      refine hK.out _ _ ?_ (fun hHeld => ?_)
      · exact ⟨cell_of R_t.out 0, cell_of R_t.out 1, cell_of R_t.out 2, cell_of R_t.out 3, cell_of R_t.out 4, cell_of R_t.out 5, cell_of R_t.out 6, cell_of R_t.out 7, cell_of R_t.out 8⟩
      clear hK K
      try dsimp only
      try simp only [Act.put, List.setIfInBounds_toArray, List.set_cons_zero, List.set_cons_succ]
      refine ready_e (rs := [4]) (by kernel_rfl) (by simp) ?_
      refine (do_mid (o := _) rfl (fun K hK => ?_) none_e)
      go_simp
      generalize hn : w8.alloc _ = w9
      generalize hg : w8.heap.size = g_one
      have HS := fa hn
      have R_one := nb hn hg
      have L_r_one := lb hg R_r
      have L_t_one := lb hg R_t
      have L_gp_one := lb hg R_gp
      have B_one := bs hg HF
      clear hn hg
      replace R_r := kn HS R_r
      replace R_t := kn HS R_t
      replace R_gp := kn HS R_gp
      replace O_k := on HS O_k
      replace HF := fn HF HS
      clear HS
      refine hK.out _ _ ?_ (fun hHeld => ?_)
      · exact ⟨cell_of R_t.out 0, cell_of R_t.out 1, cell_of R_t.out 2, cell_of R_t.out 3, cell_of R_t.out 4, cell_of R_t.out 5, cell_of R_t.out 6, cell_of R_t.out 7, cell_of R_t.out 8⟩
      clear hK K
      try dsimp only
      try simp only [Act.put, List.setIfInBounds_toArray, List.set_cons_zero, List.set_cons_succ]
      refine ready_e (rs := [5]) (by kernel_rfl) (by simp) ?_
      refine (do_mid (o := _) rfl (fun K hK => ?_) none_e)
      refine step_push keptX elemS rfl _ _ 35 rfl Tryz.underlying35 (fun b => w.heap.size ≤ b ∧ b ≠ g_r ∧ b ≠ g_t) (w.heap.size) (.slice av m cv) m (acc.map (fun s => [xb s])) rfl O_k.out _ [.string st_t] 9 rfl R_one.out (by simp [Value.oneCell']) rfl ((fun s => [xb s]) st_t) (hc_cons (hx_lit _) hc_end) (by unfold maxLen; omega) (by omega) (HF.out.size) ?_
      intro a10 c10 wn10 HON HGN
      clear R_one
      have A_r' := Lib.hid (HGN.out.avs R_r.out A_r.out)
      replace R_r := Lib.hid (HGN.out.keeps R_r.out A_r.out)
      have A_r := A_r'
      clear A_r'
      have A_t' := Lib.hid (HGN.out.avs R_t.out A_t.out)
      replace R_t := Lib.hid (HGN.out.keeps R_t.out A_t.out)
      have A_t := A_t'
      clear A_t'
      replace R_gp := Lib.hid (HGN.out.fr.keeps R_gp.out (fun hb => by have hb : w.heap.size ≤ gp := hb; omega))
      replace HF := Lib.hid (HF.out.trans HGN.out.fr (fun i hi hb => by have hb : w.heap.size ≤ i := hb; omega))
      have O_k' := Lib.hid (by have h := HON.out; rw [show acc.map (fun s => [xb s]) ++ [(fun s => [xb s]) st_t] = (acc ++ [st_t]).map (fun s => [xb s]) by rw [List.map_append]; rfl] at h; exact h)
      clear HON HGN
      clear O_k
      have O_k := O_k'
      clear O_k'
      refine hK.out _ _ ?_ (fun hHeld => ?_)
      · exact ⟨cell_of R_t.out 0, cell_of R_t.out 1, cell_of R_t.out 2, cell_of R_t.out 3, cell_of R_t.out 4, cell_of R_t.out 5, cell_of R_t.out 6, cell_of R_t.out 7, cell_of R_t.out 8⟩
      clear hK K
      try dsimp only
      try simp only [Act.put, List.setIfInBounds_toArray, List.set_cons_zero, List.set_cons_succ]
      refine take_op 6 (some 20) (Op.fieldAddr 71 ( .tmp 3) 1) 0 ?_ (by kernel_rfl) (by kernel_rfl) (by kernel_rfl) (fun _ _ _ h => h) ?_ (by assumption) ?_
      rotate_left
      · intro w hSw; (try dsimp only at hSw); go_simp; (try (with_reducible rfl))
      try simp only [Act.put, List.setIfInBounds_toArray, List.set_cons_zero, List.set_cons_succ]
      obtain ⟨d0_t, d1_t, d2_t, d3_t, d4_t, d5_t, d6_t, d7_t, d8_t⟩ := z9c R_t.out
      obtain ⟨f0_t, f1_t, f2_t, f3_t, f4_t, f5_t, f6_t, f7_t, f8_t⟩ := y9c R_t.out
      refine ready_e (rs := [7]) (by kernel_rfl) (by simp) ?_
      refine (do_late (o := _) rfl (by kernel_rfl) (fun K hK => ?_) none_e)
      go_simp
      clear d0_t f0_t d1_t f1_t d2_t f2_t d3_t f3_t d4_t f4_t d5_t f5_t d6_t f6_t d7_t f7_t d8_t f8_t
      obtain ⟨w11, hn⟩ : ∃ wZ, setL g_t [(1, .slice a10 (m + 1) c10)] wn10 = wZ := ⟨_, rfl⟩
      have R_t' : Hid (w11.heap[g_t]? = some (.cells #[.string tx_s, .slice a10 (m + 1) c10, .int .u8 0, .string ⟨#[]⟩, .int .i64 0, .string ⟨#[]⟩, .slice none 0 0, .slice none 0 0, .slice none 0 0] 71 (0, 0))) := Lib.hid (by rw [← hn]; exact (setLs_block [(1, .slice a10 (m + 1) c10)] [.string tx_s, .slice av m cv, .int .u8 0, .string ⟨#[]⟩, .int .i64 0, .string ⟨#[]⟩, .slice none 0 0, .slice none 0 0, .slice none 0 0] _ R_t.out).trans rfl)
      have HS := sl hn
      have he := hn
      simp only [setL] at he
      rw [he]
      clear he
      clear hn
      replace R_r := kj HS R_r (by omega)
      replace R_gp := kj HS R_gp (by omega)
      replace O_k := Lib.hid (O_k.out.keep keptX HS.out (fun b hb (h : b = g_t) => by have := hb.1; have := hb.2; omega) (fun b hb (h : b = g_t) => A_t.out (by rw [← h]; exact hb)))
      replace HF := fb HF HS (by omega)
      have R_t := R_t'
      clear R_t' HS
      refine hK.out _ _ ?_
      clear hK K
      try dsimp only
      try simp only [Act.put, List.setIfInBounds_toArray, List.set_cons_zero, List.set_cons_succ]
      refine done_e (by kernel_rfl) ?_ _
      (try simp only [Exit.inBlock, Exit.then])
      go_wp2_with fail
      have hvi : Hid (Pr.run l ((Gr.argsL j (acc ++ [st_t])).bind (fun l => (must ⟨#[61]⟩).bind fun _ => g.exp.bind fun e => .ret (.mk tx_s l e))) (q + 1) = V) := Lib.hid (by
       have hv := HV.out
       simp only [Re.andThen, run_bind, run_skip, run_must, run_take, Pr.run, next, if_true, if_false, Bool.false_eq_true]
       exact hv)
      exact ⟨⟨(q + 1), j, m + 1, acc ++ [st_t], _, _, hq_qP1, posOf_at R_gp.out, by omega, O_k, R_t, R_r, A_t, A_r, R_gp, HF, hvi⟩, by rw [posOf_at R_gp.out, hpq]; omega⟩
     ·
      have hv := HV.out
      rw [if_neg hk1_t] at hv
      replace HV := Lib.hid hv
      clear hv
      have hq1_t : ((kt_t : Int) == 1) = false := by simp only [beq_eq_false_iff_ne, ne_eq]; omega
      have hn1_t : ((kt_t : Int) != 1) = true := by rw [bne, hq1_t]; rfl
      (try simp only [run_bind, run_skip, run_must, run_take, Pr.run, next, if_true, if_false, Bool.false_eq_true] at HV)
      go_wp2_with fail
      cases hm_eq : seesB (l.getD q zTok) [⟨#[61]⟩] with
      | false =>
       have hm_eq' := hm_eq
       rw [HT_t.out] at hm_eq'
       simp only [hm_eq, hm_eq', Re.andThen, run_bind, run_skip, run_must, run_take, Pr.run, next, if_true, if_false, Bool.false_eq_true] at HV
       refine (must_bad (Par.of HP0.out HF.out R_gp.out hq_q) hm_eq).mono ?_
       rintro e w12 ⟨rfl, hf, hp⟩
       have hv := HV.out
       subst hv
       exact ⟨rfl, rfl, HF.out.trans hf (fun _ _ h => h), hp⟩
      | true =>
       have hm_eq' := hm_eq
       rw [HT_t.out] at hm_eq'
       simp only [hm_eq, hm_eq', Re.andThen, run_bind, run_skip, run_must, run_take, Pr.run, next, if_true, if_false, Bool.false_eq_true] at HV
       refine (must_good (Par.of HP0.out HF.out R_gp.out hq_q) hm_eq).mono ?_
       rintro e w13 ⟨rfl, hf, hp⟩
       have HS := Lib.hid hf
       have RG := Lib.hid hp.blk
       have hq_qP1 := hp.le
       clear hf hp
       replace R_r := kj HS R_r (by omega)
       replace R_t := kj HS R_t (by omega)
       replace O_k := oj O_k HS (by omega) (fun b hb => by have := hb.1; omega)
       replace HF := ft HF HS
       replace R_gp := RG
       clear HS RG
       go_wp2_with fail
       cases hr_e : Pr.run l g.exp (q + 1) with
       | out =>
        simp only [hr_e, Re.andThen, run_bind, run_skip, run_must, run_take, Pr.run, next, if_true, if_false, Bool.false_eq_true] at HV
        exact absurd HV.out.symm HO.out
       | fail q =>
        simp only [hr_e, Re.andThen, run_bind, run_skip, run_must, run_take, Pr.run, next, if_true, if_false, Bool.false_eq_true] at HV
        refine ((HH.out.exp).bad (Par.of HP0.out HF.out R_gp.out hq_qP1) hr_e).mono ?_
        rintro e w14 ⟨rfl, hf, hp⟩
        have hv := HV.out
        subst hv
        exact ⟨rfl, rfl, HF.out.trans hf (fun _ _ h => h), hp⟩
       | ok x_e q15 =>
        simp only [hr_e, Re.andThen, run_bind, run_skip, run_must, run_take, Pr.run, next, if_true, if_false, Bool.false_eq_true] at HV
        have hsz_e : gp < w13.heap.size := lt_of_block R_gp.out
        obtain ⟨b_e, hB⟩ : ∃ bZ, w13.heap.size = bZ := ⟨_, rfl⟩
        have K_r_e := lb hB R_r
        have K_t_e := lb hB R_t
        have K_gp_e := lb hB R_gp
        have KB_e := bs hB HF
        clear hsz_e
        have OB_k_e : Hid (∀ b, (Value.slice av m cv).ownBlock = some b → b < b_e) := Lib.hid (fun bb hbb => by rw [← hB]; exact (O_k.out.block hbb).2)
        refine ((HH.out.exp).good (Par.of HP0.out HF.out R_gp.out hq_qP1) hr_e).mono ?_
        rintro e w16 ⟨⟨cs_e, rfl, hc⟩, hf, hp⟩
        rw [hB] at hc
        clear hB
        obtain ⟨h_e, hH⟩ : ∃ hZ, w16.heap.size = hZ := ⟨_, rfl⟩
        have I_e := im hH hc
        have Z_h_e : h_e ≤ w16.heap.size := Nat.le_of_eq hH.symm
        clear hc hH
        have HS := Lib.hid hf
        have RG := Lib.hid hp.blk
        have hq_q15 := hp.le
        clear hf hp
        replace R_r := kj HS R_r (by omega)
        replace R_t := kj HS R_t (by omega)
        replace O_k := oj O_k HS (by omega) (fun b hb => by have := hb.1; omega)
        replace HF := ft HF HS
        replace R_gp := RG
        clear HS RG
        obtain ⟨k_e, s_e, n_e, u_e, a1_e, m1_e, c1_e, a2_e, m2_e, c2_e, a3_e, m3_e, c3_e, ecs⟩ := hcE I_e.out
        subst ecs
        obtain ⟨d0_t, d1_t, d2_t, d3_t, d4_t, d5_t, d6_t, d7_t, d8_t⟩ := z9c R_t.out
        obtain ⟨f0_t, f1_t, f2_t, f3_t, f4_t, f5_t, f6_t, f7_t, f8_t⟩ := y9c R_t.out
        go_upto_region 6 with fail
        clear d0_t f0_t d1_t f1_t d2_t f2_t d3_t f3_t d4_t f4_t d5_t f5_t d6_t f6_t d7_t f7_t d8_t f8_t
        obtain ⟨w17, hn⟩ : ∃ wZ, setL g_t [(2, .int .u8 k_e), (3, .string s_e), (4, .int .i64 n_e), (5, .string u_e), (6, .slice a1_e m1_e c1_e), (7, .slice a2_e m2_e c2_e), (8, .slice a3_e m3_e c3_e)] w16 = wZ := ⟨_, rfl⟩
        have R_t' : Hid (w17.heap[g_t]? = some (.cells #[.string tx_s, .slice av m cv, .int .u8 k_e, .string s_e, .int .i64 n_e, .string u_e, .slice a1_e m1_e c1_e, .slice a2_e m2_e c2_e, .slice a3_e m3_e c3_e] 71 (0, 0))) := Lib.hid (by rw [← hn]; exact (setLs_block [(2, .int .u8 k_e), (3, .string s_e), (4, .int .i64 n_e), (5, .string u_e), (6, .slice a1_e m1_e c1_e), (7, .slice a2_e m2_e c2_e), (8, .slice a3_e m3_e c3_e)] [.string tx_s, .slice av m cv, .int .u8 0, .string ⟨#[]⟩, .int .i64 0, .string ⟨#[]⟩, .slice none 0 0, .slice none 0 0, .slice none 0 0] _ R_t.out).trans rfl)
        have HS := sl hn
        have he := hn
        simp only [setL] at he
        rw [he]
        clear he
        clear hn
        replace R_r := kj HS R_r (by omega)
        replace R_gp := kj HS R_gp (by omega)
        replace I_e := ij I_e HS (by omega)
        replace O_k := Lib.hid (O_k.out.keep keptX HS.out (fun b hb (h : b = g_t) => by have := hb.1; have := hb.2; omega) (fun b hb (h : b = g_t) => A_t.out (by rw [← h]; exact hb)))
        replace HF := fb HF HS (by omega)
        replace Z_h_e := zt Z_h_e HS
        have R_t := R_t'
        clear R_t' HS
        obtain ⟨d0_t, d1_t, d2_t, d3_t, d4_t, d5_t, d6_t, d7_t, d8_t⟩ := z9c R_t.out
        obtain ⟨f0_t, f1_t, f2_t, f3_t, f4_t, f5_t, f6_t, f7_t, f8_t⟩ := y9c R_t.out
        obtain ⟨d0_r, d1_r, d2_r, d3_r, d4_r, d5_r, d6_r, d7_r, d8_r⟩ := z9c R_r.out
        obtain ⟨f0_r, f1_r, f2_r, f3_r, f4_r, f5_r, f6_r, f7_r, f8_r⟩ := y9c R_r.out
        go_wp2_with fail
        clear d0_t f0_t d1_t f1_t d2_t f2_t d3_t f3_t d4_t f4_t d5_t f5_t d6_t f6_t d7_t f7_t d8_t f8_t
        clear d0_r f0_r d1_r f1_r d2_r f2_r d3_r f3_r d4_r f4_r d5_r f5_r d6_r f6_r d7_r f7_r d8_r f8_r
        obtain ⟨w18, hn⟩ : ∃ wZ, setFrom g_r 0 [.string tx_s, .slice av m cv, .int .u8 k_e, .string s_e, .int .i64 n_e, .string u_e, .slice a1_e m1_e c1_e, .slice a2_e m2_e c2_e, .slice a3_e m3_e c3_e] w17 = wZ := ⟨_, rfl⟩
        have R_r' := sf hn R_r rfl
        have HS := sg hn
        have he := hn
        simp only [setFrom, Nat.reduceAdd] at he
        rw [he]
        clear he
        clear hn
        replace R_t := kj HS R_t (by omega)
        replace R_gp := kj HS R_gp (by omega)
        replace I_e := ij I_e HS (by omega)
        replace O_k := Lib.hid (O_k.out.keep keptX HS.out (fun b hb (h : b = g_r) => by have := hb.1; have := hb.2; omega) (fun b hb (h : b = g_r) => A_r.out (by rw [← h]; exact hb)))
        replace HF := fb HF HS (by omega)
        replace Z_h_e := zt Z_h_e HS
        have R_r := R_r'
        clear R_r' HS
        (try simp only [Exit.inBlock, Exit.then])
        have hv := HV.out
        subst hv
        refine bodyPost_ret (results_st rfl Tryz.underlying71 (by kernel_rfl) _ _ g_r _ rfl rfl R_r.out) rfl ?_
        exact ⟨⟨_, rfl, hcF_mk tx_s (hx_of_out O_k.out (by decide) (fun b hb _ => hb) (fun b _ hb => hb.1)) (I_e.out.mono (fun b _ hb => by have := hb.1; omega))⟩, HF.out, (Par.of HP0.out HF.out R_gp.out hq_q15)⟩
  ·
   simp only [hk_a, Re.andThen, run_bind, run_skip, run_must, run_take, Pr.run, next, if_true, if_false, Bool.false_eq_true] at HV
   refine (take_bad (Par.of HP0.out HF.out R_gp.out hq_pP1) (by decide) hk_a).mono ?_
   rintro e w19 ⟨rfl, hf, hp⟩
   have hv := HV.out
   subst hv
   exact ⟨rfl, rfl, HF.out.trans hf (fun _ _ h => h), hp⟩
 ·
  simp only [hk_s, Re.andThen, run_bind, run_skip, run_must, run_take, Pr.run, next, if_true, if_false, Bool.false_eq_true] at HV
  refine (take_bad (Par.of HP0.out HF.out R_gp.out hq_p) (by decide) hk_s).mono ?_
  rintro e w20 ⟨rfl, hf, hp⟩
  have hv := HV.out
  subst hv
  exact ⟨rfl, rfl, HF.out.trans hf (fun _ _ h => h), hp⟩
end Go.Proofs.YtjabhmepafofmaaGreatDoor
namespace Go.Proofs.YtjabhmepafofmaaGreatDoor
open Go.RowKit
set_option maxHeartbeats 4000000 in
set_option maxRecDepth 100000 in
theorem let_step' {v : Vd} {g : Gr} {n : Nat} (h : Oks v.gp v.a v.c v.l g) : CT v.gp v.a v.c v.l 109 [] (stE xE) (g.pLet n) := dc fun e HX => by
 have HH := Lib.hid h
 clear h
 simp only [pLet_eq] at HX
 go_enter Tryz.func109, Tryz.ntmps109
 go_upto_region 1 with fail
 generalize hn : e.w.alloc _ = w1
 generalize hg : e.w.heap.size = g_r
 replace HX := alloc' HX hn hg
 clear hn hg
 go_upto_region 2 with fail
 generalize hn : w1.alloc _ = w2
 generalize hg : w1.heap.size = g_t
 replace HX := alloc' HX hn hg
 clear hn hg
 replace HX := nil' 46 16 HX
 go_loopw [] (fun wx => ∃ (m q j : Nat) (acc : List D) (av : Option Addr) (cv : Nat), m ≤ q ∧ posOf v.gp wx = q ∧ Hid (Dx v e wx q [.out 46 16 (.slice av m cv) m (acc.map xD), .blk g_t [.int .u8 10, .string ⟨#[]⟩, .int .i64 0, .string ⟨#[]⟩, .slice none 0 0, .slice none 0 0, .slice av m cv] 44, .blk g_r [.int .u8 0, .string ⟨#[]⟩, .int .i64 0, .string ⟨#[]⟩, .slice none 0 0, .slice none 0 0, .slice none 0 0] 44] ((g.decsL j acc).bind (letK g)))) (fun wx => v.l.length - posOf v.gp wx)
 case atStart => exact ⟨0, e.p, n, [], none, 0, Nat.zero_le _, posOf_at HX.out.st.blk, HX⟩
 case round =>
  clear HX
  obtain ⟨m, q, j, acc, av, cv, hmq, hpq, HX⟩ := hrel
  have hm := fewd HX (Nat.le_succ_of_le hmq)
  obtain ⟨j2, HX⟩ := headd HX (fun h ho => decs_head h ho)
  go_upto_region 2 with fail
  refine reg' HX (cl 1 6 HX rfl rfl) [7] (by kernel_rfl) ?_; clear HX; intro w3 HX hHeld
  refine tk 0 rfl hHeld ?_ (by kernel_rfl) (by kernel_rfl) (by exact fun _ _ _ h => h) (by (intro w h; (try dsimp only at h); go_simp; (try (with_reducible rfl))))
  try simp only [SA]
  refine tk 1 rfl hHeld ?_ (by kernel_rfl) (by kernel_rfl) (by exact fun _ _ _ h => h) (by (intro w h; (try dsimp only at h); go_simp; (try (with_reducible rfl))))
  try simp only [SA]
  refine tk 2 rfl hHeld ?_ (by kernel_rfl) (by kernel_rfl) (by exact fun _ _ _ h => h) (by (intro w h; (try dsimp only at h); go_simp; (try (with_reducible rfl))))
  try simp only [SA]
  refine rdm 3 (by kernel_rfl) rfl fun K hK => ?_
  go_simp
  go_at_call 12
  refine callDd HX (HH.out.dec false) (fun _ h => ⟨rfl, h⟩) ?_; clear HX; intro w4 q5 x_y _ _ _ _ _ _ _ _ _ _ _ _ _ _ _ _ _ _ _ _ _ _ _ _ _ _ _ _ _ _ h6 HX
  refine hK.out _ _ ((cl 2 6 HX rfl rfl) _ (Fr.refl _ _)) (fun hHeld => ?_)
  clear hK K
  try dsimp only
  try simp only [SA]
  refine rdm 4 (by kernel_rfl) rfl fun K hK => ?_
  go_simp
  generalize hn : w4.alloc _ = w7
  generalize hg : w4.heap.size = g_one
  replace HX := alloc' HX hn hg
  clear hn hg
  refine hK.out _ _ ((cl 3 6 HX rfl rfl) _ (Fr.refl _ _)) (fun hHeld => ?_)
  clear hK K
  try dsimp only
  try simp only [SA]
  refine rdm 5 (by kernel_rfl) rfl fun K hK => ?_
  refine spush' HX elemD (by decide) hm rfl _ _ 25 rfl Tryz.underlying25 rfl rfl (by simp [Value.oneCell']) rfl ?_; clear HX; intro a3 c3 w8 HX
  replace HX := snoc' HX
  refine hK.out _ _ ((cl 1 6 HX rfl rfl) _ (Fr.refl _ _)) (fun hHeld => ?_)
  clear hK K
  try dsimp only
  try simp only [SA]
  refine tk 6 rfl hHeld ?_ (by kernel_rfl) (by kernel_rfl) (by exact fun _ _ _ h => h) (by (intro w h; (try dsimp only at h); go_simp; (try (with_reducible rfl))))
  try simp only [SA]
  have D_t := cl' 1 6 HX rfl rfl
  have E_t := fz 1 6 HX rfl
  refine rdl 7 (by kernel_rfl) rfl (by kernel_rfl) fun K hK => ?_
  go_simp
  clear D_t E_t
  generalize hn : World.setCell _ ⟨g_t, 6, none⟩ _ = w9
  replace HX := put1 HX (pE6 hn)
  clear hn
  refine hK.out _ _ ?_
  clear hK K
  try dsimp only
  try simp only [SA]
  refine done_e (by kernel_rfl) ?_ _
  (try simp only [Exit.inBlock, Exit.then])
  go_wp2_with fail
  refine mustd HX (fun _ h => ⟨rfl, h⟩) ?_; clear HX; intro w10 h11 HX
  go_wp2_with fail
  generalize hn : w10.alloc _ = w12
  generalize hg : w10.heap.size = g_sk
  replace HX := alloc' HX hn hg
  clear hn hg
  refine skipd HX ?_ ?_ (by rfl) (by rfl) (by decide)
  ·
   clear HX; intro w13 h14 HX
   simp only [letK] at HX
   replace HX := row_ HX (by decide)
   go_wp2_with fail
   refine callEd HX (HH.out.exp) (fun _ h => ⟨rfl, h⟩) ?_; clear HX; intro w15 q16 x_e _ _ _ _ _ _ _ _ _ _ _ _ _ h17 HX
   have D_t := d7 (bk 2 HX rfl)
   have hl := lt_of_block (bk 2 HX rfl)
   go_upto_region 6 with fail
   clear D_t
   clear hl
   generalize hg : w15.heap.size = g_arr
   generalize hn : World.setCell _ ⟨g_t, 4, none⟩ _ = w18
   generalize hm : w18.alloc _ = w19
   replace HX := late2 HX hg (pE4 hn) hm
   clear hg hn hm
   go_wp2_with fail
   refine mustd HX (fun _ h => ⟨rfl, h⟩) ?_; clear HX; intro w20 h21 HX
   have D_t := d7 (bk 3 HX rfl)
   have D_r := d7 (bk 4 HX rfl)
   go_wp2_with fail
   clear D_t D_r
   generalize hn : World.setCell _ ⟨g_r, 6, none⟩ _ = w22
   replace HX := put4 HX (pE hn)
   clear hn
   exact retd 4 HX rfl Tryz.underlying44 (by kernel_rfl) rfl rfl rfl rfl (hcE_mk 10 nob 0 nob (one' 0 1 HX rfl rfl rfl (by decide)) (hx_nil _) (rw' 2 HX rfl))
  ·
   clear HX; intro w23 HX
   go_wp2_with fail
   exact ⟨⟨m + 1, (q5 + 1), j2, acc ++ [x_y], a3, c3, by omega, posOf_at HX.out.st.blk, HX⟩, by rw [posOf_at HX.out.st.blk, hpq]; have := HX.out.dle; omega⟩
theorem let_step {gp : Nat} {a : Option Addr} {c : Nat} {l : List Tok} {g : Gr} {n : Nat} (h : Oks gp a c l g) : CT gp a c l 109 [] (stE xE) (g.pLet n) := let_step' (v := ⟨gp, a, c, l⟩) h
end Go.Proofs.YtjabhmepafofmaaGreatDoor
namespace Go.Proofs.YtjabhmepafofmaaGreatDoor
open Go.RowKit
set_option maxHeartbeats 4000000 in
set_option maxRecDepth 100000 in
theorem vars_step' {v : Vd} {g : Gr} {n : Nat} (h : Oks v.gp v.a v.c v.l g) : CT v.gp v.a v.c v.l 27 [] (rowE 1 (fun s => [xb s])) (Gr.pVars n) := dc fun e HX => by
 have HH := Lib.hid h
 clear h
 simp only [Gr.pVars] at HX
 go_enter Tryz.func27, Tryz.ntmps27
 go_wp2_with fail
 generalize hn : e.w.alloc _ = w1
 generalize hg : e.w.heap.size = g_sk
 replace HX := alloc' HX hn hg
 clear hn hg
 refine skipd HX ?_ ?_ (by rfl) (by rfl) (by decide)
 ·
  clear HX; intro w2 h3 HX
  go_wp2_with fail
  refine callrowd HX (some_str enters57 tick_step ⟨#[44]⟩ n) (fun _ h => ⟨rfl, h⟩) ?_; clear HX; intro w4 q5 x_l a_l c_l h6 HX
  go_wp2_with fail
  refine mustd HX (fun _ h => ⟨rfl, h⟩) ?_; clear HX; intro w7 h8 HX
  go_wp2_with fail
  go_ret
  exact retrd HX ((rw' 0 HX rfl))
 ·
  clear HX; intro w9 HX
  go_wp2_with fail
  refine nextd HX ?_; clear HX; intro w10 kt_t st_t mt_t qt_t HT_t HX
  go_wp2_with fail
  simp only [field49_0]
  by_cases hk3_t : kt_t = 3
  ·
   replace HX := posd HX hk3_t
   have D3_t := kq (k := kt_t) (z := 3) (by omega)
   go_wp2_with fail
   refine calltd HX (tick_step) (fun _ h => ⟨rfl, h⟩) ?_; clear HX; intro w11 q12 st_a h13 HX
   go_upto_region 6 with fail
   generalize hn : w11.alloc _ = w14
   generalize hg : w11.heap.size = g_arr
   replace HX := alloc' HX hn hg
   clear hn hg
   replace HX := str' HX
   go_wp2_with fail
   go_ret
   exact retrd HX ((one' 0 1 HX rfl rfl rfl (by decide)))
  ·
   replace HX := negd HX hk3_t
   have D3_t := kn' (k := kt_t) (z := 3) (by omega)
   go_wp2_with fail
   go_ret
   exact retrd HX (hx_nil _)
theorem vars_step {gp : Nat} {a : Option Addr} {c : Nat} {l : List Tok} {g : Gr} {n : Nat} (h : Oks gp a c l g) : CT gp a c l 27 [] (rowE 1 (fun s => [xb s])) (Gr.pVars n) := vars_step' (v := ⟨gp, a, c, l⟩) h
end Go.Proofs.YtjabhmepafofmaaGreatDoor
