/- Pa -/
import Derived.Test.YtjabhmepafofmaaGreatDoorH20
set_option linter.unusedVariables false
set_option linter.unusedSimpArgs false
namespace Go.Proofs.YtjabhmepafofmaaGreatDoor
open Go.RowKit
set_option maxHeartbeats 8000000 in
set_option maxRecDepth 100000 in
theorem parse_any {a : Option Addr} {c : Nat} {l : List Tok} {w : World} (n M : Nat) (hrow : ∀ gp, w.heap.size ≤ gp → TokRow w gp a l ∧ Lev w gp) (hlen : l.length ≤ 1048576) (ho : progR l (gram n) M [] 0 ≠ .out) :
  Calls Tryz.prog 6 #[.slice a l.length c] w (ParseR w (progR l (gram n) M [] 0)) := by
 have hmf : ∀ (fn : Fn) (first cap : Array Value) (w : World), (Instr.makeFunc fn first cap).run Tryz.prog w = .ok (.func fn first cap) w := fun _ _ _ _ => rfl
 have HO := Lib.hid ho
 have HRW := Lib.hid hrow
 have HF : Hid (Fr No w w) := Lib.hid (Fr.refl _ _)
 have hq_0 : 0 ≤ l.length := Nat.zero_le _
 obtain ⟨V, hV⟩ : ∃ V, progR l (gram n) M [] 0 = V := ⟨_, rfl⟩
 rw [hV] at HO ⊢
 have HV := Lib.hid hV
 clear ho hV hrow
 go_enter_defers Tryz.func6, Tryz.ntmps6
 go_wp2_with fail
 generalize hn : w.alloc _ = w6
 generalize hg : w.heap.size = g_o
 have HS := fa hn
 have R_o := nb hn hg
 have hsz_o : w6.heap.size = g_o + 1 := by rw [← hn, ← hg]; exact alloc_size _ _
 have B_o := bs hg HF
 clear hn hg
 replace HF := Lib.hid (HF.out.then HS.out)
 clear HS
 obtain ⟨w7, hn⟩ : ∃ wZ, w6.alloc (.cells #[.int .i64 0] 3) = wZ := ⟨_, rfl⟩
 obtain ⟨g_a, hg⟩ : ∃ gZ, w6.heap.size = gZ := ⟨_, rfl⟩
 rw [hn, hsz_o.symm.trans hg]
 clear hsz_o
 have HS := fa hn
 have R_a := nb hn hg
 have hsz_a : w7.heap.size = g_a + 1 := by rw [← hn, ← hg]; exact alloc_size _ _
 have L_o_a := lb hg R_o
 have B_a := bs hg HF
 clear hn hg
 replace R_o := kn HS R_o
 replace HF := Lib.hid (HF.out.then HS.out)
 clear HS
 obtain ⟨w8, hn⟩ : ∃ wZ, w7.alloc (.cells #[.int .i64 0] 26) = wZ := ⟨_, rfl⟩
 obtain ⟨g_e, hg⟩ : ∃ gZ, w7.heap.size = gZ := ⟨_, rfl⟩
 rw [hn, hsz_a.symm.trans hg]
 clear hsz_a
 have HS := fa hn
 have R_e := nb hn hg
 have hsz_e : w8.heap.size = g_e + 1 := by rw [← hn, ← hg]; exact alloc_size _ _
 have L_o_e := lb hg R_o
 have L_a_e := lb hg R_a
 have B_e := bs hg HF
 clear hn hg
 replace R_o := kn HS R_o
 replace R_a := kn HS R_a
 replace HF := Lib.hid (HF.out.then HS.out)
 clear HS
 obtain ⟨w9, hn⟩ : ∃ wZ, w8.alloc (.cells #[.slice a l.length c, .int .i64 0] 49) = wZ := ⟨_, rfl⟩
 obtain ⟨gp, hg⟩ : ∃ gZ, w8.heap.size = gZ := ⟨_, rfl⟩
 rw [hn, hsz_e.symm.trans hg]
 clear hsz_e
 have HS := fa hn
 have R_gp := nb hn hg
 have hsz_gp : w9.heap.size = gp + 1 := by rw [← hn, ← hg]; exact alloc_size _ _
 have L_o_gp := lb hg R_o
 have L_a_gp := lb hg R_a
 have L_e_gp := lb hg R_e
 have B_gp := bs hg HF
 clear hn hg
 replace R_o := kn HS R_o
 replace R_a := kn HS R_a
 replace R_e := kn HS R_e
 replace HF := Lib.hid (HF.out.then HS.out)
 clear HS
 obtain ⟨w10, hn⟩ : ∃ wZ, w9.alloc (.cells #[.pointer (some ⟨gp, 0, none⟩)] 47) = wZ := ⟨_, rfl⟩
 obtain ⟨g_x, hg⟩ : ∃ gZ, w9.heap.size = gZ := ⟨_, rfl⟩
 rw [hn, hsz_gp.symm.trans hg]
 clear hsz_gp
 have HS := fa hn
 have R_x := nb hn hg
 have L_o_x := lb hg R_o
 have L_a_x := lb hg R_a
 have L_e_x := lb hg R_e
 have L_gp_x := lb hg R_gp
 have B_x := bs hg HF
 clear hn hg
 replace R_o := kn HS R_o
 replace R_a := kn HS R_a
 replace R_e := kn HS R_e
 replace R_gp := kn HS R_gp
 replace HF := Lib.hid (HF.out.then HS.out)
 clear HS
 replace R_gp : Hid (w10.heap[gp]? = some (.cells #[.slice a l.length c, .int .i64 ((0 : Nat) : Int)] 49 (0, 0))) := R_gp
 have HROW := Lib.hid (HRW.out gp B_gp).1
 have HLEV := Lib.hid (HRW.out gp B_gp).2
 have HH := Lib.hid (oks gp a c l n)
 clear HRW
 replace HF : Hid (Fr (Just gp) w w10) := Lib.hid (HF.out.just gp)
 have O_k : Hid (OutG RX 46 16 (fun b => w.heap.size ≤ b ∧ b ≠ gp ∧ b ≠ g_o ∧ b ≠ g_a ∧ b ≠ g_e ∧ b ≠ g_x) w.heap.size w10 (.slice none 0 0) 0 (([] : List D).map xD)) := Lib.hid (OutG.nil _ _ _)
 go_loopw [] (fun wx => ∃ (q j m : Nat) (acc : List D) (av : Option Addr) (cv : Nat), q ≤ l.length ∧ posOf gp wx = q ∧ m ≤ q ∧ Hid (OutG RX 46 16 (fun b => w.heap.size ≤ b ∧ b ≠ gp ∧ b ≠ g_o ∧ b ≠ g_a ∧ b ≠ g_e ∧ b ≠ g_x) w.heap.size wx (.slice av m cv) m (acc.map xD)) ∧ Hid (wx.heap[g_o]? = some (.cells #[.slice av m cv] 25 (0, 0))) ∧ Hid (wx.heap[g_a]? = some (.cells #[.int .i64 0] 3 (0, 0))) ∧ Hid (wx.heap[g_e]? = some (.cells #[.int .i64 0] 26 (0, 0))) ∧ Hid (wx.heap[g_x]? = some (.cells #[.pointer (some ⟨gp, 0, none⟩)] 47 (0, 0))) ∧ Hid (Av (.slice av m cv) gp) ∧ Hid (Av (.slice av m cv) g_o) ∧ Hid (Av (.slice av m cv) g_a) ∧ Hid (Av (.slice av m cv) g_e) ∧ Hid (Av (.slice av m cv) g_x) ∧ Hid (wx.heap[gp]? = some (.cells #[.slice a l.length c, .int .i64 (q : Nat)] 49 (0, 0))) ∧ Hid (Fr (Just gp) w wx) ∧ Hid (progR l (gram n) j acc q = V)) (fun wx => l.length - posOf gp wx)
 case atStart => exact ⟨0, M, 0, [], _, _, hq_0, posOf_at R_gp.out, Nat.le_refl _, O_k, R_o, R_a, R_e, R_x, Lib.hid av_none, Lib.hid av_none, Lib.hid av_none, Lib.hid av_none, Lib.hid av_none, R_gp, HF, HV⟩
 case round =>
  clear O_k R_o R_a R_e R_x R_gp HF HV
  obtain ⟨q, j, m, acc, av, cv, hq_q, hpq, hmq, O_k, R_o, R_a, R_e, R_x, A_gp, A_o, A_a, A_e, A_x, R_gp, HF, HV⟩ := hrel
  obtain ⟨wL, hwL⟩ : ∃ wL, wL = wr := ⟨wr, rfl⟩
  rw [← hwL] at O_k R_o R_a R_e R_x R_gp HF ⊢
  try rw [← hwL] at hpq
  clear hwL
  have hv := HV.out
  cases j with
  | zero => exact absurd hv.symm HO.out
  | succ j =>
   obtain ⟨NL, hNL⟩ : ∃ NL, l.length = NL := ⟨_, rfl⟩
   by_cases hlt : q < l.length
   ·
    simp only [progR, if_pos hlt, run_must, Re.andThen] at hv
    replace HV := Lib.hid hv
    clear hv hNL
    have hd0 : decide ((q : Int) < (l.length : Int)) = true := decide_eq_true (by omega)
    have hd1 : decide (q < l.length) = true := decide_eq_true hlt
    have d0_x : wL.cell? ⟨g_x, 0, none⟩ = some (.pointer (some ⟨gp, 0, none⟩)) := cell_of R_x.out 0
    have f0_x : wL.frozen? ⟨g_x, 0, none⟩ = false := free_of R_x.out 0
    have d0_gp : wL.cell? ⟨gp, 0, none⟩ = some (.slice a l.length c) := cell_of R_gp.out 0
    have f0_gp : wL.frozen? ⟨gp, 0, none⟩ = false := free_of R_gp.out 0
    have d1_gp : wL.cell? ⟨gp, 1, none⟩ = some (.int .i64 (q : Nat)) := cell_of R_gp.out 1
    have f1_gp : wL.frozen? ⟨gp, 1, none⟩ = false := free_of R_gp.out 1
    go_upto_region 4 with fail
    clear d0_x f0_x
    clear d0_gp f0_gp d1_gp f1_gp
    refine region_e (fun w' => w'.cell? ⟨g_o, 0, none⟩ = some (.slice av m cv) ∧ w'.cell? ⟨g_x, 0, none⟩ = some (.pointer (some ⟨gp, 0, none⟩))) [6, 7, 8] (by kernel_rfl) ?_ (fun hHeld => ?_)
    · exact ⟨cell_of ((Fr.drew wL).keeps R_o.out no_one) 0, cell_of ((Fr.drew wL).keeps R_x.out no_one) 0⟩
    obtain ⟨w11, hwd⟩ : ∃ wZ, wZ = wL.drew := ⟨_, rfl⟩
    have HS : Hid (Fr No wL w11) := Lib.hid (by rw [hwd]; exact Fr.drew _)
    rw [← hwd] at hHeld ⊢
    clear hwd
    replace R_o := kn HS R_o
    replace R_a := kn HS R_a
    replace R_e := kn HS R_e
    replace R_x := kn HS R_x
    replace R_gp := kn HS R_gp
    replace O_k := on HS O_k
    replace HF := fn HF HS
    clear HS
    refine take_op 0 (some 17) (Op.load 25 ( .tmp 2)) 25 ?_ (by kernel_rfl) (by kernel_rfl) (by kernel_rfl) (fun _ _ _ h => panic_put (by decide) (by decide) (by decide) h) ?_ (by assumption) ?_
    rotate_left
    · intro w hSw; (try dsimp only at hSw); go_simp; (try (with_reducible rfl))
    try simp only [Act.put, List.setIfInBounds_toArray, List.set_cons_zero, List.set_cons_succ]
    refine take_op 1 (some 18) (Op.load 47 ( .tmp 5)) 47 ?_ (by kernel_rfl) (by kernel_rfl) (by kernel_rfl) (fun _ _ _ h => panic_put (by decide) (by decide) (by decide) h) ?_ (by assumption) ?_
    rotate_left
    · intro w hSw; (try dsimp only at hSw); go_simp; (try (with_reducible rfl))
    try simp only [Act.put, List.setIfInBounds_toArray, List.set_cons_zero, List.set_cons_succ]
    refine take_op 3 (some 20) (Op.call { callee := Callee.builtin Builtin.len, args := #[ .tmp 17], argTypes := #[25] }) 3 ?_ (by kernel_rfl) (by kernel_rfl) (by kernel_rfl) (fun _ _ _ h => panic_put (by decide) (by decide) (by decide) h) ?_ (by assumption) ?_
    rotate_left
    · intro w hSw; (try dsimp only at hSw); go_simp; (try (with_reducible rfl))
    try simp only [Act.put, List.setIfInBounds_toArray, List.set_cons_zero, List.set_cons_succ]
    refine ready_e (rs := [2, 4]) (by kernel_rfl) (by simp) ?_
    refine (do_mid (o := _) rfl (fun K hK => ?_) (do_mid (o := _) rfl (fun K hK => ?_) none_e))
    ·
     go_simp
     go_at_call 12
     cases hr_d : Pr.run l ((gram n).dec true) q with
     | out =>
      simp only [hr_d, Re.andThen, run_bind, run_skip, run_must, run_take, Pr.run, next, if_true, if_false, Bool.false_eq_true] at HV
      exact absurd HV.out.symm HO.out
     | fail q =>
      simp only [hr_d, Re.andThen, run_bind, run_skip, run_must, run_take, Pr.run, next, if_true, if_false, Bool.false_eq_true] at HV
      refine ((HH.out.dec true).bad (par_mk HROW.out HLEV.out hlen HF.out R_gp.out hq_q) hr_d).mono ?_
      rintro e w12 ⟨rfl, hf, hp⟩
      have hv := HV.out
      subst hv
      have HS := Lib.hid hf
      have RG := Lib.hid hp.blk
      clear hf hp
      replace R_o := kj HS R_o (by omega)
      replace R_a := kj HS R_a (by omega)
      replace R_e := kj HS R_e (by omega)
      replace R_x := kj HS R_x (by omega)
      replace O_k := Lib.hid (O_k.out.keep keptX HS.out (fun b hb (h : b = gp) => by have := hb.2; omega) (fun b hb (h : b = gp) => A_gp.out (by rw [← h]; exact hb)))
      replace HF := ft HF HS
      replace R_gp := RG
      clear HS RG
      refine leaves_cons (f := 11) (args := #[.pointer (some ⟨g_x, 0, none⟩), .pointer (some ⟨g_o, 0, none⟩), .pointer (some ⟨g_a, 0, none⟩), .pointer (some ⟨g_e, 0, none⟩)]) (by simp) (by simp [go_sem]) ?_
      refine (catch_any g_x gp g_o g_a g_e _ _ _ _ _ _ _ _ R_x.out R_gp.out R_o.out R_a.out R_e.out (by omega) (by omega)).mono ?_
      rintro e u' wf ⟨rfl, rfl, hff, c2, c3, c4⟩
      have HFF := Lib.hid hff
      clear hff
      simp [Leaves, settle, results, Tryz.results9, go_sem, c2, c3, c4]
      exact ⟨rfl, HF.out.own3 HFF.out (by omega) (by omega) (by omega) (by omega)⟩
     | ok x_d q13 =>
      simp only [hr_d, Re.andThen, run_bind, run_skip, run_must, run_take, Pr.run, next, if_true, if_false, Bool.false_eq_true] at HV
      have hsz_d : gp < w11.heap.size := lt_of_block R_gp.out
      obtain ⟨b_d, hB⟩ : ∃ bZ, w11.heap.size = bZ := ⟨_, rfl⟩
      have K_o_d := lb hB R_o
      have K_a_d := lb hB R_a
      have K_e_d := lb hB R_e
      have K_x_d := lb hB R_x
      have K_gp_d := lb hB R_gp
      have KB_d := bs hB HF
      clear hsz_d
      have OB_k_d : Hid (∀ b, (Value.slice av m cv).ownBlock = some b → b < b_d) := Lib.hid (fun bb hbb => by rw [← hB]; exact (O_k.out.block hbb).2)
      refine ((HH.out.dec true).good (par_mk HROW.out HLEV.out hlen HF.out R_gp.out hq_q) hr_d).mono ?_
      rintro e w14 ⟨⟨cs_d, rfl, hc⟩, hf, hp⟩
      rw [hB] at hc
      clear hB
      obtain ⟨h_d, hH⟩ : ∃ hZ, w14.heap.size = hZ := ⟨_, rfl⟩
      have I_d := im hH hc
      have Z_h_d : h_d ≤ w14.heap.size := Nat.le_of_eq hH.symm
      clear hc hH
      have HS := Lib.hid hf
      have RG := Lib.hid hp.blk
      have hq_q13 := hp.le
      clear hf hp
      replace R_o := kj HS R_o (by omega)
      replace R_a := kj HS R_a (by omega)
      replace R_e := kj HS R_e (by omega)
      replace R_x := kj HS R_x (by omega)
      replace O_k := Lib.hid (O_k.out.keep keptX HS.out (fun b hb (h : b = gp) => by have := hb.2; omega) (fun b hb (h : b = gp) => A_gp.out (by rw [← h]; exact hb)))
      replace HF := ft HF HS
      replace R_gp := RG
      clear HS RG
      have hmono := run_mono l _ _ _ _ hr_d
      obtain ⟨z0_d, z_d, p1_d, q1_d, r1_d, p2_d, q2_d, r2_d, p3_d, q3_d, r3_d, k_d, s_d, n_d, a_d, m_d, c_d, ek_d, es_d, en_d, eu_d, ea1_d, em1_d, ec1_d, ea2_d, em2_d, ec2_d, ea3_d, em3_d, ec3_d, ecs⟩ := hcD I_d.out
      subst ecs
      refine hK.out _ _ ?_ (fun hHeld => ?_)
      · exact ⟨cell_of R_o.out 0, cell_of R_x.out 0⟩
      clear hK K
      try dsimp only
      try simp only [Act.put, List.setIfInBounds_toArray, List.set_cons_zero, List.set_cons_succ]
      refine ready_e (rs := [4]) (by kernel_rfl) (by simp) ?_
      refine (do_mid (o := _) rfl (fun K hK => ?_) none_e)
      go_simp
      generalize hn : w14.alloc _ = w15
      generalize hg : w14.heap.size = g_one
      have HS := fa hn
      have R_one := nb hn hg
      have L_o_one := lb hg R_o
      have L_a_one := lb hg R_a
      have L_e_one := lb hg R_e
      have L_x_one := lb hg R_x
      have L_gp_one := lb hg R_gp
      have B_one := bs hg HF
      have M_h_d_one := mz hg Z_h_d
      clear hn hg
      replace R_o := kn HS R_o
      replace R_a := kn HS R_a
      replace R_e := kn HS R_e
      replace R_x := kn HS R_x
      replace R_gp := kn HS R_gp
      replace I_d := Lib.hid (I_d.out.fr HS.out (fun _ _ => no_one))
      replace O_k := on HS O_k
      replace HF := fn HF HS
      replace Z_h_d := zt Z_h_d HS
      clear HS
      refine hK.out _ _ ?_ (fun hHeld => ?_)
      · exact ⟨cell_of R_o.out 0, cell_of R_x.out 0⟩
      clear hK K
      try dsimp only
      try simp only [Act.put, List.setIfInBounds_toArray, List.set_cons_zero, List.set_cons_succ]
      refine ready_e (rs := [5]) (by kernel_rfl) (by simp) ?_
      refine (do_mid (o := _) rfl (fun K hK => ?_) none_e)
      refine step_half elemD rfl _ _ 25 rfl Tryz.underlying25 (fun b => w.heap.size ≤ b ∧ b ≠ gp ∧ b ≠ g_o ∧ b ≠ g_a ∧ b ≠ g_e ∧ b ≠ g_x) w.heap.size (.slice av m cv) m (acc.map xD) rfl O_k.out _ [.int .u8 0, .string ⟨#[]⟩, .slice none 0 0, .slice none 0 0, .slice none 0 0, .int .u8 0, .string ⟨#[]⟩, .int .i64 0, .slice none 0 0, .int .u8 0, .string ⟨#[]⟩, .int .i64 0, .string ⟨#[]⟩, .slice none 0 0, .slice none 0 0, .slice none 0 0] 46 rfl R_one.out (by simp [Value.oneCell']) rfl (by unfold maxLen; omega) (by omega) HF.out.size ?_
      intro g_n c_n wn16 H_k HGN
      clear R_one O_k
      have A_o' := Lib.hid (HGN.out.avs R_o.out A_o.out)
      replace R_o := Lib.hid (HGN.out.keeps R_o.out A_o.out)
      have A_o := A_o'
      clear A_o'
      have A_a' := Lib.hid (HGN.out.avs R_a.out A_a.out)
      replace R_a := Lib.hid (HGN.out.keeps R_a.out A_a.out)
      have A_a := A_a'
      clear A_a'
      have A_e' := Lib.hid (HGN.out.avs R_e.out A_e.out)
      replace R_e := Lib.hid (HGN.out.keeps R_e.out A_e.out)
      have A_e := A_e'
      clear A_e'
      have A_x' := Lib.hid (HGN.out.avs R_x.out A_x.out)
      replace R_x := Lib.hid (HGN.out.keeps R_x.out A_x.out)
      have A_x := A_x'
      clear A_x'
      have A_gp' := Lib.hid (HGN.out.avs R_gp.out A_gp.out)
      replace R_gp := Lib.hid (HGN.out.keeps R_gp.out A_gp.out)
      have A_gp := A_gp'
      clear A_gp'
      replace I_d := Lib.hid (Hc.keep (ok' := fun b => (fun b => w.heap.size ≤ b ∧ b ≠ gp ∧ b ≠ g_o ∧ b ≠ g_a ∧ b ≠ g_e ∧ b ≠ g_x) b ∧ b ≠ g_n) (fun b hb hk => by
       have hv := HGN.out.av b hb (fun eb => by have := OB_k_d.out b eb; have := hk.1; omega)
       exact ⟨hv.1, ⟨by have := hk.1; omega, by have := hk.1; omega, by have := hk.1; omega, by have := hk.1; omega, by have := hk.1; omega, by have := hk.1; omega⟩, av_of hv.2⟩) _ _ I_d.out)
      have B_n : w.heap.size ≤ g_n := H_k.out.ex.2.1
      replace HF := Lib.hid (HF.out.trans HGN.out.fr (fun i hi hb => by have hb : w.heap.size ≤ i := hb; omega))
      replace Z_h_d := Nat.le_trans Z_h_d HGN.out.fr.size
      have hix : ((m : Nat) : Int) < (m : Int) + 1 := by omega
      have hix0 : (0 : Int) ≤ (m : Int) := by omega
      clear HGN
      refine hK.out _ _ ?_ (fun hHeld => ?_)
      · exact ⟨cell_of R_o.out 0, cell_of R_x.out 0⟩
      clear hK K
      try dsimp only
      try simp only [Act.put, List.setIfInBounds_toArray, List.set_cons_zero, List.set_cons_succ]
      have d0_o : wn16.cell? ⟨g_o, 0, none⟩ = some (.slice av m cv) := cell_of R_o.out 0
      have f0_o : wn16.frozen? ⟨g_o, 0, none⟩ = false := free_of R_o.out 0
      refine ready_e (rs := [6, 8]) (by kernel_rfl) (by simp) ?_
      refine (do_late (o := _) rfl (by kernel_rfl) (fun K hK => ?_) (do_late (o := _) rfl (by kernel_rfl) (fun K hK => ?_) none_e))
      ·
       go_simp
       clear d0_o f0_o
       refine hK.out _ _ ?_
       clear hK K
       try dsimp only
       try simp only [Act.put, List.setIfInBounds_toArray, List.set_cons_zero, List.set_cons_succ]
       have d0_o : wn16.cell? ⟨g_o, 0, none⟩ = some (.slice av m cv) := cell_of R_o.out 0
       have f0_o : wn16.frozen? ⟨g_o, 0, none⟩ = false := free_of R_o.out 0
       refine ready_e (rs := [7, 8]) (by kernel_rfl) (by simp) ?_
       refine (do_late (o := _) rfl (by kernel_rfl) (fun K hK => ?_) (do_late (o := _) rfl (by kernel_rfl) (fun K hK => ?_) none_e))
       ·
        clear d0_o f0_o
        obtain ⟨hth, hO, hfO⟩ := H_k.out.fill (c := [.int .u8 z0_d, .string z_d, .slice p1_d q1_d r1_d, .slice p2_d q2_d r2_d, .slice p3_d q3_d r3_d, .int .u8 k_d, .string s_d, .int .i64 n_d, .slice a_d m_d c_d, .int .u8 ek_d, .string es_d, .int .i64 en_d, .string eu_d, .slice ea1_d em1_d ec1_d, .slice ea2_d em2_d ec2_d, .slice ea3_d em3_d ec3_d]) rfl I_d.out
        refine step_store16 rfl rfl _ _ rfl g_n (m * 16) _ rfl rfl rfl hth (by simp [Value.oneCell']) ?_
        obtain ⟨w17, hn⟩ : ∃ wZ, wn16.setCells g_n (m * 16) (List.toArray [.int .u8 z0_d, .string z_d, .slice p1_d q1_d r1_d, .slice p2_d q2_d r2_d, .slice p3_d q3_d r3_d, .int .u8 k_d, .string s_d, .int .i64 n_d, .slice a_d m_d c_d, .int .u8 ek_d, .string es_d, .int .i64 en_d, .string eu_d, .slice ea1_d em1_d ec1_d, .slice ea2_d em2_d ec2_d, .slice ea3_d em3_d ec3_d]).toList = wZ := ⟨_, rfl⟩
        rw [hn]
        have O_k : Hid (OutG RX 46 16 (fun b => w.heap.size ≤ b ∧ b ≠ gp ∧ b ≠ g_o ∧ b ≠ g_a ∧ b ≠ g_e ∧ b ≠ g_x) w.heap.size w17 (.slice (some ⟨g_n, 0, none⟩) (m + 1) c_n) (m + 1) ((acc ++ [x_d]).map xD)) := Lib.hid (by rw [← hn, List.map_append]; exact hO)
        have HS : Hid (Fr (Just g_n) wn16 w17) := Lib.hid (by rw [← hn]; exact hfO)
        clear hn hO hfO hth H_k I_d
        replace R_o := Lib.hid (HS.out.keeps R_o.out (fun (h : g_o = g_n) => av_of A_o.out h))
        replace R_a := Lib.hid (HS.out.keeps R_a.out (fun (h : g_a = g_n) => av_of A_a.out h))
        replace R_e := Lib.hid (HS.out.keeps R_e.out (fun (h : g_e = g_n) => av_of A_e.out h))
        replace R_x := Lib.hid (HS.out.keeps R_x.out (fun (h : g_x = g_n) => av_of A_x.out h))
        replace R_gp := Lib.hid (HS.out.keeps R_gp.out (fun (h : gp = g_n) => av_of A_gp.out h))
        replace HF := fb HF HS (by omega)
        replace Z_h_d := zt Z_h_d HS
        clear HS
        refine hK.out _ _ ?_
        clear hK K
        try dsimp only
        try simp only [Act.put, List.setIfInBounds_toArray, List.set_cons_zero, List.set_cons_succ]
        have d0_o : w17.cell? ⟨g_o, 0, none⟩ = some (.slice av m cv) := cell_of R_o.out 0
        have f0_o : w17.frozen? ⟨g_o, 0, none⟩ = false := free_of R_o.out 0
        refine ready_e (rs := [8]) (by kernel_rfl) (by simp) ?_
        refine (do_late (o := _) rfl (by kernel_rfl) (fun K hK => ?_) none_e)
        go_simp
        clear d0_o f0_o
        obtain ⟨w18, hn⟩ : ∃ wZ, setFrom g_o 0 [.slice (some ⟨g_n, 0, none⟩) (m + 1) c_n] w17 = wZ := ⟨_, rfl⟩
        have R_o' := sf hn R_o rfl
        have HS := sg hn
        have he := hn
        simp only [setFrom, Nat.reduceAdd] at he
        rw [he]
        clear he
        clear hn
        replace R_a := kj HS R_a (by omega)
        replace R_e := kj HS R_e (by omega)
        replace R_x := kj HS R_x (by omega)
        replace R_gp := kj HS R_gp (by omega)
        replace O_k := Lib.hid (O_k.out.keep keptX HS.out (fun b hb (h : b = g_o) => by have := hb.2; omega) (fun b hb (h : b = g_o) => A_o.out (by rw [← h]; exact hb)))
        replace HF := fb HF HS (by omega)
        replace Z_h_d := zt Z_h_d HS
        have R_o := R_o'
        clear R_o' HS
        refine hK.out _ _ ?_
        clear hK K
        try dsimp only
        try simp only [Act.put, List.setIfInBounds_toArray, List.set_cons_zero, List.set_cons_succ]
        refine done_e (by kernel_rfl) ?_ _
        (try simp only [Exit.inBlock, Exit.then])
        have d0_x : w18.cell? ⟨g_x, 0, none⟩ = some (.pointer (some ⟨gp, 0, none⟩)) := cell_of R_x.out 0
        have f0_x : w18.frozen? ⟨g_x, 0, none⟩ = false := free_of R_x.out 0
        go_wp2_with fail
        clear d0_x f0_x
        cases hm_se : seesB (l.getD q13 zTok) [⟨#[59]⟩] with
        | false =>
         simp only [hm_se, Re.andThen, run_bind, run_skip, run_must, run_take, Pr.run, next, if_true, if_false, Bool.false_eq_true] at HV
         refine (must_bad (par_mk HROW.out HLEV.out hlen HF.out R_gp.out hq_q13) hm_se).mono ?_
         rintro e w19 ⟨rfl, hf, hp⟩
         have hv := HV.out
         subst hv
         have HS := Lib.hid hf
         have RG := Lib.hid hp.blk
         clear hf hp
         replace R_o := kj HS R_o (by omega)
         replace R_a := kj HS R_a (by omega)
         replace R_e := kj HS R_e (by omega)
         replace R_x := kj HS R_x (by omega)
         replace O_k := Lib.hid (O_k.out.keep keptX HS.out (fun b hb (h : b = gp) => by have := hb.2; omega) (fun b hb (h : b = gp) => A_gp.out (by rw [← h]; exact hb)))
         replace HF := ft HF HS
         replace Z_h_d := zt Z_h_d HS
         replace R_gp := RG
         clear HS RG
         refine leaves_cons (f := 11) (args := #[.pointer (some ⟨g_x, 0, none⟩), .pointer (some ⟨g_o, 0, none⟩), .pointer (some ⟨g_a, 0, none⟩), .pointer (some ⟨g_e, 0, none⟩)]) (by simp) (by simp [go_sem]) ?_
         refine (catch_any g_x gp g_o g_a g_e _ _ _ _ _ _ _ _ R_x.out R_gp.out R_o.out R_a.out R_e.out (by omega) (by omega)).mono ?_
         rintro e u' wf ⟨rfl, rfl, hff, c2, c3, c4⟩
         have HFF := Lib.hid hff
         clear hff
         simp [Leaves, settle, results, Tryz.results9, go_sem, c2, c3, c4]
         exact ⟨rfl, HF.out.own3 HFF.out (by omega) (by omega) (by omega) (by omega)⟩
        | true =>
         simp only [hm_se, Re.andThen, run_bind, run_skip, run_must, run_take, Pr.run, next, if_true, if_false, Bool.false_eq_true] at HV
         refine (must_good (par_mk HROW.out HLEV.out hlen HF.out R_gp.out hq_q13) hm_se).mono ?_
         rintro e w20 ⟨rfl, hf, hp⟩
         have HS := Lib.hid hf
         have RG := Lib.hid hp.blk
         have hq_q13P1 := hp.le
         clear hf hp
         replace R_o := kj HS R_o (by omega)
         replace R_a := kj HS R_a (by omega)
         replace R_e := kj HS R_e (by omega)
         replace R_x := kj HS R_x (by omega)
         replace O_k := Lib.hid (O_k.out.keep keptX HS.out (fun b hb (h : b = gp) => by have := hb.2; omega) (fun b hb (h : b = gp) => A_gp.out (by rw [← h]; exact hb)))
         replace HF := ft HF HS
         replace Z_h_d := zt Z_h_d HS
         replace R_gp := RG
         clear HS RG
         go_wp2_with fail
         exact ⟨⟨(q13 + 1), j, m + 1, acc ++ [x_d], _, _, hq_q13P1, posOf_at R_gp.out, by omega, O_k, R_o, R_a, R_e, R_x, A_gp, A_o, A_a, A_e, A_x, R_gp, HF, HV⟩, by rw [posOf_at R_gp.out, hpq]; omega⟩
       ·
        go_simp
        clear d0_o f0_o
        obtain ⟨w21, hn⟩ : ∃ wZ, setFrom g_o 0 [.slice (some ⟨g_n, 0, none⟩) (m + 1) c_n] wn16 = wZ := ⟨_, rfl⟩
        have R_o' := sf hn R_o rfl
        have HS := sg hn
        have he := hn
        simp only [setFrom, Nat.reduceAdd] at he
        rw [he]
        clear he
        clear hn
        replace R_a := kj HS R_a (by omega)
        replace R_e := kj HS R_e (by omega)
        replace R_x := kj HS R_x (by omega)
        replace R_gp := kj HS R_gp (by omega)
        replace I_d := Lib.hid (I_d.out.fr HS.out (fun b hb (h : b = g_o) => by have := hb.1; have := hb.2; omega))
        replace H_k := Lib.hid (H_k.out.keep HS.out (fun b hb (h : b = g_o) => by have := hb.2; omega) (fun (h : g_n = g_o) => av_of A_o.out h.symm))
        replace HF := fb HF HS (by omega)
        replace Z_h_d := zt Z_h_d HS
        have R_o := R_o'
        clear R_o' HS
        refine hK.out _ _ ?_
        clear hK K
        try dsimp only
        try simp only [Act.put, List.setIfInBounds_toArray, List.set_cons_zero, List.set_cons_succ]
        refine ready_e (rs := [7]) (by kernel_rfl) (by simp) ?_
        refine (do_late (o := _) rfl (by kernel_rfl) (fun K hK => ?_) none_e)
        obtain ⟨hth, hO, hfO⟩ := H_k.out.fill (c := [.int .u8 z0_d, .string z_d, .slice p1_d q1_d r1_d, .slice p2_d q2_d r2_d, .slice p3_d q3_d r3_d, .int .u8 k_d, .string s_d, .int .i64 n_d, .slice a_d m_d c_d, .int .u8 ek_d, .string es_d, .int .i64 en_d, .string eu_d, .slice ea1_d em1_d ec1_d, .slice ea2_d em2_d ec2_d, .slice ea3_d em3_d ec3_d]) rfl I_d.out
        refine step_store16 rfl rfl _ _ rfl g_n (m * 16) _ rfl rfl rfl hth (by simp [Value.oneCell']) ?_
        obtain ⟨w22, hn⟩ : ∃ wZ, w21.setCells g_n (m * 16) (List.toArray [.int .u8 z0_d, .string z_d, .slice p1_d q1_d r1_d, .slice p2_d q2_d r2_d, .slice p3_d q3_d r3_d, .int .u8 k_d, .string s_d, .int .i64 n_d, .slice a_d m_d c_d, .int .u8 ek_d, .string es_d, .int .i64 en_d, .string eu_d, .slice ea1_d em1_d ec1_d, .slice ea2_d em2_d ec2_d, .slice ea3_d em3_d ec3_d]).toList = wZ := ⟨_, rfl⟩
        rw [hn]
        have O_k : Hid (OutG RX 46 16 (fun b => w.heap.size ≤ b ∧ b ≠ gp ∧ b ≠ g_o ∧ b ≠ g_a ∧ b ≠ g_e ∧ b ≠ g_x) w.heap.size w22 (.slice (some ⟨g_n, 0, none⟩) (m + 1) c_n) (m + 1) ((acc ++ [x_d]).map xD)) := Lib.hid (by rw [← hn, List.map_append]; exact hO)
        have HS : Hid (Fr (Just g_n) w21 w22) := Lib.hid (by rw [← hn]; exact hfO)
        clear hn hO hfO hth H_k I_d
        replace R_o := Lib.hid (HS.out.keeps R_o.out (fun (h : g_o = g_n) => av_of A_o.out h))
        replace R_a := Lib.hid (HS.out.keeps R_a.out (fun (h : g_a = g_n) => av_of A_a.out h))
        replace R_e := Lib.hid (HS.out.keeps R_e.out (fun (h : g_e = g_n) => av_of A_e.out h))
        replace R_x := Lib.hid (HS.out.keeps R_x.out (fun (h : g_x = g_n) => av_of A_x.out h))
        replace R_gp := Lib.hid (HS.out.keeps R_gp.out (fun (h : gp = g_n) => av_of A_gp.out h))
        replace HF := fb HF HS (by omega)
        replace Z_h_d := zt Z_h_d HS
        clear HS
        refine hK.out _ _ ?_
        clear hK K
        try dsimp only
        try simp only [Act.put, List.setIfInBounds_toArray, List.set_cons_zero, List.set_cons_succ]
        refine done_e (by kernel_rfl) ?_ _
        (try simp only [Exit.inBlock, Exit.then])
        have d0_x : w22.cell? ⟨g_x, 0, none⟩ = some (.pointer (some ⟨gp, 0, none⟩)) := cell_of R_x.out 0
        have f0_x : w22.frozen? ⟨g_x, 0, none⟩ = false := free_of R_x.out 0
        go_wp2_with fail
        clear d0_x f0_x
        cases hm_se : seesB (l.getD q13 zTok) [⟨#[59]⟩] with
        | false =>
         simp only [hm_se, Re.andThen, run_bind, run_skip, run_must, run_take, Pr.run, next, if_true, if_false, Bool.false_eq_true] at HV
         refine (must_bad (par_mk HROW.out HLEV.out hlen HF.out R_gp.out hq_q13) hm_se).mono ?_
         rintro e w23 ⟨rfl, hf, hp⟩
         have hv := HV.out
         subst hv
         have HS := Lib.hid hf
         have RG := Lib.hid hp.blk
         clear hf hp
         replace R_o := kj HS R_o (by omega)
         replace R_a := kj HS R_a (by omega)
         replace R_e := kj HS R_e (by omega)
         replace R_x := kj HS R_x (by omega)
         replace O_k := Lib.hid (O_k.out.keep keptX HS.out (fun b hb (h : b = gp) => by have := hb.2; omega) (fun b hb (h : b = gp) => A_gp.out (by rw [← h]; exact hb)))
         replace HF := ft HF HS
         replace Z_h_d := zt Z_h_d HS
         replace R_gp := RG
         clear HS RG
         refine leaves_cons (f := 11) (args := #[.pointer (some ⟨g_x, 0, none⟩), .pointer (some ⟨g_o, 0, none⟩), .pointer (some ⟨g_a, 0, none⟩), .pointer (some ⟨g_e, 0, none⟩)]) (by simp) (by simp [go_sem]) ?_
         refine (catch_any g_x gp g_o g_a g_e _ _ _ _ _ _ _ _ R_x.out R_gp.out R_o.out R_a.out R_e.out (by omega) (by omega)).mono ?_
         rintro e u' wf ⟨rfl, rfl, hff, c2, c3, c4⟩
         have HFF := Lib.hid hff
         clear hff
         simp [Leaves, settle, results, Tryz.results9, go_sem, c2, c3, c4]
         exact ⟨rfl, HF.out.own3 HFF.out (by omega) (by omega) (by omega) (by omega)⟩
        | true =>
         simp only [hm_se, Re.andThen, run_bind, run_skip, run_must, run_take, Pr.run, next, if_true, if_false, Bool.false_eq_true] at HV
         refine (must_good (par_mk HROW.out HLEV.out hlen HF.out R_gp.out hq_q13) hm_se).mono ?_
         rintro e w24 ⟨rfl, hf, hp⟩
         have HS := Lib.hid hf
         have RG := Lib.hid hp.blk
         have hq_q13P1 := hp.le
         clear hf hp
         replace R_o := kj HS R_o (by omega)
         replace R_a := kj HS R_a (by omega)
         replace R_e := kj HS R_e (by omega)
         replace R_x := kj HS R_x (by omega)
         replace O_k := Lib.hid (O_k.out.keep keptX HS.out (fun b hb (h : b = gp) => by have := hb.2; omega) (fun b hb (h : b = gp) => A_gp.out (by rw [← h]; exact hb)))
         replace HF := ft HF HS
         replace Z_h_d := zt Z_h_d HS
         replace R_gp := RG
         clear HS RG
         go_wp2_with fail
         exact ⟨⟨(q13 + 1), j, m + 1, acc ++ [x_d], _, _, hq_q13P1, posOf_at R_gp.out, by omega, O_k, R_o, R_a, R_e, R_x, A_gp, A_o, A_a, A_e, A_x, R_gp, HF, HV⟩, by rw [posOf_at R_gp.out, hpq]; omega⟩
      ·
       go_simp
       clear d0_o f0_o
       obtain ⟨w25, hn⟩ : ∃ wZ, setFrom g_o 0 [.slice (some ⟨g_n, 0, none⟩) (m + 1) c_n] wn16 = wZ := ⟨_, rfl⟩
       have R_o' := sf hn R_o rfl
       have HS := sg hn
       have he := hn
       simp only [setFrom, Nat.reduceAdd] at he
       rw [he]
       clear he
       clear hn
       replace R_a := kj HS R_a (by omega)
       replace R_e := kj HS R_e (by omega)
       replace R_x := kj HS R_x (by omega)
       replace R_gp := kj HS R_gp (by omega)
       replace I_d := Lib.hid (I_d.out.fr HS.out (fun b hb (h : b = g_o) => by have := hb.1; have := hb.2; omega))
       replace H_k := Lib.hid (H_k.out.keep HS.out (fun b hb (h : b = g_o) => by have := hb.2; omega) (fun (h : g_n = g_o) => av_of A_o.out h.symm))
       replace HF := fb HF HS (by omega)
       replace Z_h_d := zt Z_h_d HS
       have R_o := R_o'
       clear R_o' HS
       refine hK.out _ _ ?_
       clear hK K
       try dsimp only
       try simp only [Act.put, List.setIfInBounds_toArray, List.set_cons_zero, List.set_cons_succ]
       refine ready_e (rs := [6]) (by kernel_rfl) (by simp) ?_
       refine (do_late (o := _) rfl (by kernel_rfl) (fun K hK => ?_) none_e)
       go_simp
       refine hK.out _ _ ?_
       clear hK K
       try dsimp only
       try simp only [Act.put, List.setIfInBounds_toArray, List.set_cons_zero, List.set_cons_succ]
       refine ready_e (rs := [7]) (by kernel_rfl) (by simp) ?_
       refine (do_late (o := _) rfl (by kernel_rfl) (fun K hK => ?_) none_e)
       obtain ⟨hth, hO, hfO⟩ := H_k.out.fill (c := [.int .u8 z0_d, .string z_d, .slice p1_d q1_d r1_d, .slice p2_d q2_d r2_d, .slice p3_d q3_d r3_d, .int .u8 k_d, .string s_d, .int .i64 n_d, .slice a_d m_d c_d, .int .u8 ek_d, .string es_d, .int .i64 en_d, .string eu_d, .slice ea1_d em1_d ec1_d, .slice ea2_d em2_d ec2_d, .slice ea3_d em3_d ec3_d]) rfl I_d.out
       refine step_store16 rfl rfl _ _ rfl g_n (m * 16) _ rfl rfl rfl hth (by simp [Value.oneCell']) ?_
       obtain ⟨w26, hn⟩ : ∃ wZ, w25.setCells g_n (m * 16) (List.toArray [.int .u8 z0_d, .string z_d, .slice p1_d q1_d r1_d, .slice p2_d q2_d r2_d, .slice p3_d q3_d r3_d, .int .u8 k_d, .string s_d, .int .i64 n_d, .slice a_d m_d c_d, .int .u8 ek_d, .string es_d, .int .i64 en_d, .string eu_d, .slice ea1_d em1_d ec1_d, .slice ea2_d em2_d ec2_d, .slice ea3_d em3_d ec3_d]).toList = wZ := ⟨_, rfl⟩
       rw [hn]
       have O_k : Hid (OutG RX 46 16 (fun b => w.heap.size ≤ b ∧ b ≠ gp ∧ b ≠ g_o ∧ b ≠ g_a ∧ b ≠ g_e ∧ b ≠ g_x) w.heap.size w26 (.slice (some ⟨g_n, 0, none⟩) (m + 1) c_n) (m + 1) ((acc ++ [x_d]).map xD)) := Lib.hid (by rw [← hn, List.map_append]; exact hO)
       have HS : Hid (Fr (Just g_n) w25 w26) := Lib.hid (by rw [← hn]; exact hfO)
       clear hn hO hfO hth H_k I_d
       replace R_o := Lib.hid (HS.out.keeps R_o.out (fun (h : g_o = g_n) => av_of A_o.out h))
       replace R_a := Lib.hid (HS.out.keeps R_a.out (fun (h : g_a = g_n) => av_of A_a.out h))
       replace R_e := Lib.hid (HS.out.keeps R_e.out (fun (h : g_e = g_n) => av_of A_e.out h))
       replace R_x := Lib.hid (HS.out.keeps R_x.out (fun (h : g_x = g_n) => av_of A_x.out h))
       replace R_gp := Lib.hid (HS.out.keeps R_gp.out (fun (h : gp = g_n) => av_of A_gp.out h))
       replace HF := fb HF HS (by omega)
       replace Z_h_d := zt Z_h_d HS
       clear HS
       refine hK.out _ _ ?_
       clear hK K
       try dsimp only
       try simp only [Act.put, List.setIfInBounds_toArray, List.set_cons_zero, List.set_cons_succ]
       refine done_e (by kernel_rfl) ?_ _
       (try simp only [Exit.inBlock, Exit.then])
       have d0_x : w26.cell? ⟨g_x, 0, none⟩ = some (.pointer (some ⟨gp, 0, none⟩)) := cell_of R_x.out 0
       have f0_x : w26.frozen? ⟨g_x, 0, none⟩ = false := free_of R_x.out 0
       go_wp2_with fail
       clear d0_x f0_x
       cases hm_se : seesB (l.getD q13 zTok) [⟨#[59]⟩] with
       | false =>
        simp only [hm_se, Re.andThen, run_bind, run_skip, run_must, run_take, Pr.run, next, if_true, if_false, Bool.false_eq_true] at HV
        refine (must_bad (par_mk HROW.out HLEV.out hlen HF.out R_gp.out hq_q13) hm_se).mono ?_
        rintro e w27 ⟨rfl, hf, hp⟩
        have hv := HV.out
        subst hv
        have HS := Lib.hid hf
        have RG := Lib.hid hp.blk
        clear hf hp
        replace R_o := kj HS R_o (by omega)
        replace R_a := kj HS R_a (by omega)
        replace R_e := kj HS R_e (by omega)
        replace R_x := kj HS R_x (by omega)
        replace O_k := Lib.hid (O_k.out.keep keptX HS.out (fun b hb (h : b = gp) => by have := hb.2; omega) (fun b hb (h : b = gp) => A_gp.out (by rw [← h]; exact hb)))
        replace HF := ft HF HS
        replace Z_h_d := zt Z_h_d HS
        replace R_gp := RG
        clear HS RG
        refine leaves_cons (f := 11) (args := #[.pointer (some ⟨g_x, 0, none⟩), .pointer (some ⟨g_o, 0, none⟩), .pointer (some ⟨g_a, 0, none⟩), .pointer (some ⟨g_e, 0, none⟩)]) (by simp) (by simp [go_sem]) ?_
        refine (catch_any g_x gp g_o g_a g_e _ _ _ _ _ _ _ _ R_x.out R_gp.out R_o.out R_a.out R_e.out (by omega) (by omega)).mono ?_
        rintro e u' wf ⟨rfl, rfl, hff, c2, c3, c4⟩
        have HFF := Lib.hid hff
        clear hff
        simp [Leaves, settle, results, Tryz.results9, go_sem, c2, c3, c4]
        exact ⟨rfl, HF.out.own3 HFF.out (by omega) (by omega) (by omega) (by omega)⟩
       | true =>
        simp only [hm_se, Re.andThen, run_bind, run_skip, run_must, run_take, Pr.run, next, if_true, if_false, Bool.false_eq_true] at HV
        refine (must_good (par_mk HROW.out HLEV.out hlen HF.out R_gp.out hq_q13) hm_se).mono ?_
        rintro e w28 ⟨rfl, hf, hp⟩
        have HS := Lib.hid hf
        have RG := Lib.hid hp.blk
        have hq_q13P1 := hp.le
        clear hf hp
        replace R_o := kj HS R_o (by omega)
        replace R_a := kj HS R_a (by omega)
        replace R_e := kj HS R_e (by omega)
        replace R_x := kj HS R_x (by omega)
        replace O_k := Lib.hid (O_k.out.keep keptX HS.out (fun b hb (h : b = gp) => by have := hb.2; omega) (fun b hb (h : b = gp) => A_gp.out (by rw [← h]; exact hb)))
        replace HF := ft HF HS
        replace Z_h_d := zt Z_h_d HS
        replace R_gp := RG
        clear HS RG
        go_wp2_with fail
        exact ⟨⟨(q13 + 1), j, m + 1, acc ++ [x_d], _, _, hq_q13P1, posOf_at R_gp.out, by omega, O_k, R_o, R_a, R_e, R_x, A_gp, A_o, A_a, A_e, A_x, R_gp, HF, HV⟩, by rw [posOf_at R_gp.out, hpq]; omega⟩
    ·
     go_simp
     generalize hn : w11.alloc _ = w29
     generalize hg : w11.heap.size = g_one
     have HS := fa hn
     have R_one := nb hn hg
     have L_o_one := lb hg R_o
     have L_a_one := lb hg R_a
     have L_e_one := lb hg R_e
     have L_x_one := lb hg R_x
     have L_gp_one := lb hg R_gp
     have B_one := bs hg HF
     clear hn hg
     replace R_o := kn HS R_o
     replace R_a := kn HS R_a
     replace R_e := kn HS R_e
     replace R_x := kn HS R_x
     replace R_gp := kn HS R_gp
     replace O_k := on HS O_k
     replace HF := fn HF HS
     clear HS
     refine hK.out _ _ ?_ (fun hHeld => ?_)
     · exact ⟨cell_of R_o.out 0, cell_of R_x.out 0⟩
     clear hK K
     try dsimp only
     try simp only [Act.put, List.setIfInBounds_toArray, List.set_cons_zero, List.set_cons_succ]
     refine ready_e (rs := [2]) (by kernel_rfl) (by simp) ?_
     refine (do_mid (o := _) rfl (fun K hK => ?_) none_e)
     go_simp
     go_at_call 12
     cases hr_d : Pr.run l ((gram n).dec true) q with
     | out =>
      simp only [hr_d, Re.andThen, run_bind, run_skip, run_must, run_take, Pr.run, next, if_true, if_false, Bool.false_eq_true] at HV
      exact absurd HV.out.symm HO.out
     | fail q =>
      simp only [hr_d, Re.andThen, run_bind, run_skip, run_must, run_take, Pr.run, next, if_true, if_false, Bool.false_eq_true] at HV
      refine ((HH.out.dec true).bad (par_mk HROW.out HLEV.out hlen HF.out R_gp.out hq_q) hr_d).mono ?_
      rintro e w30 ⟨rfl, hf, hp⟩
      have hv := HV.out
      subst hv
      have HS := Lib.hid hf
      have RG := Lib.hid hp.blk
      clear hf hp
      replace R_o := kj HS R_o (by omega)
      replace R_a := kj HS R_a (by omega)
      replace R_e := kj HS R_e (by omega)
      replace R_x := kj HS R_x (by omega)
      replace R_one := kj HS R_one (by omega)
      replace O_k := Lib.hid (O_k.out.keep keptX HS.out (fun b hb (h : b = gp) => by have := hb.2; omega) (fun b hb (h : b = gp) => A_gp.out (by rw [← h]; exact hb)))
      replace HF := ft HF HS
      replace R_gp := RG
      clear HS RG
      refine leaves_cons (f := 11) (args := #[.pointer (some ⟨g_x, 0, none⟩), .pointer (some ⟨g_o, 0, none⟩), .pointer (some ⟨g_a, 0, none⟩), .pointer (some ⟨g_e, 0, none⟩)]) (by simp) (by simp [go_sem]) ?_
      refine (catch_any g_x gp g_o g_a g_e _ _ _ _ _ _ _ _ R_x.out R_gp.out R_o.out R_a.out R_e.out (by omega) (by omega)).mono ?_
      rintro e u' wf ⟨rfl, rfl, hff, c2, c3, c4⟩
      have HFF := Lib.hid hff
      clear hff
      simp [Leaves, settle, results, Tryz.results9, go_sem, c2, c3, c4]
      exact ⟨rfl, HF.out.own3 HFF.out (by omega) (by omega) (by omega) (by omega)⟩
     | ok x_d q31 =>
      simp only [hr_d, Re.andThen, run_bind, run_skip, run_must, run_take, Pr.run, next, if_true, if_false, Bool.false_eq_true] at HV
      have hsz_d : gp < w29.heap.size := lt_of_block R_gp.out
      obtain ⟨b_d, hB⟩ : ∃ bZ, w29.heap.size = bZ := ⟨_, rfl⟩
      have K_o_d := lb hB R_o
      have K_a_d := lb hB R_a
      have K_e_d := lb hB R_e
      have K_x_d := lb hB R_x
      have K_gp_d := lb hB R_gp
      have K_one_d := lb hB R_one
      have KB_d := bs hB HF
      clear hsz_d
      have OB_k_d : Hid (∀ b, (Value.slice av m cv).ownBlock = some b → b < b_d) := Lib.hid (fun bb hbb => by rw [← hB]; exact (O_k.out.block hbb).2)
      refine ((HH.out.dec true).good (par_mk HROW.out HLEV.out hlen HF.out R_gp.out hq_q) hr_d).mono ?_
      rintro e w32 ⟨⟨cs_d, rfl, hc⟩, hf, hp⟩
      rw [hB] at hc
      clear hB
      obtain ⟨h_d, hH⟩ : ∃ hZ, w32.heap.size = hZ := ⟨_, rfl⟩
      have I_d := im hH hc
      have Z_h_d : h_d ≤ w32.heap.size := Nat.le_of_eq hH.symm
      clear hc hH
      have HS := Lib.hid hf
      have RG := Lib.hid hp.blk
      have hq_q31 := hp.le
      clear hf hp
      replace R_o := kj HS R_o (by omega)
      replace R_a := kj HS R_a (by omega)
      replace R_e := kj HS R_e (by omega)
      replace R_x := kj HS R_x (by omega)
      replace R_one := kj HS R_one (by omega)
      replace O_k := Lib.hid (O_k.out.keep keptX HS.out (fun b hb (h : b = gp) => by have := hb.2; omega) (fun b hb (h : b = gp) => A_gp.out (by rw [← h]; exact hb)))
      replace HF := ft HF HS
      replace R_gp := RG
      clear HS RG
      have hmono := run_mono l _ _ _ _ hr_d
      obtain ⟨z0_d, z_d, p1_d, q1_d, r1_d, p2_d, q2_d, r2_d, p3_d, q3_d, r3_d, k_d, s_d, n_d, a_d, m_d, c_d, ek_d, es_d, en_d, eu_d, ea1_d, em1_d, ec1_d, ea2_d, em2_d, ec2_d, ea3_d, em3_d, ec3_d, ecs⟩ := hcD I_d.out
      subst ecs
      refine hK.out _ _ ?_ (fun hHeld => ?_)
      · exact ⟨cell_of R_o.out 0, cell_of R_x.out 0⟩
      clear hK K
      try dsimp only
      try simp only [Act.put, List.setIfInBounds_toArray, List.set_cons_zero, List.set_cons_succ]
      refine ready_e (rs := [5]) (by kernel_rfl) (by simp) ?_
      refine (do_mid (o := _) rfl (fun K hK => ?_) none_e)
      refine step_half elemD rfl _ _ 25 rfl Tryz.underlying25 (fun b => w.heap.size ≤ b ∧ b ≠ gp ∧ b ≠ g_o ∧ b ≠ g_a ∧ b ≠ g_e ∧ b ≠ g_x) w.heap.size (.slice av m cv) m (acc.map xD) rfl O_k.out _ [.int .u8 0, .string ⟨#[]⟩, .slice none 0 0, .slice none 0 0, .slice none 0 0, .int .u8 0, .string ⟨#[]⟩, .int .i64 0, .slice none 0 0, .int .u8 0, .string ⟨#[]⟩, .int .i64 0, .string ⟨#[]⟩, .slice none 0 0, .slice none 0 0, .slice none 0 0] 46 rfl R_one.out (by simp [Value.oneCell']) rfl (by unfold maxLen; omega) (by omega) HF.out.size ?_
      intro g_n c_n wn33 H_k HGN
      clear R_one O_k
      have A_o' := Lib.hid (HGN.out.avs R_o.out A_o.out)
      replace R_o := Lib.hid (HGN.out.keeps R_o.out A_o.out)
      have A_o := A_o'
      clear A_o'
      have A_a' := Lib.hid (HGN.out.avs R_a.out A_a.out)
      replace R_a := Lib.hid (HGN.out.keeps R_a.out A_a.out)
      have A_a := A_a'
      clear A_a'
      have A_e' := Lib.hid (HGN.out.avs R_e.out A_e.out)
      replace R_e := Lib.hid (HGN.out.keeps R_e.out A_e.out)
      have A_e := A_e'
      clear A_e'
      have A_x' := Lib.hid (HGN.out.avs R_x.out A_x.out)
      replace R_x := Lib.hid (HGN.out.keeps R_x.out A_x.out)
      have A_x := A_x'
      clear A_x'
      have A_gp' := Lib.hid (HGN.out.avs R_gp.out A_gp.out)
      replace R_gp := Lib.hid (HGN.out.keeps R_gp.out A_gp.out)
      have A_gp := A_gp'
      clear A_gp'
      replace I_d := Lib.hid (Hc.keep (ok' := fun b => (fun b => w.heap.size ≤ b ∧ b ≠ gp ∧ b ≠ g_o ∧ b ≠ g_a ∧ b ≠ g_e ∧ b ≠ g_x) b ∧ b ≠ g_n) (fun b hb hk => by
       have hv := HGN.out.av b hb (fun eb => by have := OB_k_d.out b eb; have := hk.1; omega)
       exact ⟨hv.1, ⟨by have := hk.1; omega, by have := hk.1; omega, by have := hk.1; omega, by have := hk.1; omega, by have := hk.1; omega, by have := hk.1; omega⟩, av_of hv.2⟩) _ _ I_d.out)
      have B_n : w.heap.size ≤ g_n := H_k.out.ex.2.1
      replace HF := Lib.hid (HF.out.trans HGN.out.fr (fun i hi hb => by have hb : w.heap.size ≤ i := hb; omega))
      replace Z_h_d := Nat.le_trans Z_h_d HGN.out.fr.size
      have hix : ((m : Nat) : Int) < (m : Int) + 1 := by omega
      have hix0 : (0 : Int) ≤ (m : Int) := by omega
      clear HGN
      refine hK.out _ _ ?_ (fun hHeld => ?_)
      · exact ⟨cell_of R_o.out 0, cell_of R_x.out 0⟩
      clear hK K
      try dsimp only
      try simp only [Act.put, List.setIfInBounds_toArray, List.set_cons_zero, List.set_cons_succ]
      have d0_o : wn33.cell? ⟨g_o, 0, none⟩ = some (.slice av m cv) := cell_of R_o.out 0
      have f0_o : wn33.frozen? ⟨g_o, 0, none⟩ = false := free_of R_o.out 0
      refine ready_e (rs := [6, 8]) (by kernel_rfl) (by simp) ?_
      refine (do_late (o := _) rfl (by kernel_rfl) (fun K hK => ?_) (do_late (o := _) rfl (by kernel_rfl) (fun K hK => ?_) none_e))
      ·
       go_simp
       clear d0_o f0_o
       refine hK.out _ _ ?_
       clear hK K
       try dsimp only
       try simp only [Act.put, List.setIfInBounds_toArray, List.set_cons_zero, List.set_cons_succ]
       have d0_o : wn33.cell? ⟨g_o, 0, none⟩ = some (.slice av m cv) := cell_of R_o.out 0
       have f0_o : wn33.frozen? ⟨g_o, 0, none⟩ = false := free_of R_o.out 0
       refine ready_e (rs := [7, 8]) (by kernel_rfl) (by simp) ?_
       refine (do_late (o := _) rfl (by kernel_rfl) (fun K hK => ?_) (do_late (o := _) rfl (by kernel_rfl) (fun K hK => ?_) none_e))
       ·
        clear d0_o f0_o
        obtain ⟨hth, hO, hfO⟩ := H_k.out.fill (c := [.int .u8 z0_d, .string z_d, .slice p1_d q1_d r1_d, .slice p2_d q2_d r2_d, .slice p3_d q3_d r3_d, .int .u8 k_d, .string s_d, .int .i64 n_d, .slice a_d m_d c_d, .int .u8 ek_d, .string es_d, .int .i64 en_d, .string eu_d, .slice ea1_d em1_d ec1_d, .slice ea2_d em2_d ec2_d, .slice ea3_d em3_d ec3_d]) rfl I_d.out
        refine step_store16 rfl rfl _ _ rfl g_n (m * 16) _ rfl rfl rfl hth (by simp [Value.oneCell']) ?_
        obtain ⟨w34, hn⟩ : ∃ wZ, wn33.setCells g_n (m * 16) (List.toArray [.int .u8 z0_d, .string z_d, .slice p1_d q1_d r1_d, .slice p2_d q2_d r2_d, .slice p3_d q3_d r3_d, .int .u8 k_d, .string s_d, .int .i64 n_d, .slice a_d m_d c_d, .int .u8 ek_d, .string es_d, .int .i64 en_d, .string eu_d, .slice ea1_d em1_d ec1_d, .slice ea2_d em2_d ec2_d, .slice ea3_d em3_d ec3_d]).toList = wZ := ⟨_, rfl⟩
        rw [hn]
        have O_k : Hid (OutG RX 46 16 (fun b => w.heap.size ≤ b ∧ b ≠ gp ∧ b ≠ g_o ∧ b ≠ g_a ∧ b ≠ g_e ∧ b ≠ g_x) w.heap.size w34 (.slice (some ⟨g_n, 0, none⟩) (m + 1) c_n) (m + 1) ((acc ++ [x_d]).map xD)) := Lib.hid (by rw [← hn, List.map_append]; exact hO)
        have HS : Hid (Fr (Just g_n) wn33 w34) := Lib.hid (by rw [← hn]; exact hfO)
        clear hn hO hfO hth H_k I_d
        replace R_o := Lib.hid (HS.out.keeps R_o.out (fun (h : g_o = g_n) => av_of A_o.out h))
        replace R_a := Lib.hid (HS.out.keeps R_a.out (fun (h : g_a = g_n) => av_of A_a.out h))
        replace R_e := Lib.hid (HS.out.keeps R_e.out (fun (h : g_e = g_n) => av_of A_e.out h))
        replace R_x := Lib.hid (HS.out.keeps R_x.out (fun (h : g_x = g_n) => av_of A_x.out h))
        replace R_gp := Lib.hid (HS.out.keeps R_gp.out (fun (h : gp = g_n) => av_of A_gp.out h))
        replace HF := fb HF HS (by omega)
        replace Z_h_d := zt Z_h_d HS
        clear HS
        refine hK.out _ _ ?_
        clear hK K
        try dsimp only
        try simp only [Act.put, List.setIfInBounds_toArray, List.set_cons_zero, List.set_cons_succ]
        have d0_o : w34.cell? ⟨g_o, 0, none⟩ = some (.slice av m cv) := cell_of R_o.out 0
        have f0_o : w34.frozen? ⟨g_o, 0, none⟩ = false := free_of R_o.out 0
        refine ready_e (rs := [8]) (by kernel_rfl) (by simp) ?_
        refine (do_late (o := _) rfl (by kernel_rfl) (fun K hK => ?_) none_e)
        go_simp
        clear d0_o f0_o
        obtain ⟨w35, hn⟩ : ∃ wZ, setFrom g_o 0 [.slice (some ⟨g_n, 0, none⟩) (m + 1) c_n] w34 = wZ := ⟨_, rfl⟩
        have R_o' := sf hn R_o rfl
        have HS := sg hn
        have he := hn
        simp only [setFrom, Nat.reduceAdd] at he
        rw [he]
        clear he
        clear hn
        replace R_a := kj HS R_a (by omega)
        replace R_e := kj HS R_e (by omega)
        replace R_x := kj HS R_x (by omega)
        replace R_gp := kj HS R_gp (by omega)
        replace O_k := Lib.hid (O_k.out.keep keptX HS.out (fun b hb (h : b = g_o) => by have := hb.2; omega) (fun b hb (h : b = g_o) => A_o.out (by rw [← h]; exact hb)))
        replace HF := fb HF HS (by omega)
        replace Z_h_d := zt Z_h_d HS
        have R_o := R_o'
        clear R_o' HS
        refine hK.out _ _ ?_
        clear hK K
        try dsimp only
        try simp only [Act.put, List.setIfInBounds_toArray, List.set_cons_zero, List.set_cons_succ]
        refine done_e (by kernel_rfl) ?_ _
        (try simp only [Exit.inBlock, Exit.then])
        have d0_x : w35.cell? ⟨g_x, 0, none⟩ = some (.pointer (some ⟨gp, 0, none⟩)) := cell_of R_x.out 0
        have f0_x : w35.frozen? ⟨g_x, 0, none⟩ = false := free_of R_x.out 0
        go_wp2_with fail
        clear d0_x f0_x
        cases hm_se : seesB (l.getD q31 zTok) [⟨#[59]⟩] with
        | false =>
         simp only [hm_se, Re.andThen, run_bind, run_skip, run_must, run_take, Pr.run, next, if_true, if_false, Bool.false_eq_true] at HV
         refine (must_bad (par_mk HROW.out HLEV.out hlen HF.out R_gp.out hq_q31) hm_se).mono ?_
         rintro e w36 ⟨rfl, hf, hp⟩
         have hv := HV.out
         subst hv
         have HS := Lib.hid hf
         have RG := Lib.hid hp.blk
         clear hf hp
         replace R_o := kj HS R_o (by omega)
         replace R_a := kj HS R_a (by omega)
         replace R_e := kj HS R_e (by omega)
         replace R_x := kj HS R_x (by omega)
         replace O_k := Lib.hid (O_k.out.keep keptX HS.out (fun b hb (h : b = gp) => by have := hb.2; omega) (fun b hb (h : b = gp) => A_gp.out (by rw [← h]; exact hb)))
         replace HF := ft HF HS
         replace Z_h_d := zt Z_h_d HS
         replace R_gp := RG
         clear HS RG
         refine leaves_cons (f := 11) (args := #[.pointer (some ⟨g_x, 0, none⟩), .pointer (some ⟨g_o, 0, none⟩), .pointer (some ⟨g_a, 0, none⟩), .pointer (some ⟨g_e, 0, none⟩)]) (by simp) (by simp [go_sem]) ?_
         refine (catch_any g_x gp g_o g_a g_e _ _ _ _ _ _ _ _ R_x.out R_gp.out R_o.out R_a.out R_e.out (by omega) (by omega)).mono ?_
         rintro e u' wf ⟨rfl, rfl, hff, c2, c3, c4⟩
         have HFF := Lib.hid hff
         clear hff
         simp [Leaves, settle, results, Tryz.results9, go_sem, c2, c3, c4]
         exact ⟨rfl, HF.out.own3 HFF.out (by omega) (by omega) (by omega) (by omega)⟩
        | true =>
         simp only [hm_se, Re.andThen, run_bind, run_skip, run_must, run_take, Pr.run, next, if_true, if_false, Bool.false_eq_true] at HV
         refine (must_good (par_mk HROW.out HLEV.out hlen HF.out R_gp.out hq_q31) hm_se).mono ?_
         rintro e w37 ⟨rfl, hf, hp⟩
         have HS := Lib.hid hf
         have RG := Lib.hid hp.blk
         have hq_q31P1 := hp.le
         clear hf hp
         replace R_o := kj HS R_o (by omega)
         replace R_a := kj HS R_a (by omega)
         replace R_e := kj HS R_e (by omega)
         replace R_x := kj HS R_x (by omega)
         replace O_k := Lib.hid (O_k.out.keep keptX HS.out (fun b hb (h : b = gp) => by have := hb.2; omega) (fun b hb (h : b = gp) => A_gp.out (by rw [← h]; exact hb)))
         replace HF := ft HF HS
         replace Z_h_d := zt Z_h_d HS
         replace R_gp := RG
         clear HS RG
         go_wp2_with fail
         exact ⟨⟨(q31 + 1), j, m + 1, acc ++ [x_d], _, _, hq_q31P1, posOf_at R_gp.out, by omega, O_k, R_o, R_a, R_e, R_x, A_gp, A_o, A_a, A_e, A_x, R_gp, HF, HV⟩, by rw [posOf_at R_gp.out, hpq]; omega⟩
       ·
        go_simp
        clear d0_o f0_o
        obtain ⟨w38, hn⟩ : ∃ wZ, setFrom g_o 0 [.slice (some ⟨g_n, 0, none⟩) (m + 1) c_n] wn33 = wZ := ⟨_, rfl⟩
        have R_o' := sf hn R_o rfl
        have HS := sg hn
        have he := hn
        simp only [setFrom, Nat.reduceAdd] at he
        rw [he]
        clear he
        clear hn
        replace R_a := kj HS R_a (by omega)
        replace R_e := kj HS R_e (by omega)
        replace R_x := kj HS R_x (by omega)
        replace R_gp := kj HS R_gp (by omega)
        replace I_d := Lib.hid (I_d.out.fr HS.out (fun b hb (h : b = g_o) => by have := hb.1; have := hb.2; omega))
        replace H_k := Lib.hid (H_k.out.keep HS.out (fun b hb (h : b = g_o) => by have := hb.2; omega) (fun (h : g_n = g_o) => av_of A_o.out h.symm))
        replace HF := fb HF HS (by omega)
        replace Z_h_d := zt Z_h_d HS
        have R_o := R_o'
        clear R_o' HS
        refine hK.out _ _ ?_
        clear hK K
        try dsimp only
        try simp only [Act.put, List.setIfInBounds_toArray, List.set_cons_zero, List.set_cons_succ]
        refine ready_e (rs := [7]) (by kernel_rfl) (by simp) ?_
        refine (do_late (o := _) rfl (by kernel_rfl) (fun K hK => ?_) none_e)
        obtain ⟨hth, hO, hfO⟩ := H_k.out.fill (c := [.int .u8 z0_d, .string z_d, .slice p1_d q1_d r1_d, .slice p2_d q2_d r2_d, .slice p3_d q3_d r3_d, .int .u8 k_d, .string s_d, .int .i64 n_d, .slice a_d m_d c_d, .int .u8 ek_d, .string es_d, .int .i64 en_d, .string eu_d, .slice ea1_d em1_d ec1_d, .slice ea2_d em2_d ec2_d, .slice ea3_d em3_d ec3_d]) rfl I_d.out
        refine step_store16 rfl rfl _ _ rfl g_n (m * 16) _ rfl rfl rfl hth (by simp [Value.oneCell']) ?_
        obtain ⟨w39, hn⟩ : ∃ wZ, w38.setCells g_n (m * 16) (List.toArray [.int .u8 z0_d, .string z_d, .slice p1_d q1_d r1_d, .slice p2_d q2_d r2_d, .slice p3_d q3_d r3_d, .int .u8 k_d, .string s_d, .int .i64 n_d, .slice a_d m_d c_d, .int .u8 ek_d, .string es_d, .int .i64 en_d, .string eu_d, .slice ea1_d em1_d ec1_d, .slice ea2_d em2_d ec2_d, .slice ea3_d em3_d ec3_d]).toList = wZ := ⟨_, rfl⟩
        rw [hn]
        have O_k : Hid (OutG RX 46 16 (fun b => w.heap.size ≤ b ∧ b ≠ gp ∧ b ≠ g_o ∧ b ≠ g_a ∧ b ≠ g_e ∧ b ≠ g_x) w.heap.size w39 (.slice (some ⟨g_n, 0, none⟩) (m + 1) c_n) (m + 1) ((acc ++ [x_d]).map xD)) := Lib.hid (by rw [← hn, List.map_append]; exact hO)
        have HS : Hid (Fr (Just g_n) w38 w39) := Lib.hid (by rw [← hn]; exact hfO)
        clear hn hO hfO hth H_k I_d
        replace R_o := Lib.hid (HS.out.keeps R_o.out (fun (h : g_o = g_n) => av_of A_o.out h))
        replace R_a := Lib.hid (HS.out.keeps R_a.out (fun (h : g_a = g_n) => av_of A_a.out h))
        replace R_e := Lib.hid (HS.out.keeps R_e.out (fun (h : g_e = g_n) => av_of A_e.out h))
        replace R_x := Lib.hid (HS.out.keeps R_x.out (fun (h : g_x = g_n) => av_of A_x.out h))
        replace R_gp := Lib.hid (HS.out.keeps R_gp.out (fun (h : gp = g_n) => av_of A_gp.out h))
        replace HF := fb HF HS (by omega)
        replace Z_h_d := zt Z_h_d HS
        clear HS
        refine hK.out _ _ ?_
        clear hK K
        try dsimp only
        try simp only [Act.put, List.setIfInBounds_toArray, List.set_cons_zero, List.set_cons_succ]
        refine done_e (by kernel_rfl) ?_ _
        (try simp only [Exit.inBlock, Exit.then])
        have d0_x : w39.cell? ⟨g_x, 0, none⟩ = some (.pointer (some ⟨gp, 0, none⟩)) := cell_of R_x.out 0
        have f0_x : w39.frozen? ⟨g_x, 0, none⟩ = false := free_of R_x.out 0
        go_wp2_with fail
        clear d0_x f0_x
        cases hm_se : seesB (l.getD q31 zTok) [⟨#[59]⟩] with
        | false =>
         simp only [hm_se, Re.andThen, run_bind, run_skip, run_must, run_take, Pr.run, next, if_true, if_false, Bool.false_eq_true] at HV
         refine (must_bad (par_mk HROW.out HLEV.out hlen HF.out R_gp.out hq_q31) hm_se).mono ?_
         rintro e w40 ⟨rfl, hf, hp⟩
         have hv := HV.out
         subst hv
         have HS := Lib.hid hf
         have RG := Lib.hid hp.blk
         clear hf hp
         replace R_o := kj HS R_o (by omega)
         replace R_a := kj HS R_a (by omega)
         replace R_e := kj HS R_e (by omega)
         replace R_x := kj HS R_x (by omega)
         replace O_k := Lib.hid (O_k.out.keep keptX HS.out (fun b hb (h : b = gp) => by have := hb.2; omega) (fun b hb (h : b = gp) => A_gp.out (by rw [← h]; exact hb)))
         replace HF := ft HF HS
         replace Z_h_d := zt Z_h_d HS
         replace R_gp := RG
         clear HS RG
         refine leaves_cons (f := 11) (args := #[.pointer (some ⟨g_x, 0, none⟩), .pointer (some ⟨g_o, 0, none⟩), .pointer (some ⟨g_a, 0, none⟩), .pointer (some ⟨g_e, 0, none⟩)]) (by simp) (by simp [go_sem]) ?_
         refine (catch_any g_x gp g_o g_a g_e _ _ _ _ _ _ _ _ R_x.out R_gp.out R_o.out R_a.out R_e.out (by omega) (by omega)).mono ?_
         rintro e u' wf ⟨rfl, rfl, hff, c2, c3, c4⟩
         have HFF := Lib.hid hff
         clear hff
         simp [Leaves, settle, results, Tryz.results9, go_sem, c2, c3, c4]
         exact ⟨rfl, HF.out.own3 HFF.out (by omega) (by omega) (by omega) (by omega)⟩
        | true =>
         simp only [hm_se, Re.andThen, run_bind, run_skip, run_must, run_take, Pr.run, next, if_true, if_false, Bool.false_eq_true] at HV
         refine (must_good (par_mk HROW.out HLEV.out hlen HF.out R_gp.out hq_q31) hm_se).mono ?_
         rintro e w41 ⟨rfl, hf, hp⟩
         have HS := Lib.hid hf
         have RG := Lib.hid hp.blk
         have hq_q31P1 := hp.le
         clear hf hp
         replace R_o := kj HS R_o (by omega)
         replace R_a := kj HS R_a (by omega)
         replace R_e := kj HS R_e (by omega)
         replace R_x := kj HS R_x (by omega)
         replace O_k := Lib.hid (O_k.out.keep keptX HS.out (fun b hb (h : b = gp) => by have := hb.2; omega) (fun b hb (h : b = gp) => A_gp.out (by rw [← h]; exact hb)))
         replace HF := ft HF HS
         replace Z_h_d := zt Z_h_d HS
         replace R_gp := RG
         clear HS RG
         go_wp2_with fail
         exact ⟨⟨(q31 + 1), j, m + 1, acc ++ [x_d], _, _, hq_q31P1, posOf_at R_gp.out, by omega, O_k, R_o, R_a, R_e, R_x, A_gp, A_o, A_a, A_e, A_x, R_gp, HF, HV⟩, by rw [posOf_at R_gp.out, hpq]; omega⟩
      ·
       go_simp
       clear d0_o f0_o
       obtain ⟨w42, hn⟩ : ∃ wZ, setFrom g_o 0 [.slice (some ⟨g_n, 0, none⟩) (m + 1) c_n] wn33 = wZ := ⟨_, rfl⟩
       have R_o' := sf hn R_o rfl
       have HS := sg hn
       have he := hn
       simp only [setFrom, Nat.reduceAdd] at he
       rw [he]
       clear he
       clear hn
       replace R_a := kj HS R_a (by omega)
       replace R_e := kj HS R_e (by omega)
       replace R_x := kj HS R_x (by omega)
       replace R_gp := kj HS R_gp (by omega)
       replace I_d := Lib.hid (I_d.out.fr HS.out (fun b hb (h : b = g_o) => by have := hb.1; have := hb.2; omega))
       replace H_k := Lib.hid (H_k.out.keep HS.out (fun b hb (h : b = g_o) => by have := hb.2; omega) (fun (h : g_n = g_o) => av_of A_o.out h.symm))
       replace HF := fb HF HS (by omega)
       replace Z_h_d := zt Z_h_d HS
       have R_o := R_o'
       clear R_o' HS
       refine hK.out _ _ ?_
       clear hK K
       try dsimp only
       try simp only [Act.put, List.setIfInBounds_toArray, List.set_cons_zero, List.set_cons_succ]
       refine ready_e (rs := [6]) (by kernel_rfl) (by simp) ?_
       refine (do_late (o := _) rfl (by kernel_rfl) (fun K hK => ?_) none_e)
       go_simp
       refine hK.out _ _ ?_
       clear hK K
       try dsimp only
       try simp only [Act.put, List.setIfInBounds_toArray, List.set_cons_zero, List.set_cons_succ]
       refine ready_e (rs := [7]) (by kernel_rfl) (by simp) ?_
       refine (do_late (o := _) rfl (by kernel_rfl) (fun K hK => ?_) none_e)
       obtain ⟨hth, hO, hfO⟩ := H_k.out.fill (c := [.int .u8 z0_d, .string z_d, .slice p1_d q1_d r1_d, .slice p2_d q2_d r2_d, .slice p3_d q3_d r3_d, .int .u8 k_d, .string s_d, .int .i64 n_d, .slice a_d m_d c_d, .int .u8 ek_d, .string es_d, .int .i64 en_d, .string eu_d, .slice ea1_d em1_d ec1_d, .slice ea2_d em2_d ec2_d, .slice ea3_d em3_d ec3_d]) rfl I_d.out
       refine step_store16 rfl rfl _ _ rfl g_n (m * 16) _ rfl rfl rfl hth (by simp [Value.oneCell']) ?_
       obtain ⟨w43, hn⟩ : ∃ wZ, w42.setCells g_n (m * 16) (List.toArray [.int .u8 z0_d, .string z_d, .slice p1_d q1_d r1_d, .slice p2_d q2_d r2_d, .slice p3_d q3_d r3_d, .int .u8 k_d, .string s_d, .int .i64 n_d, .slice a_d m_d c_d, .int .u8 ek_d, .string es_d, .int .i64 en_d, .string eu_d, .slice ea1_d em1_d ec1_d, .slice ea2_d em2_d ec2_d, .slice ea3_d em3_d ec3_d]).toList = wZ := ⟨_, rfl⟩
       rw [hn]
       have O_k : Hid (OutG RX 46 16 (fun b => w.heap.size ≤ b ∧ b ≠ gp ∧ b ≠ g_o ∧ b ≠ g_a ∧ b ≠ g_e ∧ b ≠ g_x) w.heap.size w43 (.slice (some ⟨g_n, 0, none⟩) (m + 1) c_n) (m + 1) ((acc ++ [x_d]).map xD)) := Lib.hid (by rw [← hn, List.map_append]; exact hO)
       have HS : Hid (Fr (Just g_n) w42 w43) := Lib.hid (by rw [← hn]; exact hfO)
       clear hn hO hfO hth H_k I_d
       replace R_o := Lib.hid (HS.out.keeps R_o.out (fun (h : g_o = g_n) => av_of A_o.out h))
       replace R_a := Lib.hid (HS.out.keeps R_a.out (fun (h : g_a = g_n) => av_of A_a.out h))
       replace R_e := Lib.hid (HS.out.keeps R_e.out (fun (h : g_e = g_n) => av_of A_e.out h))
       replace R_x := Lib.hid (HS.out.keeps R_x.out (fun (h : g_x = g_n) => av_of A_x.out h))
       replace R_gp := Lib.hid (HS.out.keeps R_gp.out (fun (h : gp = g_n) => av_of A_gp.out h))
       replace HF := fb HF HS (by omega)
       replace Z_h_d := zt Z_h_d HS
       clear HS
       refine hK.out _ _ ?_
       clear hK K
       try dsimp only
       try simp only [Act.put, List.setIfInBounds_toArray, List.set_cons_zero, List.set_cons_succ]
       refine done_e (by kernel_rfl) ?_ _
       (try simp only [Exit.inBlock, Exit.then])
       have d0_x : w43.cell? ⟨g_x, 0, none⟩ = some (.pointer (some ⟨gp, 0, none⟩)) := cell_of R_x.out 0
       have f0_x : w43.frozen? ⟨g_x, 0, none⟩ = false := free_of R_x.out 0
       go_wp2_with fail
       clear d0_x f0_x
       cases hm_se : seesB (l.getD q31 zTok) [⟨#[59]⟩] with
       | false =>
        simp only [hm_se, Re.andThen, run_bind, run_skip, run_must, run_take, Pr.run, next, if_true, if_false, Bool.false_eq_true] at HV
        refine (must_bad (par_mk HROW.out HLEV.out hlen HF.out R_gp.out hq_q31) hm_se).mono ?_
        rintro e w44 ⟨rfl, hf, hp⟩
        have hv := HV.out
        subst hv
        have HS := Lib.hid hf
        have RG := Lib.hid hp.blk
        clear hf hp
        replace R_o := kj HS R_o (by omega)
        replace R_a := kj HS R_a (by omega)
        replace R_e := kj HS R_e (by omega)
        replace R_x := kj HS R_x (by omega)
        replace O_k := Lib.hid (O_k.out.keep keptX HS.out (fun b hb (h : b = gp) => by have := hb.2; omega) (fun b hb (h : b = gp) => A_gp.out (by rw [← h]; exact hb)))
        replace HF := ft HF HS
        replace Z_h_d := zt Z_h_d HS
        replace R_gp := RG
        clear HS RG
        refine leaves_cons (f := 11) (args := #[.pointer (some ⟨g_x, 0, none⟩), .pointer (some ⟨g_o, 0, none⟩), .pointer (some ⟨g_a, 0, none⟩), .pointer (some ⟨g_e, 0, none⟩)]) (by simp) (by simp [go_sem]) ?_
        refine (catch_any g_x gp g_o g_a g_e _ _ _ _ _ _ _ _ R_x.out R_gp.out R_o.out R_a.out R_e.out (by omega) (by omega)).mono ?_
        rintro e u' wf ⟨rfl, rfl, hff, c2, c3, c4⟩
        have HFF := Lib.hid hff
        clear hff
        simp [Leaves, settle, results, Tryz.results9, go_sem, c2, c3, c4]
        exact ⟨rfl, HF.out.own3 HFF.out (by omega) (by omega) (by omega) (by omega)⟩
       | true =>
        simp only [hm_se, Re.andThen, run_bind, run_skip, run_must, run_take, Pr.run, next, if_true, if_false, Bool.false_eq_true] at HV
        refine (must_good (par_mk HROW.out HLEV.out hlen HF.out R_gp.out hq_q31) hm_se).mono ?_
        rintro e w45 ⟨rfl, hf, hp⟩
        have HS := Lib.hid hf
        have RG := Lib.hid hp.blk
        have hq_q31P1 := hp.le
        clear hf hp
        replace R_o := kj HS R_o (by omega)
        replace R_a := kj HS R_a (by omega)
        replace R_e := kj HS R_e (by omega)
        replace R_x := kj HS R_x (by omega)
        replace O_k := Lib.hid (O_k.out.keep keptX HS.out (fun b hb (h : b = gp) => by have := hb.2; omega) (fun b hb (h : b = gp) => A_gp.out (by rw [← h]; exact hb)))
        replace HF := ft HF HS
        replace Z_h_d := zt Z_h_d HS
        replace R_gp := RG
        clear HS RG
        go_wp2_with fail
        exact ⟨⟨(q31 + 1), j, m + 1, acc ++ [x_d], _, _, hq_q31P1, posOf_at R_gp.out, by omega, O_k, R_o, R_a, R_e, R_x, A_gp, A_o, A_a, A_e, A_x, R_gp, HF, HV⟩, by rw [posOf_at R_gp.out, hpq]; omega⟩
   ·
    simp only [progR, if_neg hlt] at hv
    replace HV := Lib.hid hv
    clear hv hNL
    have hd0 : decide ((q : Int) < (l.length : Int)) = false := decide_eq_false (by omega)
    have hd1 : decide (q < l.length) = false := decide_eq_false hlt
    have d0_x : wL.cell? ⟨g_x, 0, none⟩ = some (.pointer (some ⟨gp, 0, none⟩)) := cell_of R_x.out 0
    have f0_x : wL.frozen? ⟨g_x, 0, none⟩ = false := free_of R_x.out 0
    have d0_gp : wL.cell? ⟨gp, 0, none⟩ = some (.slice a l.length c) := cell_of R_gp.out 0
    have f0_gp : wL.frozen? ⟨gp, 0, none⟩ = false := free_of R_gp.out 0
    have d1_gp : wL.cell? ⟨gp, 1, none⟩ = some (.int .i64 (q : Nat)) := cell_of R_gp.out 1
    have f1_gp : wL.frozen? ⟨gp, 1, none⟩ = false := free_of R_gp.out 1
    have d0_o : wL.cell? ⟨g_o, 0, none⟩ = some (.slice av m cv) := cell_of R_o.out 0
    have f0_o : wL.frozen? ⟨g_o, 0, none⟩ = false := free_of R_o.out 0
    go_wp2_with fail
    clear d0_x f0_x
    clear d0_gp f0_gp d1_gp f1_gp
    clear d0_o f0_o
    have I_h := Lib.hid (hx_of_own (ok' := fun b => w.heap.size ≤ b ∧ b ≠ g_o ∧ b ≠ g_a ∧ b ≠ g_e) O_k.out (by decide) (fun b hb h1 _ => ⟨h1, fun h => A_o.out (by rw [← h]; exact hb), fun h => A_a.out (by rw [← h]; exact hb), fun h => A_e.out (by rw [← h]; exact hb)⟩) (fun b _ hb => ⟨hb.1, by have := hb.2; omega, by have := hb.2; omega, by have := hb.2; omega⟩))
    clear O_k A_o A_a A_e A_x A_gp
    refine (depth_any I_h.out).mono ?_
    rintro e w46 ⟨rfl, hf⟩
    have HS := Lib.hid hf
    clear hf
    replace R_o := kn HS R_o
    replace R_a := kn HS R_a
    replace R_e := kn HS R_e
    replace R_x := kn HS R_x
    replace R_gp := kn HS R_gp
    replace HF := fn HF HS
    replace I_h := Lib.hid (I_h.out.no HS.out)
    clear HS
    obtain ⟨K, hK⟩ : ∃ K, dProg acc = K := ⟨_, rfl⟩
    rw [hK]
    have HK := Lib.hid hK
    clear hK
    by_cases hbig : 100 < K
    ·
     have hb0 : decide ((100 : Int) < K) = true := decide_eq_true hbig
     have d0_o : w46.cell? ⟨g_o, 0, none⟩ = some (.slice av m cv) := cell_of R_o.out 0
     have f0_o : w46.frozen? ⟨g_o, 0, none⟩ = false := free_of R_o.out 0
     have d0_a : w46.cell? ⟨g_a, 0, none⟩ = some (.int .i64 0) := cell_of R_a.out 0
     have f0_a : w46.frozen? ⟨g_a, 0, none⟩ = false := free_of R_a.out 0
     have d0_e : w46.cell? ⟨g_e, 0, none⟩ = some (.int .i64 0) := cell_of R_e.out 0
     have f0_e : w46.frozen? ⟨g_e, 0, none⟩ = false := free_of R_e.out 0
     go_wp2_with fail
     clear d0_o f0_o d0_a f0_a d0_e f0_e
     obtain ⟨hb1, hb2, hb3, hb4⟩ := three_boxes (.slice none 0 0) (.int .i64 0) (.int .i64 16) R_o.out R_a.out R_e.out (by omega) (by omega)
     obtain ⟨wQ, hwQ⟩ : ∃ wQ, ((w46.setCell ⟨g_o, 0, none⟩ (.slice none 0 0)).setCell ⟨g_a, 0, none⟩ (.int .i64 0)).setCell ⟨g_e, 0, none⟩ (.int .i64 16) = wQ := ⟨_, rfl⟩
     rw [hwQ] at hb1 hb2 hb3 hb4 ⊢
     clear hwQ
     refine leaves_cons (f := 11) (args := #[.pointer (some ⟨g_x, 0, none⟩), .pointer (some ⟨g_o, 0, none⟩), .pointer (some ⟨g_a, 0, none⟩), .pointer (some ⟨g_e, 0, none⟩)]) (by simp) (by simp [go_sem]) ?_
     refine (catch_idle _ _ _ _ _).mono ?_
     rintro e u' wf ⟨rfl, rfl, rfl⟩
     simp [Leaves, settle, results, Tryz.results9, go_sem, hb1, hb2, hb3]
     have hv := HV.out
     subst hv
     simp only [ParseR]
     rw [HK.out]
     rw [if_pos hbig]
     exact ⟨HF.out.own3 hb4 (by omega) (by omega) (by omega) (by omega), trivial⟩
    ·
     have hb0 : decide ((100 : Int) < K) = false := decide_eq_false hbig
     have d0_o : w46.cell? ⟨g_o, 0, none⟩ = some (.slice av m cv) := cell_of R_o.out 0
     have f0_o : w46.frozen? ⟨g_o, 0, none⟩ = false := free_of R_o.out 0
     have d0_a : w46.cell? ⟨g_a, 0, none⟩ = some (.int .i64 0) := cell_of R_a.out 0
     have f0_a : w46.frozen? ⟨g_a, 0, none⟩ = false := free_of R_a.out 0
     have d0_e : w46.cell? ⟨g_e, 0, none⟩ = some (.int .i64 0) := cell_of R_e.out 0
     have f0_e : w46.frozen? ⟨g_e, 0, none⟩ = false := free_of R_e.out 0
     go_wp2_with fail
     clear d0_o f0_o d0_a f0_a d0_e f0_e
     obtain ⟨hb1, hb2, hb3, hb4⟩ := three_boxes (.slice av m cv) (.int .i64 0) (.int .i64 0) R_o.out R_a.out R_e.out (by omega) (by omega)
     obtain ⟨wQ, hwQ⟩ : ∃ wQ, ((w46.setCell ⟨g_o, 0, none⟩ (.slice av m cv)).setCell ⟨g_a, 0, none⟩ (.int .i64 0)).setCell ⟨g_e, 0, none⟩ (.int .i64 0) = wQ := ⟨_, rfl⟩
     rw [hwQ] at hb1 hb2 hb3 hb4 ⊢
     clear hwQ
     refine leaves_cons (f := 11) (args := #[.pointer (some ⟨g_x, 0, none⟩), .pointer (some ⟨g_o, 0, none⟩), .pointer (some ⟨g_a, 0, none⟩), .pointer (some ⟨g_e, 0, none⟩)]) (by simp) (by simp [go_sem]) ?_
     refine (catch_idle _ _ _ _ _).mono ?_
     rintro e u' wf ⟨rfl, rfl, rfl⟩
     simp [Leaves, settle, results, Tryz.results9, go_sem, hb1, hb2, hb3]
     have hv := HV.out
     subst hv
     simp only [ParseR]
     rw [HK.out]
     rw [if_neg (by omega)]
     exact ⟨HF.out.own3 hb4 (by omega) (by omega) (by omega) (by omega), _, rfl, Hx.keep (fun b hb ho => ⟨hb4.block b hb (fun h => by omega), ho.1⟩) _ _ I_h.out⟩
end Go.Proofs.YtjabhmepafofmaaGreatDoor
