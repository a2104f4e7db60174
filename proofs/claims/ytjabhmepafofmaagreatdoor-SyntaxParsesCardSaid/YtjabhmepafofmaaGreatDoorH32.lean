/- Xq -/
import Derived.Test.YtjabhmepafofmaaGreatDoorH01
import Derived.Test.YtjabhmepafofmaaGreatDoorH35
import Derived.Test.YtjabhmepafofmaaGreatDoorH36
import Derived.Test.YtjabhmepafofmaaGreatDoorH24
set_option linter.unusedVariables false
set_option linter.unusedSimpArgs false
namespace Go.Proofs.YtjabhmepafofmaaGreatDoor
open Go.RowKit
/-- the program from a state of the reader on -/
def progS (l : List Tok) (g : Gr) (j : Nat) (acc : List D) (q : Nat) (b : Bool) : Re (List D) := if b = true then .fail q else progR l g j acc q
def oneD (g : Gr) : Pr D := (g.dec true).bind fun d => (must ⟨#[59]⟩).bind fun _ => .ret d
theorem prog_end {l : List Tok} {g : Gr} {j : Nat} {acc : List D} {q : Nat} {V : Re (List D)} (h : progS l g j acc q false = V) (ho : V ≠ .out) (hq : l.length ≤ q) : V = .ok acc q := by
  cases j with
  | zero => exact absurd h.symm ho
  | succ j =>
    rw [← h]
    show progR l g (j + 1) acc q = _
    rw [progR, if_neg (by omega)]
theorem prog_one {l : List Tok} {g : Gr} {j : Nat} {acc : List D} {q : Nat} {V : Re (List D)} (h : progS l g j acc q false = V) (ho : V ≠ .out) (hq : q < l.length) :
    ∃ j', runS l (oneD g) q false ≠ .out ∧ ∀ q2 b2 d, runS l (oneD g) q false = runS l (.ret d) q2 b2 → progS l g j' (acc ++ [d]) q2 b2 = V := by
  cases j with
  | zero => exact absurd h.symm ho
  | succ j =>
    have h2 : ((oneD g).run l q).andThen (fun d r => progR l g j (acc ++ [d]) r) = V := by
      rw [← h]
      show _ = progR l g (j + 1) acc q
      rw [progR, if_pos hq, oneD, run_bind]
      cases (g.dec true).run l q with
      | out => rfl
      | fail r => rfl
      | ok d r =>
        show (((must _).bind fun _ => .ret d).run l r).andThen _ = _
        rw [run_bind]
        show ((((must _).run l r).andThen _).andThen _) = ((must _).run l r).andThen _
        cases (must ⟨#[59]⟩).run l r <;> rfl
    refine ⟨j, fun e => ?_, fun q2 b2 d e => ?_⟩
    · have e : (oneD g).run l q = .out := e
      rw [e] at h2
      exact ho h2.symm
    · have e : (oneD g).run l q = _ := e
      rw [e] at h2
      cases b2 with
      | true => exact h2
      | false => exact h2
set_option maxHeartbeats 4000000 in
set_option maxRecDepth 100000 in
theorem refparse_any {a : Option Addr} {c : Nat} {l : List Tok} {w0 : World} (n M : Nat) (hT0 : TokAt w0 a l) (hlen : l.length ≤ 1048576) (hok : ∀ gp, QOks ⟨gp, a, c, l, fun _ => True⟩ (gram n)) (ho : progR l (gram n) M [] 0 ≠ .out) :
    Calls Tryz.prog 7 #[.slice a l.length c] w0 (ParseR w0 (progR l (gram n) M [] 0)) := by
  have hfew := fun (acc : List D) (q : Nat) (h : progR l (gram n) M [] 0 = .ok acc q) => prog_bd (l := l) (n := n) M [] 0 acc q h (Nat.zero_le _)
  obtain ⟨g, hg0⟩ : ∃ g, gram n = g := ⟨_, rfl⟩
  rw [hg0] at hok ho hfew ⊢
  obtain ⟨V, hV⟩ : ∃ V, progR l g M [] 0 = V := ⟨_, rfl⟩
  rw [hV] at ho hfew ⊢
  have HO := Lib.hid ho
  have HOK := Lib.hid hok
  have HFW := Lib.hid hfew
  have HT := Lib.hid hT0
  have HV : Hid (progS l g M [] 0 false = V) := Lib.hid hV
  clear ho hok hV hT0 hfew hg0
  go_enter Tryz.func7, Tryz.ntmps7
  go_upto_region 1 with fail
  go_wp2_with fail
  obtain ⟨w, hn⟩ : ∃ wZ, w0.alloc (.cells #[.slice a l.length c, .int .i64 0, .bool false] 57) = wZ := ⟨_, rfl⟩
  obtain ⟨gp, hg⟩ : ∃ gZ, w0.heap.size = gZ := ⟨_, rfl⟩
  rw [hn, hg]
  have HW0 : Hid (Fr No w0 w) := Lib.hid (by rw [← hn]; exact Fr.alloc _ _)
  have R_gp : Hid (w.heap[gp]? = some (.cells #[.slice a l.length c, .int .i64 ((0 : Nat) : Int), .bool false] 57 (0, 0))) := Lib.hid (by rw [← hn, ← hg]; exact new_block _ _)
  have hws : w.heap.size ≤ gp + 1 := by rw [← hn, ← hg, size_alloc]; exact Nat.le_refl _
  have HGP := Lib.hid hg
  have HP0 : Hid (RPar w gp a c l 0 false) := Lib.hid ⟨R_gp.out, (HT.out.row gp (by rw [hg]; exact Nat.le_refl _)).fr (HW0.out.just gp), Nat.zero_le _, hlen⟩
  have HH := Lib.hid (HOK.out gp)
  have HF : Hid (Fr (Just gp) w w) := Lib.hid (Fr.refl _ _)
  have hgw : gp < w.heap.size := lt_of_block R_gp.out
  have hq_p := Nat.zero_le l.length
  clear hn hg HOK
  go_loopw [6] (fun v wx => ∃ (m q j : Nat) (bb : Bool) (acc : List D) (av : Option Addr) (cv : Nat), v = .slice av m cv ∧ m ≤ q + 1 ∧ Hid (bb = false → m ≤ q) ∧ q ≤ l.length ∧ meR gp l.length wx = 2 * (l.length - q) + bt bb ∧ Hid (OutG RX 46 16 (fun b => gp < b) (gp + 1) wx (.slice av m cv) m (acc.map xD)) ∧ Hid (wx.heap[gp]? = some (.cells #[.slice a l.length c, .int .i64 (q : Nat), .bool bb] 57 (0, 0))) ∧ Hid (Fr (Just gp) w wx) ∧ Hid (progS l g j acc q bb = V)) (fun _ wx => meR gp l.length wx)
  case atStart => exact ⟨0, 0, M, false, [], none, 0, rfl, by omega, Lib.hid (fun _ => Nat.le_refl _), Nat.zero_le _, meR_at R_gp.out, Lib.hid (OutG.nil _ _ _), R_gp, HF, HV⟩
  case round =>
    clear R_gp HF HV
    obtain ⟨m, q, j, bb, acc, av, cv, rfl, hmq, HMQ, hq_q, hpq, O_l, R_gp, HF, HV⟩ := hrel
    obtain ⟨wL, hwL⟩ : ∃ wL, wL = wr := ⟨wr, rfl⟩
    rw [← hwL] at O_l R_gp HF hpq ⊢
    clear hwL
    have HPQ := Lib.hid hpq
    clear hpq
    have hacc : acc.length = m := by have h := O_l.out.1; rwa [List.length_map] at h
    have HACC := Lib.hid hacc
    clear hacc
    cases bb with
    | true =>
      obtain ⟨d0_gp, d1_gp, d2_gp⟩ : wL.cell? ⟨gp, 0, none⟩ = some (.slice a l.length c) ∧ wL.cell? ⟨gp, 1, none⟩ = some (.int .i64 (q : Nat)) ∧ wL.cell? ⟨gp, 2, none⟩ = some (.bool true) := ⟨cell_of R_gp.out 0, cell_of R_gp.out 1, cell_of R_gp.out 2⟩
      obtain ⟨f0_gp, f1_gp, f2_gp⟩ : wL.frozen? ⟨gp, 0, none⟩ = false ∧ wL.frozen? ⟨gp, 1, none⟩ = false ∧ wL.frozen? ⟨gp, 2, none⟩ = false := ⟨free_of R_gp.out 0, free_of R_gp.out 1, free_of R_gp.out 2⟩
      go_upto_region 7 with fail
      go_quiet (fail)
      obtain ⟨wb, hwb⟩ : ∃ wb, wL.drewN nq = wb := ⟨_, rfl⟩
      have HFB : Hid (Fr No wL wb) := Lib.hid (by rw [← hwb]; exact Fr.drewN _ _)
      rw [hwb]
      clear hwb
      go_wp2_with fail
      have hv : .fail q = V := HV.out
      subst hv
      refine bodyPost_ret (results_tmp3 rfl _ _ _) rfl ?_
      exact ⟨rfl, HW0.out.own (HF.out.then HFB.out) (fun i (e : i = gp) => by rw [e, ← HGP.out]; exact Nat.le_refl _)⟩
    | false =>
      by_cases hlt : q < l.length
      · skip
        have hd : decide ((q : Int) < (l.length : Int)) = true := decide_eq_true (by omega)
        have hmq2 : m ≤ q := HMQ.out rfl
        obtain ⟨j2, ho1, hstep⟩ := prog_one HV.out HO.out hlt
        have HST := Lib.hid hstep
        obtain ⟨V2, hv⟩ : ∃ V2, runS l (oneD g) q false = V2 := ⟨_, rfl⟩
        rw [hv] at ho1 HST
        replace HO := Lib.hid ho1
        replace HV := Lib.hid hv
        clear ho1 hv hstep
        have hv := HV.out
        (try simp only [oneD, if_true, if_false, Bool.false_eq_true] at hv)
        (try dsimp only at hv)
        replace HV := Lib.hid hv
        clear hv
        obtain ⟨d0_gp, d1_gp, d2_gp⟩ : wL.cell? ⟨gp, 0, none⟩ = some (.slice a l.length c) ∧ wL.cell? ⟨gp, 1, none⟩ = some (.int .i64 (q : Nat)) ∧ wL.cell? ⟨gp, 2, none⟩ = some (.bool false) := ⟨cell_of R_gp.out 0, cell_of R_gp.out 1, cell_of R_gp.out 2⟩
        obtain ⟨f0_gp, f1_gp, f2_gp⟩ : wL.frozen? ⟨gp, 0, none⟩ = false ∧ wL.frozen? ⟨gp, 1, none⟩ = false ∧ wL.frozen? ⟨gp, 2, none⟩ = false := ⟨free_of R_gp.out 0, free_of R_gp.out 1, free_of R_gp.out 2⟩
        go_upto_region 4 with fail
        clear d0_gp f0_gp d1_gp f1_gp d2_gp f2_gp
        go_wp2_with fail
        have hsz_y : gp < wL.heap.size := lt_of_block R_gp.out
        obtain ⟨b_y, hB⟩ : ∃ bZ, wL.heap.size = bZ := ⟨_, rfl⟩
        have K_gp_y := lb hB R_gp
        have KB_y := bs hB HF
        clear hsz_y
        have OB_l_y : Hid (∀ b, (Value.slice av m cv).ownBlock = some b → b < b_y) := Lib.hid (fun bb hbb => by rw [← hB]; exact (O_l.out.block hbb).2)
        refine ((HH.out.dec true) _ _ _ (RPar.of HP0.out HF.out R_gp.out hq_q) ⟨fun _ => trivial, fun _ _ => trivial⟩ (step_out HV.out HO.out)).mono ?_
        rintro e w1 ⟨x_y, q2, bb3, hst, ⟨cs_y, rfl, hc⟩, hf, hp⟩
        rw [hB] at hc
        clear hB
        obtain ⟨h_y, hH⟩ : ∃ hZ, w1.heap.size = hZ := ⟨_, rfl⟩
        have I_y := Lib.hid (hc.mono (ok' := fun b => b_y ≤ b ∧ b < h_y) (fun b hb ho => ⟨ho, by rw [← hH]; exact hb⟩))
        have Z_h_y : h_y ≤ w1.heap.size := Nat.le_of_eq hH.symm
        clear hc hH
        replace HV := Lib.hid (stepV HV.out hst)
        have hmoq2 := step_mono hst
        clear hst
        have hv := HV.out
        (try simp only [if_true, if_false, Bool.false_eq_true] at hv)
        (try dsimp only at hv)
        replace HV := Lib.hid hv
        clear hv
        have HS := Lib.hid hf
        have RG := Lib.hid hp.blk
        have hq4 := hp.le
        clear hf hp
        replace O_l := Lib.hid (O_l.out.keep keptX HS.out (fun b hb (h : b = gp) => by have hb : gp < b := hb; omega) (fun b hb (h : b = gp) => by have := (O_l.out.block hb).1; omega))
        replace HF := Lib.hid (HF.out.trans HS.out (fun _ _ h => h))
        replace R_gp := RG
        clear HS RG
        obtain ⟨z0_y, z_y, p1_y, q1_y, r1_y, p2_y, q2_y, r2_y, p3_y, q3_y, r3_y, k_y, s_y, n_y, a_y, m_y, c_y, ek_y, es_y, en_y, eu_y, ea1_y, em1_y, ec1_y, ea2_y, em2_y, ec2_y, ea3_y, em3_y, ec3_y, ecs⟩ := hcD I_y.out
        subst ecs
        go_wp2_with (at_builtin; refine wpList_push keptX elemD rfl _ _ 25 rfl Tryz.underlying25 (fun b => gp < b) (gp + 1) (.slice av m cv) m (acc.map xD) rfl (O_l.out.no keptX (Fr.alloc _ _)) _ [.int .u8 z0_y, .string z_y, .slice p1_y q1_y r1_y, .slice p2_y q2_y r2_y, .slice p3_y q3_y r3_y, .int .u8 k_y, .string s_y, .int .i64 n_y, .slice a_y m_y c_y, .int .u8 ek_y, .string es_y, .int .i64 en_y, .string eu_y, .slice ea1_y em1_y ec1_y, .slice ea2_y em2_y ec2_y, .slice ea3_y em3_y ec3_y] 46 rfl (new_block _ _) (by simp [Value.oneCell']) rfl (xD x_y) (Hc.no (I_y.out.mono (ok' := fun b => gp < b ∧ Av (.slice av m cv) b) (fun b _ hb => ⟨by have := hb.1; omega, fun eb => by have := OB_l_y.out b eb; have := hb.1; omega⟩)) (Fr.alloc _ _)) (by unfold maxLen; omega) (by omega) (Nat.le_trans (lt_of_block R_gp.out) (Fr.alloc w1 (.cells #[.int .u8 z0_y, .string z_y, .slice p1_y q1_y r1_y, .slice p2_y q2_y r2_y, .slice p3_y q3_y r3_y, .int .u8 k_y, .string s_y, .int .i64 n_y, .slice a_y m_y c_y, .int .u8 ek_y, .string es_y, .int .i64 en_y, .string eu_y, .slice ea1_y em1_y ec1_y, .slice ea2_y em2_y ec2_y, .slice ea3_y em3_y ec3_y] 46)).size) ?_; intro a3 c3 wn HON HGN)
        have HFN : Hid (Fr (Just gp) w wn) := Lib.hid ((HF.out.trans ((Fr.alloc w1 (.cells #[.int .u8 z0_y, .string z_y, .slice p1_y q1_y r1_y, .slice p2_y q2_y r2_y, .slice p3_y q3_y r3_y, .int .u8 k_y, .string s_y, .int .i64 n_y, .slice a_y m_y c_y, .int .u8 ek_y, .string es_y, .int .i64 en_y, .string eu_y, .slice ea1_y em1_y ec1_y, .slice ea2_y em2_y ec2_y, .slice ea3_y em3_y ec3_y] 46)).just gp) (fun _ _ h => h)).trans HGN.out.fr (fun i hi hb => by have hb : gp + 1 ≤ i := hb; omega))
        have R_gpN := Lib.hid (HGN.out.fr.keeps ((Fr.alloc w1 (.cells #[.int .u8 z0_y, .string z_y, .slice p1_y q1_y r1_y, .slice p2_y q2_y r2_y, .slice p3_y q3_y r3_y, .int .u8 k_y, .string s_y, .int .i64 n_y, .slice a_y m_y c_y, .int .u8 ek_y, .string es_y, .int .i64 en_y, .string eu_y, .slice ea1_y em1_y ec1_y, .slice ea2_y em2_y ec2_y, .slice ea3_y em3_y ec3_y] 46)).keeps R_gp.out no_one) (fun hb => by have hb : gp + 1 ≤ gp := hb; omega))
        replace HF := HFN
        replace R_gp := R_gpN
        replace O_l := HON
        clear HFN R_gpN HGN HON I_y Z_h_y
        refine (signr (RPar.of HP0.out HF.out R_gp.out hq4) ⟨#[59]⟩).mono ?_
        rintro e w5 ⟨rfl, hf⟩
        have HS := Lib.hid hf
        clear hf
        replace R_gp := kn HS R_gp
        replace O_l := Lib.hid (O_l.out.no keptX HS.out)
        replace HF := Lib.hid (HF.out.trans (HS.out.just gp) (fun _ _ h => h))
        clear HS
        go_wp2_with fail
        refine (mustC (RPar.of HP0.out HF.out R_gp.out hq4) ⟨#[59]⟩ _ (sign_c (by kernel_rfl))).mono ?_
        rintro e w6 ⟨q7, bb8, rfl, hst, hf, hp, hmsq7⟩
        replace HV := Lib.hid (stepV HV.out hst)
        have hmoq7 := step_mono hst
        clear hst
        have hv := HV.out
        (try simp only [if_true, if_false, Bool.false_eq_true] at hv)
        (try dsimp only at hv)
        replace HV := Lib.hid hv
        clear hv
        have HS := Lib.hid hf
        have RG := Lib.hid hp.blk
        have hq9 := hp.le
        clear hf hp
        replace O_l := Lib.hid (O_l.out.keep keptX HS.out (fun b hb (h : b = gp) => by have hb : gp < b := hb; omega) (fun b hb (h : b = gp) => by have := (O_l.out.block hb).1; omega))
        replace HF := Lib.hid (HF.out.trans HS.out (fun _ _ h => h))
        replace R_gp := RG
        clear HS RG
        go_wp2_with fail
        exact ⟨⟨m + 1, q7, j2, bb8, acc ++ [x_y], a3, c3, rfl, by omega, Lib.hid (fun h => by have := hmsq7 h; omega), hq9, meR_at R_gp.out, Lib.hid (by rw [List.map_append]; exact O_l.out), R_gp, HF, Lib.hid (HST.out _ _ _ HV.out.symm)⟩, by rw [meR_at R_gp.out, HPQ.out]; exact me_lt (by omega) (fun h => by have := hmsq7 h; omega) hq9⟩
      have hd : decide ((q : Int) < (l.length : Int)) = false := decide_eq_false (by omega)
      have hV := prog_end HV.out HO.out (by omega)
      subst hV
      obtain ⟨d0_gp, d1_gp, d2_gp⟩ : wL.cell? ⟨gp, 0, none⟩ = some (.slice a l.length c) ∧ wL.cell? ⟨gp, 1, none⟩ = some (.int .i64 (q : Nat)) ∧ wL.cell? ⟨gp, 2, none⟩ = some (.bool false) := ⟨cell_of R_gp.out 0, cell_of R_gp.out 1, cell_of R_gp.out 2⟩
      obtain ⟨f0_gp, f1_gp, f2_gp⟩ : wL.frozen? ⟨gp, 0, none⟩ = false ∧ wL.frozen? ⟨gp, 1, none⟩ = false ∧ wL.frozen? ⟨gp, 2, none⟩ = false := ⟨free_of R_gp.out 0, free_of R_gp.out 1, free_of R_gp.out 2⟩
      go_upto_region 8 with fail
      clear d0_gp f0_gp d1_gp f1_gp d2_gp f2_gp
      go_wp2_with fail
      obtain ⟨h_l, hH⟩ : ∃ hZ, wL.heap.size = hZ := ⟨_, rfl⟩
      have I_l := Lib.hid (hx_of_out (ok' := fun b => gp + 1 ≤ b ∧ b < h_l) O_l.out (by decide) (fun b hb h2 => ⟨hb, by rw [← hH]; exact h2⟩) (fun b h2 hb => ⟨hb, by rw [← hH]; exact h2⟩))
      have Z_h_l : h_l ≤ wL.heap.size := Nat.le_of_eq hH.symm
      clear hH O_l
      clear Z_h_l
      have hfew : Few (nDs acc) := by
        have h := HFW.out acc q rfl
        simp only [nDs] at h
        show _ < _
        omega
      refine (rdepth_any (l := acc) I_l.out hfew).mono ?_
      rintro e w5 ⟨rfl, hf⟩
      have HF5 : Hid (Fr No w0 w5) := Lib.hid (HW0.out.own (HF.out.then hf) (fun i (e : i = gp) => by rw [e, ← HGP.out]; exact Nat.le_refl _))
      have HI : Hid (Hx (fun b => w0.heap.size ≤ b) w5 (.row 16 (acc.map xD)) (.slice av m cv)) := Lib.hid (Hx.keep (fun b hb ho => ⟨hf.block b hb no_one, by have := ho.1; have := HGP.out; omega⟩) _ _ I_l.out)
      clear hf hfew I_l
      obtain ⟨dz, hz⟩ : ∃ z, dProg acc = z := ⟨_, rfl⟩
      rw [hz]
      have HDZ := Lib.hid hz
      clear hz
      by_cases hd : 100 < dz
      · have hdd : decide (100 < dz) = true := decide_eq_true hd
        have HD := Lib.hid hd
        clear hd
        go_wp2_with fail
        refine bodyPost_ret (results_tmp3 rfl _ _ _) rfl ?_
        refine ⟨HF5.out, ?_⟩
        rw [HDZ.out, if_pos HD.out]
        rfl
      · have hdd : decide (100 < dz) = false := decide_eq_false hd
        have HD := Lib.hid hd
        clear hd
        go_wp2_with fail
        refine bodyPost_ret (results_tmp3 rfl _ _ _) rfl ?_
        refine ⟨HF5.out, ?_⟩
        rw [HDZ.out, if_neg (Int.not_lt.2 HD.out)]
        exact ⟨.slice av m cv, rfl, HI.out⟩
end Go.Proofs.YtjabhmepafofmaaGreatDoor
