/- Re -/
import Derived.Test.YtjabhmepafofmaaGreatDoorH30
set_option linter.unusedVariables false
set_option linter.unusedSimpArgs false
namespace Go.Proofs.YtjabhmepafofmaaGreatDoor
open Go.RowKit
set_option maxHeartbeats 8000000 in
set_option maxRecDepth 100000 in
theorem rexp_walk (k : Nat) (s : ByteArray) (n : Int) (u : ByteArray) (l : List E) (r : List R) (d : List D) (h : ∀ t ∈ l, RE t) (h2 : ∀ t ∈ r, RRu t) (h3 : ∀ t ∈ d, RD t) : RE (.mk k s n u l r d) := by
  intro ok w cs hc
  obtain ⟨a1, c1, a3, c3, a5, c5, rfl, hx, hx2, hx3⟩ := hcE_parts hc
  clear hc
  obtain ⟨N, hN⟩ : ∃ N, l.length = N := ⟨_, rfl⟩
  rw [hN] at hx ⊢
  obtain ⟨M, hM⟩ : ∃ M, r.length = M := ⟨_, rfl⟩
  rw [hM] at hx2 ⊢
  obtain ⟨K, hK⟩ : ∃ K, d.length = K := ⟨_, rfl⟩
  rw [hK] at hx3 ⊢
  have HX := Lib.hid hx
  have HX2 := Lib.hid hx2
  have HX3 := Lib.hid hx3
  have HH := Lib.hid h
  have HH2 := Lib.hid h2
  have HH3 := Lib.hid h3
  have HN := Lib.hid hN
  have HM := Lib.hid hM
  have HK := Lib.hid hK
  clear hx hx2 hx3 h h2 h3 hN hM hK
  go_enter Tryz.func62, Tryz.ntmps62
  go_upto_region 1 with fail
  obtain ⟨w1, hn⟩ : ∃ wZ, w.alloc (.cells #[.int .u8 k, .string s, .int .i64 n, .string u, .slice a1 N c1, .slice a3 M c3, .slice a5 K c5] 44) = wZ := ⟨_, rfl⟩
  obtain ⟨g_x, hg⟩ : ∃ gZ, w.heap.size = gZ := ⟨_, rfl⟩
  rw [hn, hg]
  have HW : Hid (Fr No w w1) := Lib.hid (by rw [← hn]; exact Fr.alloc _ _)
  have R_x : Hid (w1.heap[g_x]? = some (.cells #[.int .u8 k, .string s, .int .i64 n, .string u, .slice a1 N c1, .slice a3 M c3, .slice a5 K c5] 44 (0, 0))) := Lib.hid (by rw [← hn, ← hg]; exact new_block _ _)
  have HF : Hid (Fr No w1 w1) := Lib.hid (Fr.refl _ _)
  clear hn hg
  have HS0 : Hid (∀ w', Fr No w1 w' → w'.cell? ⟨g_x, 0, none⟩ = some (.int .u8 k) ∧ w'.cell? ⟨g_x, 1, none⟩ = some (.string s) ∧ w'.cell? ⟨g_x, 2, none⟩ = some (.int .i64 n) ∧ w'.cell? ⟨g_x, 3, none⟩ = some (.string u) ∧ w'.cell? ⟨g_x, 4, none⟩ = some (.slice a1 N c1) ∧ w'.cell? ⟨g_x, 5, none⟩ = some (.slice a3 M c3) ∧ w'.cell? ⟨g_x, 6, none⟩ = some (.slice a5 K c5)) := Lib.hid (fun w' hf => ⟨cell_of (hf.keeps R_x.out no_one) 0, cell_of (hf.keeps R_x.out no_one) 1, cell_of (hf.keeps R_x.out no_one) 2, cell_of (hf.keeps R_x.out no_one) 3, cell_of (hf.keeps R_x.out no_one) 4, cell_of (hf.keeps R_x.out no_one) 5, cell_of (hf.keeps R_x.out no_one) 6⟩)
  by_cases hk : k = 0
  · skip
    have hq : ((k : Int) == 0) = true := by simp [hk]
    obtain ⟨d0, d1, d2, d3, d4, d5, d6⟩ := HS0.out _ HF.out
    go_wp2_with fail
    go_ret
    exact ⟨by simp only [dE]; rw [if_pos hk]; rfl, HW.out⟩
  have hq : ((k : Int) == 0) = false := by simp only [beq_eq_false_iff_ne, ne_eq]; omega
  obtain ⟨d0, d1, d2, d3, d4, d5, d6⟩ := HS0.out _ HF.out
  go_wp2_with fail
  clear d0 d1 d2 d3 d4 d5 d6
  clear hq
  have ha0 : (0 : Int) ≤ 0 := Int.le_refl _
  go_loopw [3, 4] (fun m i wr => ∃ j : Nat, j ≤ N ∧ i = .int .i64 (j : Nat) ∧ m = .int .i64 (max 0 (mxUp dE l j)) ∧ Hid (Fr No w1 wr)) (fun _ i _ => N - intOf i)
  case atStart => exact ⟨0, Nat.zero_le _, rfl, by rw [mxUp_zero, Int.max_eq_left ha0], HF⟩
  case round =>
    clear HF
    obtain ⟨j, hj, rfl, rfl, HF⟩ := hrel
    obtain ⟨wL, hwL⟩ : ∃ wL, wL = wr := ⟨wr, rfl⟩
    rw [← hwL] at HF ⊢
    clear hwL wr
    obtain ⟨M_l, hM⟩ : ∃ M, max 0 (mxUp dE l j) = M := ⟨_, rfl⟩
    rw [hM]
    have HM_l := Lib.hid hM
    clear hM
    by_cases hlt : j < N
    · skip
      have hNL := hx_max (HX.out.no HW.out)
      rw [List.length_map, HN.out] at hNL
      have hd0 : decide (j < N) = true := decide_eq_true hlt
      have hj0 : (0 : Int) ≤ (j : Int) := by omega
      have hj1 : (j : Int) < (N : Int) := by omega
      obtain ⟨t, ht⟩ : ∃ t, l[j]? = some t := ⟨_, List.getElem?_eq_getElem (by rw [HN.out]; exact hlt)⟩
      have hmem := List.mem_of_getElem? ht
      have HMS : Hid (max M_l (dE t) = max 0 (mxUp dE l (j + 1))) := Lib.hid (by rw [← HM_l.out]; exact stepM 0 dE ht)
      obtain ⟨ge, oe, ce, hae, _, hle, hce, hxe⟩ := hx_at (HX.out.no HW.out) (j := j) (x := xE t) (by rw [List.getElem?_map, ht]; rfl)
      subst hae
      have HE := Lib.hid hxe
      obtain ⟨k_e, s_e, n_e, u_e, b1_e, m1_e, c1_e, b2_e, m2_e, c2_e, b3_e, m3_e, c3_e, ecs⟩ := hcE hxe
      subst ecs
      have HS1 : Hid (∀ w', Fr No w1 w' → w'.cell? ⟨g_x, 4, none⟩ = some (.slice (some ⟨ge, oe, none⟩) N c1) ∧ w'.cell? ⟨ge, oe + j * 7, none⟩ = some (.int .u8 k_e) ∧ w'.cell? ⟨ge, oe + j * 7 + 1, none⟩ = some (.string s_e) ∧ w'.cell? ⟨ge, oe + j * 7 + 2, none⟩ = some (.int .i64 n_e) ∧ w'.cell? ⟨ge, oe + j * 7 + 3, none⟩ = some (.string u_e) ∧ w'.cell? ⟨ge, oe + j * 7 + 4, none⟩ = some (.slice b1_e m1_e c1_e) ∧ w'.cell? ⟨ge, oe + j * 7 + 5, none⟩ = some (.slice b2_e m2_e c2_e) ∧ w'.cell? ⟨ge, oe + j * 7 + 6, none⟩ = some (.slice b3_e m3_e c3_e)) := Lib.hid (fun w' hf => by
        obtain ⟨q0, q1, q2, q3, q4, q5, q6⟩ := HS0.out w' hf
        exact ⟨q4, hf.cell (hce 0 _ rfl), hf.cell (hce 1 _ rfl), hf.cell (hce 2 _ rfl), hf.cell (hce 3 _ rfl), hf.cell (hce 4 _ rfl), hf.cell (hce 5 _ rfl), hf.cell (hce 6 _ rfl)⟩)
      clear hce hxe hle ht
      obtain ⟨d0, d1, d2, d3, d4, d5, d6, d7⟩ := HS1.out _ HF.out
      go_wp2_with fail
      clear d0 d1 d2 d3 d4 d5 d6 d7
      refine (HH.out t hmem ok _ _ (HE.out.no HF.out)).mono ?_
      rintro e w6 ⟨rfl, hf⟩
      have HC := Lib.hid hf
      clear hf
      replace HF := Lib.hid (HF.out.then HC.out)
      clear HC
      obtain ⟨m, hm⟩ : ∃ m, dE t = m := ⟨_, rfl⟩
      rw [hm] at HMS ⊢
      clear hm
      go_wp2_with fail
      all_goals
        exact ⟨⟨j + 1, by omega, by go_num, valM HMS.out (by omega), HF⟩, by simp [intOf]; omega⟩
    · skip
      have hd0 : decide (j < N) = false := decide_eq_false hlt
      have HV_l : Hid (M_l = max 0 (mx (l.map dE))) := Lib.hid (by rw [← HM_l.out, mxUp_all _ _ (HN.out.trans (by omega))])
      have hM0_l : 0 ≤ M_l := by rw [HV_l.out]; omega
      clear HM_l
      obtain ⟨d0, d1, d2, d3, d4, d5, d6⟩ := HS0.out _ HF.out
      go_wp2_with fail
      clear d0 d1 d2 d3 d4 d5 d6
      clear hd0 hlt hj ha0
      have ha0 : (0 : Int) ≤ M_l := hM0_l
      go_loopw [3, 5] (fun m i wr => ∃ j : Nat, j ≤ M ∧ i = .int .i64 (j : Nat) ∧ m = .int .i64 (max M_l (mxUp dR r j)) ∧ Hid (Fr No w1 wr)) (fun _ i _ => M - intOf i)
      case atStart => exact ⟨0, Nat.zero_le _, rfl, by rw [mxUp_zero, Int.max_eq_left ha0], HF⟩
      case round =>
        clear HF
        obtain ⟨j, hj, rfl, rfl, HF⟩ := hrel
        obtain ⟨wL, hwL⟩ : ∃ wL, wL = wr := ⟨wr, rfl⟩
        rw [← hwL] at HF ⊢
        clear hwL wr
        obtain ⟨M_r, hM⟩ : ∃ M, max M_l (mxUp dR r j) = M := ⟨_, rfl⟩
        rw [hM]
        have HM_r := Lib.hid hM
        clear hM
        by_cases hlt : j < M
        · skip
          have hNL := hx_max (HX2.out.no HW.out)
          rw [List.length_map, HM.out] at hNL
          have hd0 : decide (j < M) = true := decide_eq_true hlt
          have hj0 : (0 : Int) ≤ (j : Int) := by omega
          have hj1 : (j : Int) < (M : Int) := by omega
          obtain ⟨t, ht⟩ : ∃ t, r[j]? = some t := ⟨_, List.getElem?_eq_getElem (by rw [HM.out]; exact hlt)⟩
          have hmem := List.mem_of_getElem? ht
          have HMS : Hid (max M_r (dR t) = max M_l (mxUp dR r (j + 1))) := Lib.hid (by rw [← HM_r.out]; exact stepM M_l dR ht)
          obtain ⟨ge, oe, ce, hae, _, hle, hce, hxe⟩ := hx_at (HX2.out.no HW.out) (j := j) (x := xR t) (by rw [List.getElem?_map, ht]; rfl)
          subst hae
          obtain ⟨tp, te⟩ := t
          simp only [xR, xb] at hxe
          obtain ⟨ca, cb, ecs, h1, h2⟩ := Hc.split hxe
          subst ecs
          have HE1 := Lib.hid h1
          obtain ⟨k_e, s_e, n_e, b_e, m_e, cp_e, ecs⟩ := hcT h1
          subst ecs
          have HE2 := Lib.hid h2
          obtain ⟨k2_e, s2_e, n2_e, u2_e, b12_e, m12_e, c12_e, b22_e, m22_e, c22_e, b32_e, m32_e, c32_e, ecs⟩ := hcE h2
          subst ecs
          clear h1 h2
          have HS1 : Hid (∀ w', Fr No w1 w' → w'.cell? ⟨g_x, 5, none⟩ = some (.slice (some ⟨ge, oe, none⟩) M c3) ∧ w'.cell? ⟨ge, oe + j * 11, none⟩ = some (.int .u8 k_e) ∧ w'.cell? ⟨ge, oe + j * 11 + 1, none⟩ = some (.string s_e) ∧ w'.cell? ⟨ge, oe + j * 11 + 2, none⟩ = some (.int .i64 n_e) ∧ w'.cell? ⟨ge, oe + j * 11 + 3, none⟩ = some (.slice b_e m_e cp_e) ∧ w'.cell? ⟨ge, oe + j * 11 + 4, none⟩ = some (.int .u8 k2_e) ∧ w'.cell? ⟨ge, oe + j * 11 + 5, none⟩ = some (.string s2_e) ∧ w'.cell? ⟨ge, oe + j * 11 + 6, none⟩ = some (.int .i64 n2_e) ∧ w'.cell? ⟨ge, oe + j * 11 + 7, none⟩ = some (.string u2_e) ∧ w'.cell? ⟨ge, oe + j * 11 + 8, none⟩ = some (.slice b12_e m12_e c12_e) ∧ w'.cell? ⟨ge, oe + j * 11 + 9, none⟩ = some (.slice b22_e m22_e c22_e) ∧ w'.cell? ⟨ge, oe + j * 11 + 10, none⟩ = some (.slice b32_e m32_e c32_e)) := Lib.hid (fun w' hf => by
            obtain ⟨q0, q1, q2, q3, q4, q5, q6⟩ := HS0.out w' hf
            exact ⟨q5, hf.cell (hce 0 _ rfl), hf.cell (hce 1 _ rfl), hf.cell (hce 2 _ rfl), hf.cell (hce 3 _ rfl), hf.cell (hce 4 _ rfl), hf.cell (hce 5 _ rfl), hf.cell (hce 6 _ rfl), hf.cell (hce 7 _ rfl), hf.cell (hce 8 _ rfl), hf.cell (hce 9 _ rfl), hf.cell (hce 10 _ rfl)⟩)
          clear hce hxe hle ht
          obtain ⟨d0, d1, d2, d3, d4, d5, d6, d7, d8, d9, d10, d11⟩ := HS1.out _ HF.out
          go_upto_region 11 with fail
          clear d0 d1 d2 d3 d4 d5 d6 d7 d8 d9 d10 d11
          refine region_e (fun w' => w'.cell? ⟨g_x, 5, none⟩ = some (.slice (some ⟨ge, oe, none⟩) M c3) ∧ w'.cell? ⟨ge, oe + j * 11, none⟩ = some (.int .u8 k_e) ∧ w'.cell? ⟨ge, oe + j * 11 + 1, none⟩ = some (.string s_e) ∧ w'.cell? ⟨ge, oe + j * 11 + 2, none⟩ = some (.int .i64 n_e) ∧ w'.cell? ⟨ge, oe + j * 11 + 3, none⟩ = some (.slice b_e m_e cp_e) ∧ w'.cell? ⟨ge, oe + j * 11 + 4, none⟩ = some (.int .u8 k2_e) ∧ w'.cell? ⟨ge, oe + j * 11 + 5, none⟩ = some (.string s2_e) ∧ w'.cell? ⟨ge, oe + j * 11 + 6, none⟩ = some (.int .i64 n2_e) ∧ w'.cell? ⟨ge, oe + j * 11 + 7, none⟩ = some (.string u2_e) ∧ w'.cell? ⟨ge, oe + j * 11 + 8, none⟩ = some (.slice b12_e m12_e c12_e) ∧ w'.cell? ⟨ge, oe + j * 11 + 9, none⟩ = some (.slice b22_e m22_e c22_e) ∧ w'.cell? ⟨ge, oe + j * 11 + 10, none⟩ = some (.slice b32_e m32_e c32_e)) [] (by kernel_rfl) ?_ (fun hHeld => ?_)
          · exact HS1.out _ (HF.out.then (Fr.drew _))
          obtain ⟨w7, hwd⟩ : ∃ wZ, wZ = wL.drew := ⟨_, rfl⟩
          have HS : Hid (Fr No wL w7) := Lib.hid (by rw [hwd]; exact Fr.drew _)
          rw [← hwd] at hHeld ⊢
          clear hwd
          replace HF := Lib.hid (HF.out.then HS.out)
          clear HS
          refine take_op 0 (some 32) (Op.move ( .tmp 3)) 3 ?_ (by kernel_rfl) (by kernel_rfl) (by kernel_rfl) (fun _ _ _ h => h) ?_ (by assumption) ?_
          rotate_left
          · intro w hSw; (try dsimp only at hSw); go_simp; (try (with_reducible rfl))
          try simp only [Act.put, List.setIfInBounds_toArray, List.set_cons_zero, List.set_cons_succ]
          refine take_op 1 (some 33) (Op.fieldAddr 44 ( .tmp 1) 5) 0 ?_ (by kernel_rfl) (by kernel_rfl) (by kernel_rfl) (fun _ _ _ h => h) ?_ (by assumption) ?_
          rotate_left
          · intro w hSw; (try dsimp only at hSw); go_simp; (try (with_reducible rfl))
          try simp only [Act.put, List.setIfInBounds_toArray, List.set_cons_zero, List.set_cons_succ]
          refine take_op 2 (some 34) (Op.load 42 ( .tmp 33)) 42 ?_ (by kernel_rfl) (by kernel_rfl) (by kernel_rfl) (fun _ _ _ h => h) ?_ (by assumption) ?_
          rotate_left
          · intro w hSw; (try dsimp only at hSw); go_simp; (try (with_reducible rfl))
          try simp only [Act.put, List.setIfInBounds_toArray, List.set_cons_zero, List.set_cons_succ]
          refine take_op 3 (some 35) (Op.move ( .tmp 5)) 3 ?_ (by kernel_rfl) (by kernel_rfl) (by kernel_rfl) (fun _ _ _ h => h) ?_ (by assumption) ?_
          rotate_left
          · intro w hSw; (try dsimp only at hSw); go_simp; (try (with_reducible rfl))
          try simp only [Act.put, List.setIfInBounds_toArray, List.set_cons_zero, List.set_cons_succ]
          refine take_op 4 (some 36) (Op.indexAddr 42 ( .tmp 34) ( .tmp 35)) 0 ?_ (by kernel_rfl) (by kernel_rfl) (by kernel_rfl) (fun _ _ _ h => h) ?_ (by assumption) ?_
          rotate_left
          · intro w hSw; (try dsimp only at hSw); go_simp; (try (with_reducible rfl))
          try simp only [Act.put, List.setIfInBounds_toArray, List.set_cons_zero, List.set_cons_succ]
          refine take_op 5 (some 37) (Op.fieldAddr 99 ( .tmp 36) 0) 0 ?_ (by kernel_rfl) (by kernel_rfl) (by kernel_rfl) (fun _ _ _ h => h) ?_ (by assumption) ?_
          rotate_left
          · intro w hSw; (try dsimp only at hSw); go_simp; (try (with_reducible rfl))
          try simp only [Act.put, List.setIfInBounds_toArray, List.set_cons_zero, List.set_cons_succ]
          refine take_op 6 (some 38) (Op.load 97 ( .tmp 37)) 97 ?_ (by kernel_rfl) (by kernel_rfl) (by kernel_rfl) (fun _ _ _ h => h) ?_ (by assumption) ?_
          rotate_left
          · intro w hSw; (try dsimp only at hSw); go_simp; (try (with_reducible rfl))
          try simp only [Act.put, List.setIfInBounds_toArray, List.set_cons_zero, List.set_cons_succ]
          refine take_op 8 (some 40) (Op.fieldAddr 44 ( .tmp 1) 5) 0 ?_ (by kernel_rfl) (by kernel_rfl) (by kernel_rfl) (fun _ _ _ h => h) ?_ (by assumption) ?_
          rotate_left
          · intro w hSw; (try dsimp only at hSw); go_simp; (try (with_reducible rfl))
          try simp only [Act.put, List.setIfInBounds_toArray, List.set_cons_zero, List.set_cons_succ]
          refine take_op 9 (some 41) (Op.load 42 ( .tmp 40)) 42 ?_ (by kernel_rfl) (by kernel_rfl) (by kernel_rfl) (fun _ _ _ h => h) ?_ (by assumption) ?_
          rotate_left
          · intro w hSw; (try dsimp only at hSw); go_simp; (try (with_reducible rfl))
          try simp only [Act.put, List.setIfInBounds_toArray, List.set_cons_zero, List.set_cons_succ]
          refine take_op 10 (some 42) (Op.move ( .tmp 5)) 3 ?_ (by kernel_rfl) (by kernel_rfl) (by kernel_rfl) (fun _ _ _ h => h) ?_ (by assumption) ?_
          rotate_left
          · intro w hSw; (try dsimp only at hSw); go_simp; (try (with_reducible rfl))
          try simp only [Act.put, List.setIfInBounds_toArray, List.set_cons_zero, List.set_cons_succ]
          refine take_op 11 (some 43) (Op.indexAddr 42 ( .tmp 41) ( .tmp 42)) 0 ?_ (by kernel_rfl) (by kernel_rfl) (by kernel_rfl) (fun _ _ _ h => h) ?_ (by assumption) ?_
          rotate_left
          · intro w hSw; (try dsimp only at hSw); go_simp; (try (with_reducible rfl))
          try simp only [Act.put, List.setIfInBounds_toArray, List.set_cons_zero, List.set_cons_succ]
          refine take_op 12 (some 44) (Op.fieldAddr 99 ( .tmp 43) 1) 0 ?_ (by kernel_rfl) (by kernel_rfl) (by kernel_rfl) (fun _ _ _ h => h) ?_ (by assumption) ?_
          rotate_left
          · intro w hSw; (try dsimp only at hSw); go_simp; (try (with_reducible rfl))
          try simp only [Act.put, List.setIfInBounds_toArray, List.set_cons_zero, List.set_cons_succ]
          refine take_op 13 (some 45) (Op.load 44 ( .tmp 44)) 44 ?_ (by kernel_rfl) (by kernel_rfl) (by kernel_rfl) (fun _ _ _ h => h) ?_ (by assumption) ?_
          rotate_left
          · intro w hSw; (try dsimp only at hSw); go_simp; (try (with_reducible rfl))
          try simp only [Act.put, List.setIfInBounds_toArray, List.set_cons_zero, List.set_cons_succ]
          refine ready_e (rs := [7]) (by kernel_rfl) (by simp) ?_
          refine (do_mid (o := _) rfl (fun K hK => ?_) none_e)
          go_simp
          go_at_call 89
          refine ((HH2.out _ hmem).1 ok _ _ (HE1.out.no HF.out)).mono ?_
          rintro e w8 ⟨rfl, hf⟩
          have HC := Lib.hid hf
          clear hf
          replace HF := Lib.hid (HF.out.then HC.out)
          clear HC
          obtain ⟨m1, hm1⟩ : ∃ m, dP tp = m := ⟨_, rfl⟩
          rw [hm1]
          have HM1 := Lib.hid hm1
          clear hm1
          refine hK.out _ _ ?_ (fun hHeld => ?_)
          · exact HS1.out _ HF.out
          clear hK K
          try dsimp only
          try simp only [Act.put, List.setIfInBounds_toArray, List.set_cons_zero, List.set_cons_succ]
          refine ready_e (rs := [14]) (by kernel_rfl) (by simp) ?_
          refine (do_mid (o := _) rfl (fun K hK => ?_) none_e)
          go_simp
          go_at_call 62
          refine ((HH2.out _ hmem).2 ok _ _ (HE2.out.no HF.out)).mono ?_
          rintro e w9 ⟨rfl, hf⟩
          have HC := Lib.hid hf
          clear hf
          replace HF := Lib.hid (HF.out.then HC.out)
          clear HC
          obtain ⟨m2, hm2⟩ : ∃ m, dE te = m := ⟨_, rfl⟩
          rw [hm2]
          have HM2 := Lib.hid hm2
          clear hm2
          refine hK.out _ _ ?_ (fun hHeld => ?_)
          · exact HS1.out _ HF.out
          clear hK K
          try dsimp only
          try simp only [Act.put, List.setIfInBounds_toArray, List.set_cons_zero, List.set_cons_succ]
          refine take_op 15 (some 47) (Op.call { callee := Callee.builtin Builtin.max, args := #[ .tmp 32,  .tmp 39,  .tmp 46], argTypes := #[3, 3, 3] }) 3 ?_ (by kernel_rfl) (by kernel_rfl) (by kernel_rfl) (fun _ _ _ h => h) ?_ (by assumption) ?_
          rotate_left
          · intro w hSw; (try dsimp only at hSw); go_simp; (try (with_reducible rfl))
          try simp only [Act.put, List.setIfInBounds_toArray, List.set_cons_zero, List.set_cons_succ]
          refine take_op 16 (some 3) (Op.assign ( .tmp 47)) 3 ?_ (by kernel_rfl) (by kernel_rfl) (by kernel_rfl) (fun _ _ _ h => h) ?_ (by assumption) ?_
          rotate_left
          · intro w hSw; (try dsimp only at hSw); go_simp; (try (with_reducible rfl))
          try simp only [Act.put, List.setIfInBounds_toArray, List.set_cons_zero, List.set_cons_succ]
          refine done_e (by kernel_rfl) ?_ _
          (try simp only [Exit.inBlock, Exit.then])
          have HMX : Hid (max M_r (max m1 m2) = max M_l (mxUp dR r (j + 1))) := Lib.hid (by rw [← HMS.out]; simp only [dR]; rw [HM1.out, HM2.out])
          clear HMS
          go_wp2_with fail
          all_goals
            exact ⟨⟨j + 1, by omega, by go_num, valM HMX.out (by omega), HF⟩, by simp [intOf]; omega⟩
        · skip
          have hd0 : decide (j < M) = false := decide_eq_false hlt
          have HV_r : Hid (M_r = max M_l (mx (r.map dR))) := Lib.hid (by rw [← HM_r.out, mxUp_all _ _ (HM.out.trans (by omega))])
          have hM0_r : 0 ≤ M_r := by rw [HV_r.out]; omega
          clear HM_r
          obtain ⟨d0, d1, d2, d3, d4, d5, d6⟩ := HS0.out _ HF.out
          go_wp2_with fail
          clear d0 d1 d2 d3 d4 d5 d6
          clear hd0 hlt hj ha0
          have ha0 : (0 : Int) ≤ M_r := hM0_r
          go_loopw [3, 6] (fun m i wr => ∃ j : Nat, j ≤ K ∧ i = .int .i64 (j : Nat) ∧ m = .int .i64 (max M_r (mxUp dD d j)) ∧ Hid (Fr No w1 wr)) (fun _ i _ => K - intOf i)
          case atStart => exact ⟨0, Nat.zero_le _, rfl, by rw [mxUp_zero, Int.max_eq_left ha0], HF⟩
          case round =>
            clear HF
            obtain ⟨j, hj, rfl, rfl, HF⟩ := hrel
            obtain ⟨wL, hwL⟩ : ∃ wL, wL = wr := ⟨wr, rfl⟩
            rw [← hwL] at HF ⊢
            clear hwL wr
            obtain ⟨M_d, hM⟩ : ∃ M, max M_r (mxUp dD d j) = M := ⟨_, rfl⟩
            rw [hM]
            have HM_d := Lib.hid hM
            clear hM
            by_cases hlt : j < K
            · skip
              have hNL := hx_max (HX3.out.no HW.out)
              rw [List.length_map, HK.out] at hNL
              have hd0 : decide (j < K) = true := decide_eq_true hlt
              have hj0 : (0 : Int) ≤ (j : Int) := by omega
              have hj1 : (j : Int) < (K : Int) := by omega
              obtain ⟨t, ht⟩ : ∃ t, d[j]? = some t := ⟨_, List.getElem?_eq_getElem (by rw [HK.out]; exact hlt)⟩
              have hmem := List.mem_of_getElem? ht
              have HMS : Hid (max M_d (dD t) = max M_r (mxUp dD d (j + 1))) := Lib.hid (by rw [← HM_d.out]; exact stepM M_r dD ht)
              obtain ⟨ge, oe, ce, hae, _, hle, hce, hxe⟩ := hx_at (HX3.out.no HW.out) (j := j) (x := xD t) (by rw [List.getElem?_map, ht]; rfl)
              subst hae
              have HE := Lib.hid hxe
              obtain ⟨z0_e, z_e, p1_e, q1_e, r1_e, p2_e, q2_e, r2_e, p3_e, q3_e, r3_e, k_e, s_e, n_e, b_e, m_e, cp_e, k2_e, s2_e, n2_e, u_e, b1_e, m1_e, c1_e, b2_e, m2_e, c2_e, b3_e, m3_e, c3_e, ecs⟩ := hcD hxe
              subst ecs
              have HS1 : Hid (∀ w', Fr No w1 w' → w'.cell? ⟨g_x, 6, none⟩ = some (.slice (some ⟨ge, oe, none⟩) K c5) ∧ w'.cell? ⟨ge, oe + j * 16, none⟩ = some (.int .u8 z0_e) ∧ w'.cell? ⟨ge, oe + j * 16 + 1, none⟩ = some (.string z_e) ∧ w'.cell? ⟨ge, oe + j * 16 + 2, none⟩ = some (.slice p1_e q1_e r1_e) ∧ w'.cell? ⟨ge, oe + j * 16 + 3, none⟩ = some (.slice p2_e q2_e r2_e) ∧ w'.cell? ⟨ge, oe + j * 16 + 4, none⟩ = some (.slice p3_e q3_e r3_e) ∧ w'.cell? ⟨ge, oe + j * 16 + 5, none⟩ = some (.int .u8 k_e) ∧ w'.cell? ⟨ge, oe + j * 16 + 6, none⟩ = some (.string s_e) ∧ w'.cell? ⟨ge, oe + j * 16 + 7, none⟩ = some (.int .i64 n_e) ∧ w'.cell? ⟨ge, oe + j * 16 + 8, none⟩ = some (.slice b_e m_e cp_e) ∧ w'.cell? ⟨ge, oe + j * 16 + 9, none⟩ = some (.int .u8 k2_e) ∧ w'.cell? ⟨ge, oe + j * 16 + 10, none⟩ = some (.string s2_e) ∧ w'.cell? ⟨ge, oe + j * 16 + 11, none⟩ = some (.int .i64 n2_e) ∧ w'.cell? ⟨ge, oe + j * 16 + 12, none⟩ = some (.string u_e) ∧ w'.cell? ⟨ge, oe + j * 16 + 13, none⟩ = some (.slice b1_e m1_e c1_e) ∧ w'.cell? ⟨ge, oe + j * 16 + 14, none⟩ = some (.slice b2_e m2_e c2_e) ∧ w'.cell? ⟨ge, oe + j * 16 + 15, none⟩ = some (.slice b3_e m3_e c3_e)) := Lib.hid (fun w' hf => by
                obtain ⟨q0, q1, q2, q3, q4, q5, q6⟩ := HS0.out w' hf
                exact ⟨q6, hf.cell (hce 0 _ rfl), hf.cell (hce 1 _ rfl), hf.cell (hce 2 _ rfl), hf.cell (hce 3 _ rfl), hf.cell (hce 4 _ rfl), hf.cell (hce 5 _ rfl), hf.cell (hce 6 _ rfl), hf.cell (hce 7 _ rfl), hf.cell (hce 8 _ rfl), hf.cell (hce 9 _ rfl), hf.cell (hce 10 _ rfl), hf.cell (hce 11 _ rfl), hf.cell (hce 12 _ rfl), hf.cell (hce 13 _ rfl), hf.cell (hce 14 _ rfl), hf.cell (hce 15 _ rfl)⟩)
              clear hce hxe hle ht
              obtain ⟨d0, d1, d2, d3, d4, d5, d6, d7, d8, d9, d10, d11, d12, d13, d14, d15, d16⟩ := HS1.out _ HF.out
              go_wp2_with fail
              clear d0 d1 d2 d3 d4 d5 d6 d7 d8 d9 d10 d11 d12 d13 d14 d15 d16
              refine (HH3.out t hmem ok _ _ (HE.out.no HF.out)).mono ?_
              rintro e w10 ⟨rfl, hf⟩
              have HC := Lib.hid hf
              clear hf
              replace HF := Lib.hid (HF.out.then HC.out)
              clear HC
              obtain ⟨m, hm⟩ : ∃ m, dD t = m := ⟨_, rfl⟩
              rw [hm] at HMS ⊢
              clear hm
              go_wp2_with fail
              all_goals
                exact ⟨⟨j + 1, by omega, by go_num, valM HMS.out (by omega), HF⟩, by simp [intOf]; omega⟩
            · skip
              have hd0 : decide (j < K) = false := decide_eq_false hlt
              have HV_d : Hid (M_d = max M_r (mx (d.map dD))) := Lib.hid (by rw [← HM_d.out, mxUp_all _ _ (HK.out.trans (by omega))])
              have hM0_d : 0 ≤ M_d := by rw [HV_d.out]; omega
              clear HM_d
              obtain ⟨d0, d1, d2, d3, d4, d5, d6⟩ := HS0.out _ HF.out
              go_wp2_with fail
              go_ret
              exact ⟨by have h0 := mx_nonneg (l.map dE); simp only [dE]; rw [if_neg hk, dEs_mx, dRs_mx, dDs_mx]; exact ret_w (by rw [HV_d.out, HV_r.out, HV_l.out]; omega), HW.out.then HF.out⟩
end Go.Proofs.YtjabhmepafofmaaGreatDoor
