/- Sc -/
import Derived.Test.YtjabhmepafofmaaGreatDoorH25
set_option linter.unusedVariables false
set_option linter.unusedSimpArgs false
namespace Go.Proofs.YtjabhmepafofmaaGreatDoor
open Go.RowKit
set_option maxHeartbeats 8000000 in
set_option maxRecDepth 100000 in
theorem sdecs_walk (l : List D) (h : ∀ t ∈ l, SDe t) : SDs l := by
  intro ok ok' w v u hx hy
  obtain ⟨a1, c1, rfl⟩ := hx_slice hx
  obtain ⟨a2, c2, rfl⟩ := hx_slice hy
  rw [List.length_map] at hx hy ⊢
  obtain ⟨N, hN⟩ : ∃ N, l.length = N := ⟨_, rfl⟩
  rw [hN] at hx hy ⊢
  have HX := Lib.hid hx
  have HY := Lib.hid hy
  have HH := Lib.hid h
  have HN := Lib.hid hN
  clear hx hy h hN
  go_enter Tryz.func8, Tryz.ntmps8
  go_upto_region 1 with fail
  obtain ⟨w1, hn⟩ : ∃ wZ, w = wZ := ⟨_, rfl⟩
  have HW : Hid (Fr No w w1) := Lib.hid (by rw [hn]; exact Fr.refl _ _)
  have HF : Hid (Fr No w1 w1) := Lib.hid (Fr.refl _ _)
  rw [hn] at HX HY
  rw [hn]
  go_wp2_with fail
  go_loopw [5] (fun i wr => ∃ j : Nat, j ≤ N ∧ i = .int .i64 (j : Nat) ∧ Hid (Fr No w1 wr)) (fun i _ => N - intOf i)
  case atStart => exact ⟨0, Nat.zero_le _, rfl, HF⟩
  case round =>
    clear HF
    obtain ⟨j, hj, rfl, HF⟩ := hrel
    obtain ⟨wL, hwL⟩ : ∃ wL, wL = wr := ⟨wr, rfl⟩
    rw [← hwL] at HF ⊢
    clear hwL wr
    by_cases hlt : j < N
    · skip
      have hNL := hx_len HX.out
      rw [List.length_map, HN.out] at hNL
      have hd0 : decide (j < N) = true := decide_eq_true hlt
      have hj0 : (0 : Int) ≤ (j : Int) := by omega
      have hj1 : (j : Int) < (N : Int) := by omega
      obtain ⟨t, ht⟩ : ∃ t, l[j]? = some t := ⟨_, List.getElem?_eq_getElem (by rw [HN.out]; exact hlt)⟩
      have hmem := List.mem_of_getElem? ht
      obtain ⟨ge, oe, ce, hae, _, hle, hce, hxe⟩ := hx_at HX.out (j := j) (x := xD t) (by rw [List.getElem?_map, ht]; rfl)
      obtain ⟨gf, of, cf, haf, _, hlf, hcf, hxf⟩ := hx_at HY.out (j := j) (x := xD t) (by rw [List.getElem?_map, ht]; rfl)
      subst hae haf
      have HE := Lib.hid hxe
      obtain ⟨z0_e, z_e, p1_e, q1_e, r1_e, p2_e, q2_e, r2_e, p3_e, q3_e, r3_e, k_e, s_e, n_e, b_e, m_e, cp_e, k2_e, s2_e, n2_e, u_e, b1_e, m1_e, c1_e, b2_e, m2_e, c2_e, b3_e, m3_e, c3_e, ecs⟩ := hcD hxe
      subst ecs
      have HG := Lib.hid hxf
      obtain ⟨z0_f, z_f, p1_f, q1_f, r1_f, p2_f, q2_f, r2_f, p3_f, q3_f, r3_f, k_f, s_f, n_f, b_f, m_f, cp_f, k2_f, s2_f, n2_f, u_f, b1_f, m1_f, c1_f, b2_f, m2_f, c2_f, b3_f, m3_f, c3_f, ecs⟩ := hcD hxf
      subst ecs
      have HS1 : Hid (∀ w', Fr No w1 w' → w'.cell? ⟨ge, oe + j * 16, none⟩ = some (.int .u8 z0_e) ∧ w'.cell? ⟨ge, oe + j * 16 + 1, none⟩ = some (.string z_e) ∧ w'.cell? ⟨ge, oe + j * 16 + 2, none⟩ = some (.slice p1_e q1_e r1_e) ∧ w'.cell? ⟨ge, oe + j * 16 + 3, none⟩ = some (.slice p2_e q2_e r2_e) ∧ w'.cell? ⟨ge, oe + j * 16 + 4, none⟩ = some (.slice p3_e q3_e r3_e) ∧ w'.cell? ⟨ge, oe + j * 16 + 5, none⟩ = some (.int .u8 k_e) ∧ w'.cell? ⟨ge, oe + j * 16 + 6, none⟩ = some (.string s_e) ∧ w'.cell? ⟨ge, oe + j * 16 + 7, none⟩ = some (.int .i64 n_e) ∧ w'.cell? ⟨ge, oe + j * 16 + 8, none⟩ = some (.slice b_e m_e cp_e) ∧ w'.cell? ⟨ge, oe + j * 16 + 9, none⟩ = some (.int .u8 k2_e) ∧ w'.cell? ⟨ge, oe + j * 16 + 10, none⟩ = some (.string s2_e) ∧ w'.cell? ⟨ge, oe + j * 16 + 11, none⟩ = some (.int .i64 n2_e) ∧ w'.cell? ⟨ge, oe + j * 16 + 12, none⟩ = some (.string u_e) ∧ w'.cell? ⟨ge, oe + j * 16 + 13, none⟩ = some (.slice b1_e m1_e c1_e) ∧ w'.cell? ⟨ge, oe + j * 16 + 14, none⟩ = some (.slice b2_e m2_e c2_e) ∧ w'.cell? ⟨ge, oe + j * 16 + 15, none⟩ = some (.slice b3_e m3_e c3_e) ∧ w'.cell? ⟨gf, of + j * 16, none⟩ = some (.int .u8 z0_f) ∧ w'.cell? ⟨gf, of + j * 16 + 1, none⟩ = some (.string z_f) ∧ w'.cell? ⟨gf, of + j * 16 + 2, none⟩ = some (.slice p1_f q1_f r1_f) ∧ w'.cell? ⟨gf, of + j * 16 + 3, none⟩ = some (.slice p2_f q2_f r2_f) ∧ w'.cell? ⟨gf, of + j * 16 + 4, none⟩ = some (.slice p3_f q3_f r3_f) ∧ w'.cell? ⟨gf, of + j * 16 + 5, none⟩ = some (.int .u8 k_f) ∧ w'.cell? ⟨gf, of + j * 16 + 6, none⟩ = some (.string s_f) ∧ w'.cell? ⟨gf, of + j * 16 + 7, none⟩ = some (.int .i64 n_f) ∧ w'.cell? ⟨gf, of + j * 16 + 8, none⟩ = some (.slice b_f m_f cp_f) ∧ w'.cell? ⟨gf, of + j * 16 + 9, none⟩ = some (.int .u8 k2_f) ∧ w'.cell? ⟨gf, of + j * 16 + 10, none⟩ = some (.string s2_f) ∧ w'.cell? ⟨gf, of + j * 16 + 11, none⟩ = some (.int .i64 n2_f) ∧ w'.cell? ⟨gf, of + j * 16 + 12, none⟩ = some (.string u_f) ∧ w'.cell? ⟨gf, of + j * 16 + 13, none⟩ = some (.slice b1_f m1_f c1_f) ∧ w'.cell? ⟨gf, of + j * 16 + 14, none⟩ = some (.slice b2_f m2_f c2_f) ∧ w'.cell? ⟨gf, of + j * 16 + 15, none⟩ = some (.slice b3_f m3_f c3_f)) := Lib.hid (fun w' hf => by
        skip
        exact ⟨hf.cell (hce 0 _ rfl), hf.cell (hce 1 _ rfl), hf.cell (hce 2 _ rfl), hf.cell (hce 3 _ rfl), hf.cell (hce 4 _ rfl), hf.cell (hce 5 _ rfl), hf.cell (hce 6 _ rfl), hf.cell (hce 7 _ rfl), hf.cell (hce 8 _ rfl), hf.cell (hce 9 _ rfl), hf.cell (hce 10 _ rfl), hf.cell (hce 11 _ rfl), hf.cell (hce 12 _ rfl), hf.cell (hce 13 _ rfl), hf.cell (hce 14 _ rfl), hf.cell (hce 15 _ rfl), hf.cell (hcf 0 _ rfl), hf.cell (hcf 1 _ rfl), hf.cell (hcf 2 _ rfl), hf.cell (hcf 3 _ rfl), hf.cell (hcf 4 _ rfl), hf.cell (hcf 5 _ rfl), hf.cell (hcf 6 _ rfl), hf.cell (hcf 7 _ rfl), hf.cell (hcf 8 _ rfl), hf.cell (hcf 9 _ rfl), hf.cell (hcf 10 _ rfl), hf.cell (hcf 11 _ rfl), hf.cell (hcf 12 _ rfl), hf.cell (hcf 13 _ rfl), hf.cell (hcf 14 _ rfl), hf.cell (hcf 15 _ rfl)⟩)
      clear hce hcf hxe hxf hle hlf ht
      obtain ⟨d0, d1, d2, d3, d4, d5, d6, d7, d8, d9, d10, d11, d12, d13, d14, d15, d16, d17, d18, d19, d20, d21, d22, d23, d24, d25, d26, d27, d28, d29, d30, d31⟩ := HS1.out _ HF.out
      go_upto_region 6 with fail
      clear d0 d1 d2 d3 d4 d5 d6 d7 d8 d9 d10 d11 d12 d13 d14 d15 d16 d17 d18 d19 d20 d21 d22 d23 d24 d25 d26 d27 d28 d29 d30 d31
      refine region_e (fun w' => w'.cell? ⟨ge, oe + j * 16, none⟩ = some (.int .u8 z0_e) ∧ w'.cell? ⟨ge, oe + j * 16 + 1, none⟩ = some (.string z_e) ∧ w'.cell? ⟨ge, oe + j * 16 + 2, none⟩ = some (.slice p1_e q1_e r1_e) ∧ w'.cell? ⟨ge, oe + j * 16 + 3, none⟩ = some (.slice p2_e q2_e r2_e) ∧ w'.cell? ⟨ge, oe + j * 16 + 4, none⟩ = some (.slice p3_e q3_e r3_e) ∧ w'.cell? ⟨ge, oe + j * 16 + 5, none⟩ = some (.int .u8 k_e) ∧ w'.cell? ⟨ge, oe + j * 16 + 6, none⟩ = some (.string s_e) ∧ w'.cell? ⟨ge, oe + j * 16 + 7, none⟩ = some (.int .i64 n_e) ∧ w'.cell? ⟨ge, oe + j * 16 + 8, none⟩ = some (.slice b_e m_e cp_e) ∧ w'.cell? ⟨ge, oe + j * 16 + 9, none⟩ = some (.int .u8 k2_e) ∧ w'.cell? ⟨ge, oe + j * 16 + 10, none⟩ = some (.string s2_e) ∧ w'.cell? ⟨ge, oe + j * 16 + 11, none⟩ = some (.int .i64 n2_e) ∧ w'.cell? ⟨ge, oe + j * 16 + 12, none⟩ = some (.string u_e) ∧ w'.cell? ⟨ge, oe + j * 16 + 13, none⟩ = some (.slice b1_e m1_e c1_e) ∧ w'.cell? ⟨ge, oe + j * 16 + 14, none⟩ = some (.slice b2_e m2_e c2_e) ∧ w'.cell? ⟨ge, oe + j * 16 + 15, none⟩ = some (.slice b3_e m3_e c3_e) ∧ w'.cell? ⟨gf, of + j * 16, none⟩ = some (.int .u8 z0_f) ∧ w'.cell? ⟨gf, of + j * 16 + 1, none⟩ = some (.string z_f) ∧ w'.cell? ⟨gf, of + j * 16 + 2, none⟩ = some (.slice p1_f q1_f r1_f) ∧ w'.cell? ⟨gf, of + j * 16 + 3, none⟩ = some (.slice p2_f q2_f r2_f) ∧ w'.cell? ⟨gf, of + j * 16 + 4, none⟩ = some (.slice p3_f q3_f r3_f) ∧ w'.cell? ⟨gf, of + j * 16 + 5, none⟩ = some (.int .u8 k_f) ∧ w'.cell? ⟨gf, of + j * 16 + 6, none⟩ = some (.string s_f) ∧ w'.cell? ⟨gf, of + j * 16 + 7, none⟩ = some (.int .i64 n_f) ∧ w'.cell? ⟨gf, of + j * 16 + 8, none⟩ = some (.slice b_f m_f cp_f) ∧ w'.cell? ⟨gf, of + j * 16 + 9, none⟩ = some (.int .u8 k2_f) ∧ w'.cell? ⟨gf, of + j * 16 + 10, none⟩ = some (.string s2_f) ∧ w'.cell? ⟨gf, of + j * 16 + 11, none⟩ = some (.int .i64 n2_f) ∧ w'.cell? ⟨gf, of + j * 16 + 12, none⟩ = some (.string u_f) ∧ w'.cell? ⟨gf, of + j * 16 + 13, none⟩ = some (.slice b1_f m1_f c1_f) ∧ w'.cell? ⟨gf, of + j * 16 + 14, none⟩ = some (.slice b2_f m2_f c2_f) ∧ w'.cell? ⟨gf, of + j * 16 + 15, none⟩ = some (.slice b3_f m3_f c3_f)) [] (by kernel_rfl) ?_ (fun hHeld => ?_)
      · exact HS1.out _ (HF.out.then (Fr.drew _))
      obtain ⟨w6, hwd⟩ : ∃ wZ, wZ = wL.drew := ⟨_, rfl⟩
      have HS : Hid (Fr No wL w6) := Lib.hid (by rw [hwd]; exact Fr.drew _)
      rw [← hwd] at hHeld ⊢
      clear hwd
      replace HF := Lib.hid (HF.out.then HS.out)
      clear HS
      refine take_op 0 (some 17) (Op.move ( .tmp 0)) 25 ?_ (by kernel_rfl) (by kernel_rfl) (by kernel_rfl) (fun _ _ _ h => h) ?_ (by assumption) ?_
      rotate_left
      · intro w hSw; (try dsimp only at hSw); go_simp; (try (with_reducible rfl))
      try simp only [Act.put, List.setIfInBounds_toArray, List.set_cons_zero, List.set_cons_succ]
      refine take_op 1 (some 18) (Op.move ( .tmp 5)) 3 ?_ (by kernel_rfl) (by kernel_rfl) (by kernel_rfl) (fun _ _ _ h => h) ?_ (by assumption) ?_
      rotate_left
      · intro w hSw; (try dsimp only at hSw); go_simp; (try (with_reducible rfl))
      try simp only [Act.put, List.setIfInBounds_toArray, List.set_cons_zero, List.set_cons_succ]
      refine take_op 2 (some 19) (Op.indexAddr 25 ( .tmp 17) ( .tmp 18)) 0 ?_ (by kernel_rfl) (by kernel_rfl) (by kernel_rfl) (fun _ _ _ h => h) ?_ (by assumption) ?_
      rotate_left
      · intro w hSw; (try dsimp only at hSw); go_simp; (try (with_reducible rfl))
      try simp only [Act.put, List.setIfInBounds_toArray, List.set_cons_zero, List.set_cons_succ]
      refine take_op 3 (some 20) (Op.load 46 ( .tmp 19)) 46 ?_ (by kernel_rfl) (by kernel_rfl) (by kernel_rfl) (fun _ _ _ h => h) ?_ (by assumption) ?_
      rotate_left
      · intro w hSw; (try dsimp only at hSw); go_simp; (try (with_reducible rfl))
      try simp only [Act.put, List.setIfInBounds_toArray, List.set_cons_zero, List.set_cons_succ]
      refine take_op 4 (some 21) (Op.move ( .tmp 1)) 25 ?_ (by kernel_rfl) (by kernel_rfl) (by kernel_rfl) (fun _ _ _ h => h) ?_ (by assumption) ?_
      rotate_left
      · intro w hSw; (try dsimp only at hSw); go_simp; (try (with_reducible rfl))
      try simp only [Act.put, List.setIfInBounds_toArray, List.set_cons_zero, List.set_cons_succ]
      refine take_op 5 (some 22) (Op.move ( .tmp 5)) 3 ?_ (by kernel_rfl) (by kernel_rfl) (by kernel_rfl) (fun _ _ _ h => h) ?_ (by assumption) ?_
      rotate_left
      · intro w hSw; (try dsimp only at hSw); go_simp; (try (with_reducible rfl))
      try simp only [Act.put, List.setIfInBounds_toArray, List.set_cons_zero, List.set_cons_succ]
      refine take_op 6 (some 23) (Op.indexAddr 25 ( .tmp 21) ( .tmp 22)) 0 ?_ (by kernel_rfl) (by kernel_rfl) (by kernel_rfl) (fun _ _ _ h => h) ?_ (by assumption) ?_
      rotate_left
      · intro w hSw; (try dsimp only at hSw); go_simp; (try (with_reducible rfl))
      try simp only [Act.put, List.setIfInBounds_toArray, List.set_cons_zero, List.set_cons_succ]
      refine take_op 7 (some 24) (Op.load 46 ( .tmp 23)) 46 ?_ (by kernel_rfl) (by kernel_rfl) (by kernel_rfl) (fun _ _ _ h => h) ?_ (by assumption) ?_
      rotate_left
      · intro w hSw; (try dsimp only at hSw); go_simp; (try (with_reducible rfl))
      try simp only [Act.put, List.setIfInBounds_toArray, List.set_cons_zero, List.set_cons_succ]
      refine ready_e (rs := [8]) (by kernel_rfl) (by simp) ?_
      refine (do_mid (o := _) rfl (fun K hK => ?_) none_e)
      go_simp
      go_at_call 18
      refine (HH.out t hmem ok ok' _ _ _ (HE.out.no HF.out) (HG.out.no HF.out)).mono ?_
      rintro e w7 ⟨rfl, hf⟩
      have HC := Lib.hid hf
      clear hf
      replace HF := Lib.hid (HF.out.then HC.out)
      clear HC
      refine hK.out _ _ ?_ (fun hHeld => ?_)
      · exact HS1.out _ HF.out
      clear hK K
      try dsimp only
      try simp only [Act.put, List.setIfInBounds_toArray, List.set_cons_zero, List.set_cons_succ]
      refine take_op 9 (some 26) (Op.unOp UnOp.not 4 ( .tmp 25)) 4 ?_ (by kernel_rfl) (by kernel_rfl) (by kernel_rfl) (fun _ _ _ h => h) ?_ (by assumption) ?_
      rotate_left
      · intro w hSw; (try dsimp only at hSw); go_simp; (try (with_reducible rfl))
      try simp only [Act.put, List.setIfInBounds_toArray, List.set_cons_zero, List.set_cons_succ]
      refine done_e (by kernel_rfl) ?_ _
      (try simp only [Exit.inBlock, Exit.then])
      go_wp2_with fail
      exact ⟨⟨j + 1, by omega, by go_num, HF⟩, by simp [intOf]; omega⟩
    · skip
      have hd0 : decide (j < N) = false := decide_eq_false hlt
      go_wp2_with fail
      go_ret
      exact ⟨rfl, (by rw [hn]; exact HF.out)⟩
end Go.Proofs.YtjabhmepafofmaaGreatDoor
