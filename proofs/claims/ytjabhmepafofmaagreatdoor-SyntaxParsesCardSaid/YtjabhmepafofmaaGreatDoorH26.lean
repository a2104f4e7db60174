/- Sb -/
import Derived.Test.YtjabhmepafofmaaGreatDoorH25
set_option linter.unusedVariables false
set_option linter.unusedSimpArgs false
namespace Go.Proofs.YtjabhmepafofmaaGreatDoor
open Go.RowKit
set_option maxHeartbeats 8000000 in
set_option maxRecDepth 100000 in
theorem sexp_walk (k : Nat) (s : ByteArray) (n : Int) (u : ByteArray) (l : List E) (r : List R) (d : List D) (h : ∀ t ∈ l, SEx t) (h2 : ∀ t ∈ r, SRu t) (h3 : SDs d) : SEx (.mk k s n u l r d) := by
  intro ok ok' w cs ds hc hd
  obtain ⟨a1, c1, a3, c3, a5, c5, rfl, hx, hx2, hx3⟩ := hcE_parts hc
  obtain ⟨a2, c2, a4, c4, a6, c6, rfl, hy, hy2, hy3⟩ := hcE_parts hd
  clear hc hd
  obtain ⟨N, hN⟩ : ∃ N, l.length = N := ⟨_, rfl⟩
  rw [hN] at hx hy ⊢
  obtain ⟨M, hM⟩ : ∃ M, r.length = M := ⟨_, rfl⟩
  rw [hM] at hx2 hy2 ⊢
  obtain ⟨K, hK⟩ : ∃ K, d.length = K := ⟨_, rfl⟩
  rw [hK] at hx3 hy3 ⊢
  clear hK
  have HX := Lib.hid hx
  have HY := Lib.hid hy
  have HX2 := Lib.hid hx2
  have HY2 := Lib.hid hy2
  have HX3 := Lib.hid hx3
  have HY3 := Lib.hid hy3
  have HH := Lib.hid h
  have HH2 := Lib.hid h2
  have HH3 := Lib.hid h3
  have HN := Lib.hid hN
  have HM := Lib.hid hM
  clear hx hy hx2 hy2 hx3 hy3 h h2 h3 hN hM
  go_enter Tryz.func42, Tryz.ntmps42
  go_upto_region 1 with fail
  obtain ⟨w1, hn⟩ : ∃ wZ, (w.alloc (.cells #[.int .u8 k, .string s, .int .i64 n, .string u, .slice a1 N c1, .slice a3 M c3, .slice a5 K c5] 44)).alloc (.cells #[.int .u8 k, .string s, .int .i64 n, .string u, .slice a2 N c2, .slice a4 M c4, .slice a6 K c6] 44) = wZ := ⟨_, rfl⟩
  obtain ⟨g_x, hg⟩ : ∃ gZ, w.heap.size = gZ := ⟨_, rfl⟩
  rw [hn, hg]
  have HW : Hid (Fr No w w1) := Lib.hid (by rw [← hn]; exact (Fr.alloc _ _).then (Fr.alloc _ _))
  have R_x : Hid (w1.heap[g_x]? = some (.cells #[.int .u8 k, .string s, .int .i64 n, .string u, .slice a1 N c1, .slice a3 M c3, .slice a5 K c5] 44 (0, 0))) := Lib.hid (by rw [← hn, ← hg]; exact (Fr.alloc _ _).keeps (new_block _ _) no_one)
  have R_y : Hid (w1.heap[g_x + 1]? = some (.cells #[.int .u8 k, .string s, .int .i64 n, .string u, .slice a2 N c2, .slice a4 M c4, .slice a6 K c6] 44 (0, 0))) := Lib.hid (by rw [← hn, ← hg, ← size_alloc w (.cells #[.int .u8 k, .string s, .int .i64 n, .string u, .slice a1 N c1, .slice a3 M c3, .slice a5 K c5] 44)]; exact new_block _ _)
  have HF : Hid (Fr No w1 w1) := Lib.hid (Fr.refl _ _)
  clear hn hg
  have HS0 : Hid (∀ w', Fr No w1 w' → w'.cell? ⟨g_x, 0, none⟩ = some (.int .u8 k) ∧ w'.cell? ⟨g_x, 1, none⟩ = some (.string s) ∧ w'.cell? ⟨g_x, 2, none⟩ = some (.int .i64 n) ∧ w'.cell? ⟨g_x, 3, none⟩ = some (.string u) ∧ w'.cell? ⟨g_x, 4, none⟩ = some (.slice a1 N c1) ∧ w'.cell? ⟨g_x, 5, none⟩ = some (.slice a3 M c3) ∧ w'.cell? ⟨g_x, 6, none⟩ = some (.slice a5 K c5) ∧ w'.cell? ⟨g_x + 1, 0, none⟩ = some (.int .u8 k) ∧ w'.cell? ⟨g_x + 1, 1, none⟩ = some (.string s) ∧ w'.cell? ⟨g_x + 1, 2, none⟩ = some (.int .i64 n) ∧ w'.cell? ⟨g_x + 1, 3, none⟩ = some (.string u) ∧ w'.cell? ⟨g_x + 1, 4, none⟩ = some (.slice a2 N c2) ∧ w'.cell? ⟨g_x + 1, 5, none⟩ = some (.slice a4 M c4) ∧ w'.cell? ⟨g_x + 1, 6, none⟩ = some (.slice a6 K c6)) := Lib.hid (fun w' hf => ⟨cell_of (hf.keeps R_x.out no_one) 0, cell_of (hf.keeps R_x.out no_one) 1, cell_of (hf.keeps R_x.out no_one) 2, cell_of (hf.keeps R_x.out no_one) 3, cell_of (hf.keeps R_x.out no_one) 4, cell_of (hf.keeps R_x.out no_one) 5, cell_of (hf.keeps R_x.out no_one) 6, cell_of (hf.keeps R_y.out no_one) 0, cell_of (hf.keeps R_y.out no_one) 1, cell_of (hf.keeps R_y.out no_one) 2, cell_of (hf.keeps R_y.out no_one) 3, cell_of (hf.keeps R_y.out no_one) 4, cell_of (hf.keeps R_y.out no_one) 5, cell_of (hf.keeps R_y.out no_one) 6⟩)
  obtain ⟨d0, d1, d2, d3, d4, d5, d6, d7, d8, d9, d10, d11, d12, d13⟩ := HS0.out _ HF.out
  go_wp2_with fail
  clear d0 d1 d2 d3 d4 d5 d6 d7 d8 d9 d10 d11 d12 d13
  refine (HH3.out ok ok' _ _ _ (HX3.out.no HW.out) (HY3.out.no HW.out)).mono ?_
  rintro e w6 ⟨rfl, hf⟩
  have HC := Lib.hid hf
  clear hf
  replace HF := Lib.hid (HF.out.then HC.out)
  clear HC
  obtain ⟨d0, d1, d2, d3, d4, d5, d6, d7, d8, d9, d10, d11, d12, d13⟩ := HS0.out _ HF.out
  go_wp2_with fail
  clear d0 d1 d2 d3 d4 d5 d6 d7 d8 d9 d10 d11 d12 d13
  go_loopw [5] (fun i wr => ∃ j : Nat, j ≤ N ∧ i = .int .i64 (j : Nat) ∧ Hid (Fr No w1 wr)) (fun i _ => N - intOf i)
  case atStart => exact ⟨0, Nat.zero_le _, rfl, HF⟩
  case round =>
    clear HF
    obtain ⟨j, hj, rfl, HF⟩ := hrel
    obtain ⟨wL, hwL⟩ : ∃ wL, wL = wr := ⟨wr, rfl⟩
    rw [← hwL] at HF ⊢
    clear hwL wr
    by_cases hlt : j < N
    · skip
      have hNL := hx_len (HX.out.no HW.out)
      rw [List.length_map, HN.out] at hNL
      have hd0 : decide (j < N) = true := decide_eq_true hlt
      have hj0 : (0 : Int) ≤ (j : Int) := by omega
      have hj1 : (j : Int) < (N : Int) := by omega
      obtain ⟨t, ht⟩ : ∃ t, l[j]? = some t := ⟨_, List.getElem?_eq_getElem (by rw [HN.out]; exact hlt)⟩
      have hmem := List.mem_of_getElem? ht
      obtain ⟨ge, oe, ce, hae, _, hle, hce, hxe⟩ := hx_at (HX.out.no HW.out) (j := j) (x := xE t) (by rw [List.getElem?_map, ht]; rfl)
      obtain ⟨gf, of, cf, haf, _, hlf, hcf, hxf⟩ := hx_at (HY.out.no HW.out) (j := j) (x := xE t) (by rw [List.getElem?_map, ht]; rfl)
      subst hae haf
      have HE := Lib.hid hxe
      obtain ⟨k_e, s_e, n_e, u_e, b1_e, m1_e, c1_e, b2_e, m2_e, c2_e, b3_e, m3_e, c3_e, ecs⟩ := hcE hxe
      subst ecs
      have HG := Lib.hid hxf
      obtain ⟨k_f, s_f, n_f, u_f, b1_f, m1_f, c1_f, b2_f, m2_f, c2_f, b3_f, m3_f, c3_f, ecs⟩ := hcE hxf
      subst ecs
      have HS1 : Hid (∀ w', Fr No w1 w' → w'.cell? ⟨g_x, 4, none⟩ = some (.slice (some ⟨ge, oe, none⟩) N c1) ∧ w'.cell? ⟨g_x + 1, 4, none⟩ = some (.slice (some ⟨gf, of, none⟩) N c2) ∧ w'.cell? ⟨ge, oe + j * 7, none⟩ = some (.int .u8 k_e) ∧ w'.cell? ⟨ge, oe + j * 7 + 1, none⟩ = some (.string s_e) ∧ w'.cell? ⟨ge, oe + j * 7 + 2, none⟩ = some (.int .i64 n_e) ∧ w'.cell? ⟨ge, oe + j * 7 + 3, none⟩ = some (.string u_e) ∧ w'.cell? ⟨ge, oe + j * 7 + 4, none⟩ = some (.slice b1_e m1_e c1_e) ∧ w'.cell? ⟨ge, oe + j * 7 + 5, none⟩ = some (.slice b2_e m2_e c2_e) ∧ w'.cell? ⟨ge, oe + j * 7 + 6, none⟩ = some (.slice b3_e m3_e c3_e) ∧ w'.cell? ⟨gf, of + j * 7, none⟩ = some (.int .u8 k_f) ∧ w'.cell? ⟨gf, of + j * 7 + 1, none⟩ = some (.string s_f) ∧ w'.cell? ⟨gf, of + j * 7 + 2, none⟩ = some (.int .i64 n_f) ∧ w'.cell? ⟨gf, of + j * 7 + 3, none⟩ = some (.string u_f) ∧ w'.cell? ⟨gf, of + j * 7 + 4, none⟩ = some (.slice b1_f m1_f c1_f) ∧ w'.cell? ⟨gf, of + j * 7 + 5, none⟩ = some (.slice b2_f m2_f c2_f) ∧ w'.cell? ⟨gf, of + j * 7 + 6, none⟩ = some (.slice b3_f m3_f c3_f)) := Lib.hid (fun w' hf => by
        obtain ⟨q0, q1, q2, q3, q4, q5, q6, q7, q8, q9, q10, q11, q12, q13⟩ := HS0.out w' hf
        exact ⟨q4, q11, hf.cell (hce 0 _ rfl), hf.cell (hce 1 _ rfl), hf.cell (hce 2 _ rfl), hf.cell (hce 3 _ rfl), hf.cell (hce 4 _ rfl), hf.cell (hce 5 _ rfl), hf.cell (hce 6 _ rfl), hf.cell (hcf 0 _ rfl), hf.cell (hcf 1 _ rfl), hf.cell (hcf 2 _ rfl), hf.cell (hcf 3 _ rfl), hf.cell (hcf 4 _ rfl), hf.cell (hcf 5 _ rfl), hf.cell (hcf 6 _ rfl)⟩)
      clear hce hcf hxe hxf hle hlf ht
      obtain ⟨d0, d1, d2, d3, d4, d5, d6, d7, d8, d9, d10, d11, d12, d13, d14, d15⟩ := HS1.out _ HF.out
      go_upto_region 6 with fail
      clear d0 d1 d2 d3 d4 d5 d6 d7 d8 d9 d10 d11 d12 d13 d14 d15
      refine region_e (fun w' => w'.cell? ⟨g_x, 4, none⟩ = some (.slice (some ⟨ge, oe, none⟩) N c1) ∧ w'.cell? ⟨g_x + 1, 4, none⟩ = some (.slice (some ⟨gf, of, none⟩) N c2) ∧ w'.cell? ⟨ge, oe + j * 7, none⟩ = some (.int .u8 k_e) ∧ w'.cell? ⟨ge, oe + j * 7 + 1, none⟩ = some (.string s_e) ∧ w'.cell? ⟨ge, oe + j * 7 + 2, none⟩ = some (.int .i64 n_e) ∧ w'.cell? ⟨ge, oe + j * 7 + 3, none⟩ = some (.string u_e) ∧ w'.cell? ⟨ge, oe + j * 7 + 4, none⟩ = some (.slice b1_e m1_e c1_e) ∧ w'.cell? ⟨ge, oe + j * 7 + 5, none⟩ = some (.slice b2_e m2_e c2_e) ∧ w'.cell? ⟨ge, oe + j * 7 + 6, none⟩ = some (.slice b3_e m3_e c3_e) ∧ w'.cell? ⟨gf, of + j * 7, none⟩ = some (.int .u8 k_f) ∧ w'.cell? ⟨gf, of + j * 7 + 1, none⟩ = some (.string s_f) ∧ w'.cell? ⟨gf, of + j * 7 + 2, none⟩ = some (.int .i64 n_f) ∧ w'.cell? ⟨gf, of + j * 7 + 3, none⟩ = some (.string u_f) ∧ w'.cell? ⟨gf, of + j * 7 + 4, none⟩ = some (.slice b1_f m1_f c1_f) ∧ w'.cell? ⟨gf, of + j * 7 + 5, none⟩ = some (.slice b2_f m2_f c2_f) ∧ w'.cell? ⟨gf, of + j * 7 + 6, none⟩ = some (.slice b3_f m3_f c3_f)) [] (by kernel_rfl) ?_ (fun hHeld => ?_)
      · exact HS1.out _ (HF.out.then (Fr.drew _))
      obtain ⟨w7, hwd⟩ : ∃ wZ, wZ = wL.drew := ⟨_, rfl⟩
      have HS : Hid (Fr No wL w7) := Lib.hid (by rw [hwd]; exact Fr.drew _)
      rw [← hwd] at hHeld ⊢
      clear hwd
      replace HF := Lib.hid (HF.out.then HS.out)
      clear HS
      refine take_op 0 (some 66) (Op.fieldAddr 44 ( .tmp 2) 4) 0 ?_ (by kernel_rfl) (by kernel_rfl) (by kernel_rfl) (fun _ _ _ h => h) ?_ (by assumption) ?_
      rotate_left
      · intro w hSw; (try dsimp only at hSw); go_simp; (try (with_reducible rfl))
      try simp only [Act.put, List.setIfInBounds_toArray, List.set_cons_zero, List.set_cons_succ]
      refine take_op 1 (some 67) (Op.load 41 ( .tmp 66)) 41 ?_ (by kernel_rfl) (by kernel_rfl) (by kernel_rfl) (fun _ _ _ h => h) ?_ (by assumption) ?_
      rotate_left
      · intro w hSw; (try dsimp only at hSw); go_simp; (try (with_reducible rfl))
      try simp only [Act.put, List.setIfInBounds_toArray, List.set_cons_zero, List.set_cons_succ]
      refine take_op 2 (some 68) (Op.move ( .tmp 5)) 3 ?_ (by kernel_rfl) (by kernel_rfl) (by kernel_rfl) (fun _ _ _ h => h) ?_ (by assumption) ?_
      rotate_left
      · intro w hSw; (try dsimp only at hSw); go_simp; (try (with_reducible rfl))
      try simp only [Act.put, List.setIfInBounds_toArray, List.set_cons_zero, List.set_cons_succ]
      refine take_op 3 (some 69) (Op.indexAddr 41 ( .tmp 67) ( .tmp 68)) 0 ?_ (by kernel_rfl) (by kernel_rfl) (by kernel_rfl) (fun _ _ _ h => h) ?_ (by assumption) ?_
      rotate_left
      · intro w hSw; (try dsimp only at hSw); go_simp; (try (with_reducible rfl))
      try simp only [Act.put, List.setIfInBounds_toArray, List.set_cons_zero, List.set_cons_succ]
      refine take_op 4 (some 70) (Op.load 44 ( .tmp 69)) 44 ?_ (by kernel_rfl) (by kernel_rfl) (by kernel_rfl) (fun _ _ _ h => h) ?_ (by assumption) ?_
      rotate_left
      · intro w hSw; (try dsimp only at hSw); go_simp; (try (with_reducible rfl))
      try simp only [Act.put, List.setIfInBounds_toArray, List.set_cons_zero, List.set_cons_succ]
      refine take_op 5 (some 71) (Op.fieldAddr 44 ( .tmp 3) 4) 0 ?_ (by kernel_rfl) (by kernel_rfl) (by kernel_rfl) (fun _ _ _ h => h) ?_ (by assumption) ?_
      rotate_left
      · intro w hSw; (try dsimp only at hSw); go_simp; (try (with_reducible rfl))
      try simp only [Act.put, List.setIfInBounds_toArray, List.set_cons_zero, List.set_cons_succ]
      refine take_op 6 (some 72) (Op.load 41 ( .tmp 71)) 41 ?_ (by kernel_rfl) (by kernel_rfl) (by kernel_rfl) (fun _ _ _ h => h) ?_ (by assumption) ?_
      rotate_left
      · intro w hSw; (try dsimp only at hSw); go_simp; (try (with_reducible rfl))
      try simp only [Act.put, List.setIfInBounds_toArray, List.set_cons_zero, List.set_cons_succ]
      refine take_op 7 (some 73) (Op.move ( .tmp 5)) 3 ?_ (by kernel_rfl) (by kernel_rfl) (by kernel_rfl) (fun _ _ _ h => h) ?_ (by assumption) ?_
      rotate_left
      · intro w hSw; (try dsimp only at hSw); go_simp; (try (with_reducible rfl))
      try simp only [Act.put, List.setIfInBounds_toArray, List.set_cons_zero, List.set_cons_succ]
      refine take_op 8 (some 74) (Op.indexAddr 41 ( .tmp 72) ( .tmp 73)) 0 ?_ (by kernel_rfl) (by kernel_rfl) (by kernel_rfl) (fun _ _ _ h => h) ?_ (by assumption) ?_
      rotate_left
      · intro w hSw; (try dsimp only at hSw); go_simp; (try (with_reducible rfl))
      try simp only [Act.put, List.setIfInBounds_toArray, List.set_cons_zero, List.set_cons_succ]
      refine take_op 9 (some 75) (Op.load 44 ( .tmp 74)) 44 ?_ (by kernel_rfl) (by kernel_rfl) (by kernel_rfl) (fun _ _ _ h => h) ?_ (by assumption) ?_
      rotate_left
      · intro w hSw; (try dsimp only at hSw); go_simp; (try (with_reducible rfl))
      try simp only [Act.put, List.setIfInBounds_toArray, List.set_cons_zero, List.set_cons_succ]
      refine ready_e (rs := [10]) (by kernel_rfl) (by simp) ?_
      refine (do_mid (o := _) rfl (fun K hK => ?_) none_e)
      go_simp
      go_at_call 42
      refine (HH.out t hmem ok ok' _ _ _ (HE.out.no HF.out) (HG.out.no HF.out)).mono ?_
      rintro e w8 ⟨rfl, hf⟩
      have HC := Lib.hid hf
      clear hf
      replace HF := Lib.hid (HF.out.then HC.out)
      clear HC
      refine hK.out _ _ ?_ (fun hHeld => ?_)
      · exact HS1.out _ HF.out
      clear hK K
      try dsimp only
      try simp only [Act.put, List.setIfInBounds_toArray, List.set_cons_zero, List.set_cons_succ]
      refine take_op 11 (some 77) (Op.unOp UnOp.not 4 ( .tmp 76)) 4 ?_ (by kernel_rfl) (by kernel_rfl) (by kernel_rfl) (fun _ _ _ h => h) ?_ (by assumption) ?_
      rotate_left
      · intro w hSw; (try dsimp only at hSw); go_simp; (try (with_reducible rfl))
      try simp only [Act.put, List.setIfInBounds_toArray, List.set_cons_zero, List.set_cons_succ]
      refine done_e (by kernel_rfl) ?_ _
      (try simp only [Exit.inBlock, Exit.then])
      go_wp2_with fail
      exact ⟨⟨j + 1, by omega, by go_num, HF⟩, by simp [intOf]; omega⟩
    · skip
      have hd0 : decide (j < N) = false := decide_eq_false hlt
      obtain ⟨d0, d1, d2, d3, d4, d5, d6, d7, d8, d9, d10, d11, d12, d13⟩ := HS0.out _ HF.out
      go_wp2_with fail
      clear d0 d1 d2 d3 d4 d5 d6 d7 d8 d9 d10 d11 d12 d13
      clear hd0 hlt hj
      go_loopw [6] (fun i wr => ∃ j : Nat, j ≤ M ∧ i = .int .i64 (j : Nat) ∧ Hid (Fr No w1 wr)) (fun i _ => M - intOf i)
      case atStart => exact ⟨0, Nat.zero_le _, rfl, HF⟩
      case round =>
        clear HF
        obtain ⟨j, hj, rfl, HF⟩ := hrel
        obtain ⟨wL, hwL⟩ : ∃ wL, wL = wr := ⟨wr, rfl⟩
        rw [← hwL] at HF ⊢
        clear hwL wr
        by_cases hlt : j < M
        · skip
          have hNL := hx_len (HX2.out.no HW.out)
          rw [List.length_map, HM.out] at hNL
          have hd0 : decide (j < M) = true := decide_eq_true hlt
          have hj0 : (0 : Int) ≤ (j : Int) := by omega
          have hj1 : (j : Int) < (M : Int) := by omega
          obtain ⟨t, ht⟩ : ∃ t, r[j]? = some t := ⟨_, List.getElem?_eq_getElem (by rw [HM.out]; exact hlt)⟩
          have hmem := List.mem_of_getElem? ht
          obtain ⟨ge, oe, ce, hae, _, hle, hce, hxe⟩ := hx_at (HX2.out.no HW.out) (j := j) (x := xR t) (by rw [List.getElem?_map, ht]; rfl)
          obtain ⟨gf, of, cf, haf, _, hlf, hcf, hxf⟩ := hx_at (HY2.out.no HW.out) (j := j) (x := xR t) (by rw [List.getElem?_map, ht]; rfl)
          subst hae haf
          obtain ⟨tp, te⟩ := t
          simp only [xR, xb] at hxe
          obtain ⟨ca, cb, ecs, h1, h2⟩ := Hc.split hxe
          subst ecs
          have HE1 := Lib.hid h1
          obtain ⟨k_e, s_e, n_e, b_e, m_e, cp_e, ecs⟩ := hcT h1
          subst ecs
          have HE2 := Lib.hid h2
          obtain ⟨k2_e, s2_e, n2_e, u2_e, b12_e, m12_e, c12_e, b22_e, m22_e, c22_e, b32_e, m32_e, c32_e, ecs⟩ := hcE h2
          subst ecs
          clear h1 h2
          simp only [xR, xb] at hxf
          obtain ⟨ca, cb, ecs, h1, h2⟩ := Hc.split hxf
          subst ecs
          have HG1 := Lib.hid h1
          obtain ⟨k_f, s_f, n_f, b_f, m_f, cp_f, ecs⟩ := hcT h1
          subst ecs
          have HG2 := Lib.hid h2
          obtain ⟨k2_f, s2_f, n2_f, u2_f, b12_f, m12_f, c12_f, b22_f, m22_f, c22_f, b32_f, m32_f, c32_f, ecs⟩ := hcE h2
          subst ecs
          clear h1 h2
          have HS1 : Hid (∀ w', Fr No w1 w' → w'.cell? ⟨g_x, 5, none⟩ = some (.slice (some ⟨ge, oe, none⟩) M c3) ∧ w'.cell? ⟨g_x + 1, 5, none⟩ = some (.slice (some ⟨gf, of, none⟩) M c4) ∧ w'.cell? ⟨ge, oe + j * 11, none⟩ = some (.int .u8 k_e) ∧ w'.cell? ⟨ge, oe + j * 11 + 1, none⟩ = some (.string s_e) ∧ w'.cell? ⟨ge, oe + j * 11 + 2, none⟩ = some (.int .i64 n_e) ∧ w'.cell? ⟨ge, oe + j * 11 + 3, none⟩ = some (.slice b_e m_e cp_e) ∧ w'.cell? ⟨ge, oe + j * 11 + 4, none⟩ = some (.int .u8 k2_e) ∧ w'.cell? ⟨ge, oe + j * 11 + 5, none⟩ = some (.string s2_e) ∧ w'.cell? ⟨ge, oe + j * 11 + 6, none⟩ = some (.int .i64 n2_e) ∧ w'.cell? ⟨ge, oe + j * 11 + 7, none⟩ = some (.string u2_e) ∧ w'.cell? ⟨ge, oe + j * 11 + 8, none⟩ = some (.slice b12_e m12_e c12_e) ∧ w'.cell? ⟨ge, oe + j * 11 + 9, none⟩ = some (.slice b22_e m22_e c22_e) ∧ w'.cell? ⟨ge, oe + j * 11 + 10, none⟩ = some (.slice b32_e m32_e c32_e) ∧ w'.cell? ⟨gf, of + j * 11, none⟩ = some (.int .u8 k_f) ∧ w'.cell? ⟨gf, of + j * 11 + 1, none⟩ = some (.string s_f) ∧ w'.cell? ⟨gf, of + j * 11 + 2, none⟩ = some (.int .i64 n_f) ∧ w'.cell? ⟨gf, of + j * 11 + 3, none⟩ = some (.slice b_f m_f cp_f) ∧ w'.cell? ⟨gf, of + j * 11 + 4, none⟩ = some (.int .u8 k2_f) ∧ w'.cell? ⟨gf, of + j * 11 + 5, none⟩ = some (.string s2_f) ∧ w'.cell? ⟨gf, of + j * 11 + 6, none⟩ = some (.int .i64 n2_f) ∧ w'.cell? ⟨gf, of + j * 11 + 7, none⟩ = some (.string u2_f) ∧ w'.cell? ⟨gf, of + j * 11 + 8, none⟩ = some (.slice b12_f m12_f c12_f) ∧ w'.cell? ⟨gf, of + j * 11 + 9, none⟩ = some (.slice b22_f m22_f c22_f) ∧ w'.cell? ⟨gf, of + j * 11 + 10, none⟩ = some (.slice b32_f m32_f c32_f)) := Lib.hid (fun w' hf => by
            obtain ⟨q0, q1, q2, q3, q4, q5, q6, q7, q8, q9, q10, q11, q12, q13⟩ := HS0.out w' hf
            exact ⟨q5, q12, hf.cell (hce 0 _ rfl), hf.cell (hce 1 _ rfl), hf.cell (hce 2 _ rfl), hf.cell (hce 3 _ rfl), hf.cell (hce 4 _ rfl), hf.cell (hce 5 _ rfl), hf.cell (hce 6 _ rfl), hf.cell (hce 7 _ rfl), hf.cell (hce 8 _ rfl), hf.cell (hce 9 _ rfl), hf.cell (hce 10 _ rfl), hf.cell (hcf 0 _ rfl), hf.cell (hcf 1 _ rfl), hf.cell (hcf 2 _ rfl), hf.cell (hcf 3 _ rfl), hf.cell (hcf 4 _ rfl), hf.cell (hcf 5 _ rfl), hf.cell (hcf 6 _ rfl), hf.cell (hcf 7 _ rfl), hf.cell (hcf 8 _ rfl), hf.cell (hcf 9 _ rfl), hf.cell (hcf 10 _ rfl)⟩)
          clear hce hcf hxe hxf hle hlf ht
          obtain ⟨d0, d1, d2, d3, d4, d5, d6, d7, d8, d9, d10, d11, d12, d13, d14, d15, d16, d17, d18, d19, d20, d21, d22, d23⟩ := HS1.out _ HF.out
          go_upto_region 11 with fail
          clear d0 d1 d2 d3 d4 d5 d6 d7 d8 d9 d10 d11 d12 d13 d14 d15 d16 d17 d18 d19 d20 d21 d22 d23
          refine region_e (fun w' => w'.cell? ⟨g_x, 5, none⟩ = some (.slice (some ⟨ge, oe, none⟩) M c3) ∧ w'.cell? ⟨g_x + 1, 5, none⟩ = some (.slice (some ⟨gf, of, none⟩) M c4) ∧ w'.cell? ⟨ge, oe + j * 11, none⟩ = some (.int .u8 k_e) ∧ w'.cell? ⟨ge, oe + j * 11 + 1, none⟩ = some (.string s_e) ∧ w'.cell? ⟨ge, oe + j * 11 + 2, none⟩ = some (.int .i64 n_e) ∧ w'.cell? ⟨ge, oe + j * 11 + 3, none⟩ = some (.slice b_e m_e cp_e) ∧ w'.cell? ⟨ge, oe + j * 11 + 4, none⟩ = some (.int .u8 k2_e) ∧ w'.cell? ⟨ge, oe + j * 11 + 5, none⟩ = some (.string s2_e) ∧ w'.cell? ⟨ge, oe + j * 11 + 6, none⟩ = some (.int .i64 n2_e) ∧ w'.cell? ⟨ge, oe + j * 11 + 7, none⟩ = some (.string u2_e) ∧ w'.cell? ⟨ge, oe + j * 11 + 8, none⟩ = some (.slice b12_e m12_e c12_e) ∧ w'.cell? ⟨ge, oe + j * 11 + 9, none⟩ = some (.slice b22_e m22_e c22_e) ∧ w'.cell? ⟨ge, oe + j * 11 + 10, none⟩ = some (.slice b32_e m32_e c32_e) ∧ w'.cell? ⟨gf, of + j * 11, none⟩ = some (.int .u8 k_f) ∧ w'.cell? ⟨gf, of + j * 11 + 1, none⟩ = some (.string s_f) ∧ w'.cell? ⟨gf, of + j * 11 + 2, none⟩ = some (.int .i64 n_f) ∧ w'.cell? ⟨gf, of + j * 11 + 3, none⟩ = some (.slice b_f m_f cp_f) ∧ w'.cell? ⟨gf, of + j * 11 + 4, none⟩ = some (.int .u8 k2_f) ∧ w'.cell? ⟨gf, of + j * 11 + 5, none⟩ = some (.string s2_f) ∧ w'.cell? ⟨gf, of + j * 11 + 6, none⟩ = some (.int .i64 n2_f) ∧ w'.cell? ⟨gf, of + j * 11 + 7, none⟩ = some (.string u2_f) ∧ w'.cell? ⟨gf, of + j * 11 + 8, none⟩ = some (.slice b12_f m12_f c12_f) ∧ w'.cell? ⟨gf, of + j * 11 + 9, none⟩ = some (.slice b22_f m22_f c22_f) ∧ w'.cell? ⟨gf, of + j * 11 + 10, none⟩ = some (.slice b32_f m32_f c32_f)) [] (by kernel_rfl) ?_ (fun hHeld => ?_)
          · exact HS1.out _ (HF.out.then (Fr.drew _))
          obtain ⟨w9, hwd⟩ : ∃ wZ, wZ = wL.drew := ⟨_, rfl⟩
          have HS : Hid (Fr No wL w9) := Lib.hid (by rw [hwd]; exact Fr.drew _)
          rw [← hwd] at hHeld ⊢
          clear hwd
          replace HF := Lib.hid (HF.out.then HS.out)
          clear HS
          refine take_op 0 (some 85) (Op.fieldAddr 44 ( .tmp 2) 5) 0 ?_ (by kernel_rfl) (by kernel_rfl) (by kernel_rfl) (fun _ _ _ h => h) ?_ (by assumption) ?_
          rotate_left
          · intro w hSw; (try dsimp only at hSw); go_simp; (try (with_reducible rfl))
          try simp only [Act.put, List.setIfInBounds_toArray, List.set_cons_zero, List.set_cons_succ]
          refine take_op 1 (some 86) (Op.load 42 ( .tmp 85)) 42 ?_ (by kernel_rfl) (by kernel_rfl) (by kernel_rfl) (fun _ _ _ h => h) ?_ (by assumption) ?_
          rotate_left
          · intro w hSw; (try dsimp only at hSw); go_simp; (try (with_reducible rfl))
          try simp only [Act.put, List.setIfInBounds_toArray, List.set_cons_zero, List.set_cons_succ]
          refine take_op 2 (some 87) (Op.move ( .tmp 6)) 3 ?_ (by kernel_rfl) (by kernel_rfl) (by kernel_rfl) (fun _ _ _ h => h) ?_ (by assumption) ?_
          rotate_left
          · intro w hSw; (try dsimp only at hSw); go_simp; (try (with_reducible rfl))
          try simp only [Act.put, List.setIfInBounds_toArray, List.set_cons_zero, List.set_cons_succ]
          refine take_op 3 (some 88) (Op.indexAddr 42 ( .tmp 86) ( .tmp 87)) 0 ?_ (by kernel_rfl) (by kernel_rfl) (by kernel_rfl) (fun _ _ _ h => h) ?_ (by assumption) ?_
          rotate_left
          · intro w hSw; (try dsimp only at hSw); go_simp; (try (with_reducible rfl))
          try simp only [Act.put, List.setIfInBounds_toArray, List.set_cons_zero, List.set_cons_succ]
          refine take_op 4 (some 89) (Op.fieldAddr 99 ( .tmp 88) 0) 0 ?_ (by kernel_rfl) (by kernel_rfl) (by kernel_rfl) (fun _ _ _ h => h) ?_ (by assumption) ?_
          rotate_left
          · intro w hSw; (try dsimp only at hSw); go_simp; (try (with_reducible rfl))
          try simp only [Act.put, List.setIfInBounds_toArray, List.set_cons_zero, List.set_cons_succ]
          refine take_op 5 (some 90) (Op.load 97 ( .tmp 89)) 97 ?_ (by kernel_rfl) (by kernel_rfl) (by kernel_rfl) (fun _ _ _ h => h) ?_ (by assumption) ?_
          rotate_left
          · intro w hSw; (try dsimp only at hSw); go_simp; (try (with_reducible rfl))
          try simp only [Act.put, List.setIfInBounds_toArray, List.set_cons_zero, List.set_cons_succ]
          refine take_op 6 (some 91) (Op.fieldAddr 44 ( .tmp 3) 5) 0 ?_ (by kernel_rfl) (by kernel_rfl) (by kernel_rfl) (fun _ _ _ h => h) ?_ (by assumption) ?_
          rotate_left
          · intro w hSw; (try dsimp only at hSw); go_simp; (try (with_reducible rfl))
          try simp only [Act.put, List.setIfInBounds_toArray, List.set_cons_zero, List.set_cons_succ]
          refine take_op 7 (some 92) (Op.load 42 ( .tmp 91)) 42 ?_ (by kernel_rfl) (by kernel_rfl) (by kernel_rfl) (fun _ _ _ h => h) ?_ (by assumption) ?_
          rotate_left
          · intro w hSw; (try dsimp only at hSw); go_simp; (try (with_reducible rfl))
          try simp only [Act.put, List.setIfInBounds_toArray, List.set_cons_zero, List.set_cons_succ]
          refine take_op 8 (some 93) (Op.move ( .tmp 6)) 3 ?_ (by kernel_rfl) (by kernel_rfl) (by kernel_rfl) (fun _ _ _ h => h) ?_ (by assumption) ?_
          rotate_left
          · intro w hSw; (try dsimp only at hSw); go_simp; (try (with_reducible rfl))
          try simp only [Act.put, List.setIfInBounds_toArray, List.set_cons_zero, List.set_cons_succ]
          refine take_op 9 (some 94) (Op.indexAddr 42 ( .tmp 92) ( .tmp 93)) 0 ?_ (by kernel_rfl) (by kernel_rfl) (by kernel_rfl) (fun _ _ _ h => h) ?_ (by assumption) ?_
          rotate_left
          · intro w hSw; (try dsimp only at hSw); go_simp; (try (with_reducible rfl))
          try simp only [Act.put, List.setIfInBounds_toArray, List.set_cons_zero, List.set_cons_succ]
          refine take_op 10 (some 95) (Op.fieldAddr 99 ( .tmp 94) 0) 0 ?_ (by kernel_rfl) (by kernel_rfl) (by kernel_rfl) (fun _ _ _ h => h) ?_ (by assumption) ?_
          rotate_left
          · intro w hSw; (try dsimp only at hSw); go_simp; (try (with_reducible rfl))
          try simp only [Act.put, List.setIfInBounds_toArray, List.set_cons_zero, List.set_cons_succ]
          refine take_op 11 (some 96) (Op.load 97 ( .tmp 95)) 97 ?_ (by kernel_rfl) (by kernel_rfl) (by kernel_rfl) (fun _ _ _ h => h) ?_ (by assumption) ?_
          rotate_left
          · intro w hSw; (try dsimp only at hSw); go_simp; (try (with_reducible rfl))
          try simp only [Act.put, List.setIfInBounds_toArray, List.set_cons_zero, List.set_cons_succ]
          refine ready_e (rs := [12]) (by kernel_rfl) (by simp) ?_
          refine (do_mid (o := _) rfl (fun K hK => ?_) none_e)
          go_simp
          go_at_call 64
          refine ((HH2.out _ hmem).1 ok ok' _ _ _ (HE1.out.no HF.out) (HG1.out.no HF.out)).mono ?_
          rintro e w10 ⟨rfl, hf⟩
          have HC := Lib.hid hf
          clear hf
          replace HF := Lib.hid (HF.out.then HC.out)
          clear HC
          refine hK.out _ _ ?_ (fun hHeld => ?_)
          · exact HS1.out _ HF.out
          clear hK K
          try dsimp only
          try simp only [Act.put, List.setIfInBounds_toArray, List.set_cons_zero, List.set_cons_succ]
          refine take_op 13 (some 98) (Op.unOp UnOp.not 4 ( .tmp 97)) 4 ?_ (by kernel_rfl) (by kernel_rfl) (by kernel_rfl) (fun _ _ _ h => h) ?_ (by assumption) ?_
          rotate_left
          · intro w hSw; (try dsimp only at hSw); go_simp; (try (with_reducible rfl))
          try simp only [Act.put, List.setIfInBounds_toArray, List.set_cons_zero, List.set_cons_succ]
          refine take_op 14 (some 99) (Op.move ( .tmp 98)) 4 ?_ (by kernel_rfl) (by kernel_rfl) (by kernel_rfl) (fun _ _ _ h => h) ?_ (by assumption) ?_
          rotate_left
          · intro w hSw; (try dsimp only at hSw); go_simp; (try (with_reducible rfl))
          try simp only [Act.put, List.setIfInBounds_toArray, List.set_cons_zero, List.set_cons_succ]
          refine take_op 15 (some 100) (Op.fieldAddr 44 ( .tmp 2) 5) 0 ?_ (by kernel_rfl) (by kernel_rfl) (by kernel_rfl) (fun _ _ _ h => h) ?_ (by assumption) ?_
          rotate_left
          · intro w hSw; (try dsimp only at hSw); go_simp; (try (with_reducible rfl))
          try simp only [Act.put, List.setIfInBounds_toArray, List.set_cons_zero, List.set_cons_succ]
          refine take_op 16 (some 101) (Op.load 42 ( .tmp 100)) 42 ?_ (by kernel_rfl) (by kernel_rfl) (by kernel_rfl) (fun _ _ _ h => h) ?_ (by assumption) ?_
          rotate_left
          · intro w hSw; (try dsimp only at hSw); go_simp; (try (with_reducible rfl))
          try simp only [Act.put, List.setIfInBounds_toArray, List.set_cons_zero, List.set_cons_succ]
          refine take_op 17 (some 102) (Op.move ( .tmp 6)) 3 ?_ (by kernel_rfl) (by kernel_rfl) (by kernel_rfl) (fun _ _ _ h => h) ?_ (by assumption) ?_
          rotate_left
          · intro w hSw; (try dsimp only at hSw); go_simp; (try (with_reducible rfl))
          try simp only [Act.put, List.setIfInBounds_toArray, List.set_cons_zero, List.set_cons_succ]
          refine take_op 18 (some 103) (Op.indexAddr 42 ( .tmp 101) ( .tmp 102)) 0 ?_ (by kernel_rfl) (by kernel_rfl) (by kernel_rfl) (fun _ _ _ h => h) ?_ (by assumption) ?_
          rotate_left
          · intro w hSw; (try dsimp only at hSw); go_simp; (try (with_reducible rfl))
          try simp only [Act.put, List.setIfInBounds_toArray, List.set_cons_zero, List.set_cons_succ]
          refine take_op 19 (some 104) (Op.fieldAddr 99 ( .tmp 103) 1) 0 ?_ (by kernel_rfl) (by kernel_rfl) (by kernel_rfl) (fun _ _ _ h => h) ?_ (by assumption) ?_
          rotate_left
          · intro w hSw; (try dsimp only at hSw); go_simp; (try (with_reducible rfl))
          try simp only [Act.put, List.setIfInBounds_toArray, List.set_cons_zero, List.set_cons_succ]
          refine take_op 20 (some 105) (Op.load 44 ( .tmp 104)) 44 ?_ (by kernel_rfl) (by kernel_rfl) (by kernel_rfl) (fun _ _ _ h => h) ?_ (by assumption) ?_
          rotate_left
          · intro w hSw; (try dsimp only at hSw); go_simp; (try (with_reducible rfl))
          try simp only [Act.put, List.setIfInBounds_toArray, List.set_cons_zero, List.set_cons_succ]
          refine take_op 21 (some 106) (Op.fieldAddr 44 ( .tmp 3) 5) 0 ?_ (by kernel_rfl) (by kernel_rfl) (by kernel_rfl) (fun _ _ _ h => h) ?_ (by assumption) ?_
          rotate_left
          · intro w hSw; (try dsimp only at hSw); go_simp; (try (with_reducible rfl))
          try simp only [Act.put, List.setIfInBounds_toArray, List.set_cons_zero, List.set_cons_succ]
          refine take_op 22 (some 107) (Op.load 42 ( .tmp 106)) 42 ?_ (by kernel_rfl) (by kernel_rfl) (by kernel_rfl) (fun _ _ _ h => h) ?_ (by assumption) ?_
          rotate_left
          · intro w hSw; (try dsimp only at hSw); go_simp; (try (with_reducible rfl))
          try simp only [Act.put, List.setIfInBounds_toArray, List.set_cons_zero, List.set_cons_succ]
          refine take_op 23 (some 108) (Op.move ( .tmp 6)) 3 ?_ (by kernel_rfl) (by kernel_rfl) (by kernel_rfl) (fun _ _ _ h => h) ?_ (by assumption) ?_
          rotate_left
          · intro w hSw; (try dsimp only at hSw); go_simp; (try (with_reducible rfl))
          try simp only [Act.put, List.setIfInBounds_toArray, List.set_cons_zero, List.set_cons_succ]
          refine take_op 24 (some 109) (Op.indexAddr 42 ( .tmp 107) ( .tmp 108)) 0 ?_ (by kernel_rfl) (by kernel_rfl) (by kernel_rfl) (fun _ _ _ h => h) ?_ (by assumption) ?_
          rotate_left
          · intro w hSw; (try dsimp only at hSw); go_simp; (try (with_reducible rfl))
          try simp only [Act.put, List.setIfInBounds_toArray, List.set_cons_zero, List.set_cons_succ]
          refine take_op 25 (some 110) (Op.fieldAddr 99 ( .tmp 109) 1) 0 ?_ (by kernel_rfl) (by kernel_rfl) (by kernel_rfl) (fun _ _ _ h => h) ?_ (by assumption) ?_
          rotate_left
          · intro w hSw; (try dsimp only at hSw); go_simp; (try (with_reducible rfl))
          try simp only [Act.put, List.setIfInBounds_toArray, List.set_cons_zero, List.set_cons_succ]
          refine take_op 26 (some 111) (Op.load 44 ( .tmp 110)) 44 ?_ (by kernel_rfl) (by kernel_rfl) (by kernel_rfl) (fun _ _ _ h => h) ?_ (by assumption) ?_
          rotate_left
          · intro w hSw; (try dsimp only at hSw); go_simp; (try (with_reducible rfl))
          try simp only [Act.put, List.setIfInBounds_toArray, List.set_cons_zero, List.set_cons_succ]
          refine ready_e (rs := [27]) (by kernel_rfl) (by simp) ?_
          refine (do_mid (o := _) rfl (fun K hK => ?_) none_e)
          go_simp
          go_at_call 42
          refine ((HH2.out _ hmem).2 ok ok' _ _ _ (HE2.out.no HF.out) (HG2.out.no HF.out)).mono ?_
          rintro e w11 ⟨rfl, hf⟩
          have HC := Lib.hid hf
          clear hf
          replace HF := Lib.hid (HF.out.then HC.out)
          clear HC
          refine hK.out _ _ ?_ (fun hHeld => ?_)
          · exact HS1.out _ HF.out
          clear hK K
          try dsimp only
          try simp only [Act.put, List.setIfInBounds_toArray, List.set_cons_zero, List.set_cons_succ]
          refine take_op 28 (some 113) (Op.unOp UnOp.not 4 ( .tmp 112)) 4 ?_ (by kernel_rfl) (by kernel_rfl) (by kernel_rfl) (fun _ _ _ h => h) ?_ (by assumption) ?_
          rotate_left
          · intro w hSw; (try dsimp only at hSw); go_simp; (try (with_reducible rfl))
          try simp only [Act.put, List.setIfInBounds_toArray, List.set_cons_zero, List.set_cons_succ]
          refine take_op 29 (some 114) (Op.pick ( .tmp 99) ( .const (Value.bool true)) ( .tmp 113)) 4 ?_ (by kernel_rfl) (by kernel_rfl) (by kernel_rfl) (fun _ _ _ h => h) ?_ (by assumption) ?_
          rotate_left
          · intro w hSw; (try dsimp only at hSw); go_simp; (try (with_reducible rfl))
          try simp only [Act.put, List.setIfInBounds_toArray, List.set_cons_zero, List.set_cons_succ]
          refine done_e (by kernel_rfl) ?_ _
          (try simp only [Exit.inBlock, Exit.then])
          go_wp2_with fail
          exact ⟨⟨j + 1, by omega, by go_num, HF⟩, by simp [intOf]; omega⟩
        · skip
          have hd0 : decide (j < M) = false := decide_eq_false hlt
          obtain ⟨d0, d1, d2, d3, d4, d5, d6, d7, d8, d9, d10, d11, d12, d13⟩ := HS0.out _ HF.out
          go_wp2_with fail
          go_ret
          exact ⟨rfl, HW.out.then HF.out⟩
end Go.Proofs.YtjabhmepafofmaaGreatDoor
