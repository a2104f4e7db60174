/- Sd -/
import Derived.Test.YtjabhmepafofmaaGreatDoorH25
set_option linter.unusedVariables false
set_option linter.unusedSimpArgs false
namespace Go.Proofs.YtjabhmepafofmaaGreatDoor
open Go.RowKit
set_option maxHeartbeats 8000000 in
set_option maxRecDepth 100000 in
theorem sdec_walk (k : Nat) (s : ByteArray) (va : List ByteArray) (co : List C) (fu : List F) (ty : T) (ex : E) (h2 : ∀ t ∈ co, ST t.ty) (h3 : ∀ t ∈ fu, SFu t) (h4 : ST ty) (h5 : SEx ex) : SDe (.mk k s va co fu ty ex) := by
  intro ok ok' w cs ds hc hd
  obtain ⟨a1, c1, a3, c3, a5, c5, ct, ce, rfl, hx, hx2, hx3, hx4, hx5⟩ := hcD_parts hc
  obtain ⟨a2, c2, a4, c4, a6, c6, dt, de, rfl, hy, hy2, hy3, hy4, hy5⟩ := hcD_parts hd
  clear hc hd
  have HX4 := Lib.hid hx4
  have HX5 := Lib.hid hx5
  have HY4 := Lib.hid hy4
  have HY5 := Lib.hid hy5
  obtain ⟨k_x, s_x, n_x, b_x, m_x, cp_x, ecs⟩ := hcT hx4
  subst ecs
  obtain ⟨k_y, s_y, n_y, b_y, m_y, cp_y, ecs⟩ := hcT hy4
  subst ecs
  obtain ⟨k2_x, s2_x, n2_x, u2_x, b12_x, m12_x, c12_x, b22_x, m22_x, c22_x, b32_x, m32_x, c32_x, ecs⟩ := hcE hx5
  subst ecs
  obtain ⟨k2_y, s2_y, n2_y, u2_y, b12_y, m12_y, c12_y, b22_y, m22_y, c22_y, b32_y, m32_y, c32_y, ecs⟩ := hcE hy5
  subst ecs
  clear hx4 hx5 hy4 hy5
  simp only [List.cons_append, List.nil_append]
  obtain ⟨N, hN⟩ : ∃ N, va.length = N := ⟨_, rfl⟩
  rw [hN] at hx hy ⊢
  obtain ⟨M, hM⟩ : ∃ M, co.length = M := ⟨_, rfl⟩
  rw [hM] at hx2 hy2 ⊢
  obtain ⟨K, hK⟩ : ∃ K, fu.length = K := ⟨_, rfl⟩
  rw [hK] at hx3 hy3 ⊢
  have HX := Lib.hid hx
  have HY := Lib.hid hy
  have HX2 := Lib.hid hx2
  have HY2 := Lib.hid hy2
  have HX3 := Lib.hid hx3
  have HY3 := Lib.hid hy3
  have HH2 := Lib.hid h2
  have HH3 := Lib.hid h3
  have HH4 := Lib.hid h4
  have HH5 := Lib.hid h5
  have HN := Lib.hid hN
  have HM := Lib.hid hM
  have HK := Lib.hid hK
  clear hx hy hx2 hy2 hx3 hy3 h2 h3 h4 h5 hN hM hK
  go_enter Tryz.func18, Tryz.ntmps18
  go_upto_region 1 with fail
  obtain ⟨w1, hn⟩ : ∃ wZ, (w.alloc (.cells #[.int .u8 k, .string s, .slice a1 N c1, .slice a3 M c3, .slice a5 K c5, .int .u8 k_x, .string s_x, .int .i64 n_x, .slice b_x m_x cp_x, .int .u8 k2_x, .string s2_x, .int .i64 n2_x, .string u2_x, .slice b12_x m12_x c12_x, .slice b22_x m22_x c22_x, .slice b32_x m32_x c32_x] 46)).alloc (.cells #[.int .u8 k, .string s, .slice a2 N c2, .slice a4 M c4, .slice a6 K c6, .int .u8 k_y, .string s_y, .int .i64 n_y, .slice b_y m_y cp_y, .int .u8 k2_y, .string s2_y, .int .i64 n2_y, .string u2_y, .slice b12_y m12_y c12_y, .slice b22_y m22_y c22_y, .slice b32_y m32_y c32_y] 46) = wZ := ⟨_, rfl⟩
  obtain ⟨g_x, hg⟩ : ∃ gZ, w.heap.size = gZ := ⟨_, rfl⟩
  rw [hn, hg]
  have HW : Hid (Fr No w w1) := Lib.hid (by rw [← hn]; exact (Fr.alloc _ _).then (Fr.alloc _ _))
  have R_x : Hid (w1.heap[g_x]? = some (.cells #[.int .u8 k, .string s, .slice a1 N c1, .slice a3 M c3, .slice a5 K c5, .int .u8 k_x, .string s_x, .int .i64 n_x, .slice b_x m_x cp_x, .int .u8 k2_x, .string s2_x, .int .i64 n2_x, .string u2_x, .slice b12_x m12_x c12_x, .slice b22_x m22_x c22_x, .slice b32_x m32_x c32_x] 46 (0, 0))) := Lib.hid (by rw [← hn, ← hg]; exact (Fr.alloc _ _).keeps (new_block _ _) no_one)
  have R_y : Hid (w1.heap[g_x + 1]? = some (.cells #[.int .u8 k, .string s, .slice a2 N c2, .slice a4 M c4, .slice a6 K c6, .int .u8 k_y, .string s_y, .int .i64 n_y, .slice b_y m_y cp_y, .int .u8 k2_y, .string s2_y, .int .i64 n2_y, .string u2_y, .slice b12_y m12_y c12_y, .slice b22_y m22_y c22_y, .slice b32_y m32_y c32_y] 46 (0, 0))) := Lib.hid (by rw [← hn, ← hg, ← size_alloc w (.cells #[.int .u8 k, .string s, .slice a1 N c1, .slice a3 M c3, .slice a5 K c5, .int .u8 k_x, .string s_x, .int .i64 n_x, .slice b_x m_x cp_x, .int .u8 k2_x, .string s2_x, .int .i64 n2_x, .string u2_x, .slice b12_x m12_x c12_x, .slice b22_x m22_x c22_x, .slice b32_x m32_x c32_x] 46)]; exact new_block _ _)
  have HF : Hid (Fr No w1 w1) := Lib.hid (Fr.refl _ _)
  clear hn hg
  have HS0 : Hid (∀ w', Fr No w1 w' → w'.cell? ⟨g_x, 0, none⟩ = some (.int .u8 k) ∧ w'.cell? ⟨g_x, 1, none⟩ = some (.string s) ∧ w'.cell? ⟨g_x, 2, none⟩ = some (.slice a1 N c1) ∧ w'.cell? ⟨g_x, 3, none⟩ = some (.slice a3 M c3) ∧ w'.cell? ⟨g_x, 4, none⟩ = some (.slice a5 K c5) ∧ w'.cell? ⟨g_x, 5, none⟩ = some (.int .u8 k_x) ∧ w'.cell? ⟨g_x, 6, none⟩ = some (.string s_x) ∧ w'.cell? ⟨g_x, 7, none⟩ = some (.int .i64 n_x) ∧ w'.cell? ⟨g_x, 8, none⟩ = some (.slice b_x m_x cp_x) ∧ w'.cell? ⟨g_x, 9, none⟩ = some (.int .u8 k2_x) ∧ w'.cell? ⟨g_x, 10, none⟩ = some (.string s2_x) ∧ w'.cell? ⟨g_x, 11, none⟩ = some (.int .i64 n2_x) ∧ w'.cell? ⟨g_x, 12, none⟩ = some (.string u2_x) ∧ w'.cell? ⟨g_x, 13, none⟩ = some (.slice b12_x m12_x c12_x) ∧ w'.cell? ⟨g_x, 14, none⟩ = some (.slice b22_x m22_x c22_x) ∧ w'.cell? ⟨g_x, 15, none⟩ = some (.slice b32_x m32_x c32_x) ∧ w'.cell? ⟨g_x + 1, 0, none⟩ = some (.int .u8 k) ∧ w'.cell? ⟨g_x + 1, 1, none⟩ = some (.string s) ∧ w'.cell? ⟨g_x + 1, 2, none⟩ = some (.slice a2 N c2) ∧ w'.cell? ⟨g_x + 1, 3, none⟩ = some (.slice a4 M c4) ∧ w'.cell? ⟨g_x + 1, 4, none⟩ = some (.slice a6 K c6) ∧ w'.cell? ⟨g_x + 1, 5, none⟩ = some (.int .u8 k_y) ∧ w'.cell? ⟨g_x + 1, 6, none⟩ = some (.string s_y) ∧ w'.cell? ⟨g_x + 1, 7, none⟩ = some (.int .i64 n_y) ∧ w'.cell? ⟨g_x + 1, 8, none⟩ = some (.slice b_y m_y cp_y) ∧ w'.cell? ⟨g_x + 1, 9, none⟩ = some (.int .u8 k2_y) ∧ w'.cell? ⟨g_x + 1, 10, none⟩ = some (.string s2_y) ∧ w'.cell? ⟨g_x + 1, 11, none⟩ = some (.int .i64 n2_y) ∧ w'.cell? ⟨g_x + 1, 12, none⟩ = some (.string u2_y) ∧ w'.cell? ⟨g_x + 1, 13, none⟩ = some (.slice b12_y m12_y c12_y) ∧ w'.cell? ⟨g_x + 1, 14, none⟩ = some (.slice b22_y m22_y c22_y) ∧ w'.cell? ⟨g_x + 1, 15, none⟩ = some (.slice b32_y m32_y c32_y)) := Lib.hid (fun w' hf => ⟨cell_of (hf.keeps R_x.out no_one) 0, cell_of (hf.keeps R_x.out no_one) 1, cell_of (hf.keeps R_x.out no_one) 2, cell_of (hf.keeps R_x.out no_one) 3, cell_of (hf.keeps R_x.out no_one) 4, cell_of (hf.keeps R_x.out no_one) 5, cell_of (hf.keeps R_x.out no_one) 6, cell_of (hf.keeps R_x.out no_one) 7, cell_of (hf.keeps R_x.out no_one) 8, cell_of (hf.keeps R_x.out no_one) 9, cell_of (hf.keeps R_x.out no_one) 10, cell_of (hf.keeps R_x.out no_one) 11, cell_of (hf.keeps R_x.out no_one) 12, cell_of (hf.keeps R_x.out no_one) 13, cell_of (hf.keeps R_x.out no_one) 14, cell_of (hf.keeps R_x.out no_one) 15, cell_of (hf.keeps R_y.out no_one) 0, cell_of (hf.keeps R_y.out no_one) 1, cell_of (hf.keeps R_y.out no_one) 2, cell_of (hf.keeps R_y.out no_one) 3, cell_of (hf.keeps R_y.out no_one) 4, cell_of (hf.keeps R_y.out no_one) 5, cell_of (hf.keeps R_y.out no_one) 6, cell_of (hf.keeps R_y.out no_one) 7, cell_of (hf.keeps R_y.out no_one) 8, cell_of (hf.keeps R_y.out no_one) 9, cell_of (hf.keeps R_y.out no_one) 10, cell_of (hf.keeps R_y.out no_one) 11, cell_of (hf.keeps R_y.out no_one) 12, cell_of (hf.keeps R_y.out no_one) 13, cell_of (hf.keeps R_y.out no_one) 14, cell_of (hf.keeps R_y.out no_one) 15⟩)
  obtain ⟨d0, d1, d2, d3, d4, d5, d6, d7, d8, d9, d10, d11, d12, d13, d14, d15, d16, d17, d18, d19, d20, d21, d22, d23, d24, d25, d26, d27, d28, d29, d30, d31⟩ := HS0.out _ HF.out
  go_wp2_with fail
  clear d0 d1 d2 d3 d4 d5 d6 d7 d8 d9 d10 d11 d12 d13 d14 d15 d16 d17 d18 d19 d20 d21 d22 d23 d24 d25 d26 d27 d28 d29 d30 d31
  refine (HH4.out ok ok' _ _ _ (HX4.out.no HW.out) (HY4.out.no HW.out)).mono ?_
  rintro e w6 ⟨rfl, hf⟩
  have HC := Lib.hid hf
  clear hf
  replace HF := Lib.hid (HF.out.then HC.out)
  clear HC
  obtain ⟨d0, d1, d2, d3, d4, d5, d6, d7, d8, d9, d10, d11, d12, d13, d14, d15, d16, d17, d18, d19, d20, d21, d22, d23, d24, d25, d26, d27, d28, d29, d30, d31⟩ := HS0.out _ HF.out
  go_wp2_with fail
  clear d0 d1 d2 d3 d4 d5 d6 d7 d8 d9 d10 d11 d12 d13 d14 d15 d16 d17 d18 d19 d20 d21 d22 d23 d24 d25 d26 d27 d28 d29 d30 d31
  refine (HH5.out ok ok' _ _ _ (HX5.out.no (HW.out.then HF.out)) (HY5.out.no (HW.out.then HF.out))).mono ?_
  rintro e w7 ⟨rfl, hf⟩
  have HC := Lib.hid hf
  clear hf
  replace HF := Lib.hid (HF.out.then HC.out)
  clear HC
  obtain ⟨d0, d1, d2, d3, d4, d5, d6, d7, d8, d9, d10, d11, d12, d13, d14, d15, d16, d17, d18, d19, d20, d21, d22, d23, d24, d25, d26, d27, d28, d29, d30, d31⟩ := HS0.out _ HF.out
  go_wp2_with fail
  clear d0 d1 d2 d3 d4 d5 d6 d7 d8 d9 d10 d11 d12 d13 d14 d15 d16 d17 d18 d19 d20 d21 d22 d23 d24 d25 d26 d27 d28 d29 d30 d31
  go_loopw [5] (fun i wr => ∃ j : Nat, j ≤ N ∧ i = .int .i64 (j : Nat) ∧ Hid (Fr No w1 wr)) (fun i _ => N - intOf i)
  case atStart => exact ⟨0, Nat.zero_le _, rfl, HF⟩
  case round =>
    clear HF
    obtain ⟨j, hj, rfl, HF⟩ := hrel
    obtain ⟨wL, hwL⟩ : ∃ wL, wL = wr := ⟨wr, rfl⟩
    rw [← hwL] at HF ⊢
    clear hwL wr
    by_cases hlt : j < N
    · skip
      have hNL := hx_len (HX.out.no HW.out)
      rw [List.length_map, HN.out] at hNL
      have hd0 : decide (j < N) = true := decide_eq_true hlt
      have hj0 : (0 : Int) ≤ (j : Int) := by omega
      have hj1 : (j : Int) < (N : Int) := by omega
      obtain ⟨t, ht⟩ : ∃ t, va[j]? = some t := ⟨_, List.getElem?_eq_getElem (by rw [HN.out]; exact hlt)⟩
      have hmem := List.mem_of_getElem? ht
      obtain ⟨ge, oe, ce, hae, _, hle, hce, hxe⟩ := hx_at (HX.out.no HW.out) (j := j) (x := [xb t]) (by rw [List.getElem?_map, ht]; rfl)
      obtain ⟨gf, of, cf, haf, _, hlf, hcf, hxf⟩ := hx_at (HY.out.no HW.out) (j := j) (x := [xb t]) (by rw [List.getElem?_map, ht]; rfl)
      subst hae haf
      obtain ⟨_, rfl, he1⟩ := hc_lit hxe
      rw [hc_nil he1] at hce hxe
      clear he1
      obtain ⟨_, rfl, hf1⟩ := hc_lit hxf
      rw [hc_nil hf1] at hcf hxf
      clear hf1
      have HS1 : Hid (∀ w', Fr No w1 w' → w'.cell? ⟨g_x, 2, none⟩ = some (.slice (some ⟨ge, oe, none⟩) N c1) ∧ w'.cell? ⟨g_x + 1, 2, none⟩ = some (.slice (some ⟨gf, of, none⟩) N c2) ∧ w'.cell? ⟨ge, oe + j, none⟩ = some (.string t) ∧ w'.cell? ⟨gf, of + j, none⟩ = some (.string t)) := Lib.hid (fun w' hf => by
        obtain ⟨q0, q1, q2, q3, q4, q5, q6, q7, q8, q9, q10, q11, q12, q13, q14, q15, q16, q17, q18, q19, q20, q21, q22, q23, q24, q25, q26, q27, q28, q29, q30, q31⟩ := HS0.out w' hf
        exact ⟨q2, q18, hf.cell (by have h := hce 0 _ rfl; rw [Nat.mul_one, Nat.add_zero] at h; exact h), hf.cell (by have h := hcf 0 _ rfl; rw [Nat.mul_one, Nat.add_zero] at h; exact h)⟩)
      clear hce hcf hxe hxf hle hlf ht
      obtain ⟨d0, d1, d2, d3⟩ := HS1.out _ HF.out
      go_upto_region 6 with fail
      clear d0 d1 d2 d3
      refine region_e (fun w' => w'.cell? ⟨g_x, 2, none⟩ = some (.slice (some ⟨ge, oe, none⟩) N c1) ∧ w'.cell? ⟨g_x + 1, 2, none⟩ = some (.slice (some ⟨gf, of, none⟩) N c2) ∧ w'.cell? ⟨ge, oe + j, none⟩ = some (.string t) ∧ w'.cell? ⟨gf, of + j, none⟩ = some (.string t)) [] (by kernel_rfl) ?_ (fun hHeld => ?_)
      · exact HS1.out _ (HF.out.then (Fr.drew _))
      obtain ⟨w8, hwd⟩ : ∃ wZ, wZ = wL.drew := ⟨_, rfl⟩
      have HS : Hid (Fr No wL w8) := Lib.hid (by rw [hwd]; exact Fr.drew _)
      rw [← hwd] at hHeld ⊢
      clear hwd
      replace HF := Lib.hid (HF.out.then HS.out)
      clear HS
      refine take_op 0 (some 73) (Op.fieldAddr 46 ( .tmp 2) 2) 0 ?_ (by kernel_rfl) (by kernel_rfl) (by kernel_rfl) (fun _ _ _ h => h) ?_ (by assumption) ?_
      rotate_left
      · intro w hSw; (try dsimp only at hSw); go_simp; (try (with_reducible rfl))
      try simp only [Act.put, List.setIfInBounds_toArray, List.set_cons_zero, List.set_cons_succ]
      refine take_op 1 (some 74) (Op.load 35 ( .tmp 73)) 35 ?_ (by kernel_rfl) (by kernel_rfl) (by kernel_rfl) (fun _ _ _ h => h) ?_ (by assumption) ?_
      rotate_left
      · intro w hSw; (try dsimp only at hSw); go_simp; (try (with_reducible rfl))
      try simp only [Act.put, List.setIfInBounds_toArray, List.set_cons_zero, List.set_cons_succ]
      refine take_op 2 (some 75) (Op.move ( .tmp 5)) 3 ?_ (by kernel_rfl) (by kernel_rfl) (by kernel_rfl) (fun _ _ _ h => h) ?_ (by assumption) ?_
      rotate_left
      · intro w hSw; (try dsimp only at hSw); go_simp; (try (with_reducible rfl))
      try simp only [Act.put, List.setIfInBounds_toArray, List.set_cons_zero, List.set_cons_succ]
      refine take_op 3 (some 76) (Op.indexAddr 35 ( .tmp 74) ( .tmp 75)) 0 ?_ (by kernel_rfl) (by kernel_rfl) (by kernel_rfl) (fun _ _ _ h => h) ?_ (by assumption) ?_
      rotate_left
      · intro w hSw; (try dsimp only at hSw); go_simp; (try (with_reducible rfl))
      try simp only [Act.put, List.setIfInBounds_toArray, List.set_cons_zero, List.set_cons_succ]
      refine take_op 4 (some 77) (Op.load 9 ( .tmp 76)) 9 ?_ (by kernel_rfl) (by kernel_rfl) (by kernel_rfl) (fun _ _ _ h => h) ?_ (by assumption) ?_
      rotate_left
      · intro w hSw; (try dsimp only at hSw); go_simp; (try (with_reducible rfl))
      try simp only [Act.put, List.setIfInBounds_toArray, List.set_cons_zero, List.set_cons_succ]
      refine take_op 5 (some 78) (Op.fieldAddr 46 ( .tmp 3) 2) 0 ?_ (by kernel_rfl) (by kernel_rfl) (by kernel_rfl) (fun _ _ _ h => h) ?_ (by assumption) ?_
      rotate_left
      · intro w hSw; (try dsimp only at hSw); go_simp; (try (with_reducible rfl))
      try simp only [Act.put, List.setIfInBounds_toArray, List.set_cons_zero, List.set_cons_succ]
      refine take_op 6 (some 79) (Op.load 35 ( .tmp 78)) 35 ?_ (by kernel_rfl) (by kernel_rfl) (by kernel_rfl) (fun _ _ _ h => h) ?_ (by assumption) ?_
      rotate_left
      · intro w hSw; (try dsimp only at hSw); go_simp; (try (with_reducible rfl))
      try simp only [Act.put, List.setIfInBounds_toArray, List.set_cons_zero, List.set_cons_succ]
      refine take_op 7 (some 80) (Op.move ( .tmp 5)) 3 ?_ (by kernel_rfl) (by kernel_rfl) (by kernel_rfl) (fun _ _ _ h => h) ?_ (by assumption) ?_
      rotate_left
      · intro w hSw; (try dsimp only at hSw); go_simp; (try (with_reducible rfl))
      try simp only [Act.put, List.setIfInBounds_toArray, List.set_cons_zero, List.set_cons_succ]
      refine take_op 8 (some 81) (Op.indexAddr 35 ( .tmp 79) ( .tmp 80)) 0 ?_ (by kernel_rfl) (by kernel_rfl) (by kernel_rfl) (fun _ _ _ h => h) ?_ (by assumption) ?_
      rotate_left
      · intro w hSw; (try dsimp only at hSw); go_simp; (try (with_reducible rfl))
      try simp only [Act.put, List.setIfInBounds_toArray, List.set_cons_zero, List.set_cons_succ]
      refine take_op 9 (some 82) (Op.load 9 ( .tmp 81)) 9 ?_ (by kernel_rfl) (by kernel_rfl) (by kernel_rfl) (fun _ _ _ h => h) ?_ (by assumption) ?_
      rotate_left
      · intro w hSw; (try dsimp only at hSw); go_simp; (try (with_reducible rfl))
      try simp only [Act.put, List.setIfInBounds_toArray, List.set_cons_zero, List.set_cons_succ]
      refine take_op 10 (some 83) (Op.binOp BinOp.neq 9 ( .tmp 77) ( .tmp 82) 9) 4 ?_ (by kernel_rfl) (by kernel_rfl) (by kernel_rfl) (fun _ _ _ h => h) ?_ (by assumption) ?_
      rotate_left
      · intro w hSw; (try dsimp only at hSw); go_simp; (try (with_reducible rfl))
      try simp only [Act.put, List.setIfInBounds_toArray, List.set_cons_zero, List.set_cons_succ]
      refine done_e (by kernel_rfl) ?_ _
      (try simp only [Exit.inBlock, Exit.then])
      go_wp2_with fail
      exact ⟨⟨j + 1, by omega, by go_num, HF⟩, by simp [intOf]; omega⟩
    · skip
      have hd0 : decide (j < N) = false := decide_eq_false hlt
      obtain ⟨d0, d1, d2, d3, d4, d5, d6, d7, d8, d9, d10, d11, d12, d13, d14, d15, d16, d17, d18, d19, d20, d21, d22, d23, d24, d25, d26, d27, d28, d29, d30, d31⟩ := HS0.out _ HF.out
      go_wp2_with fail
      clear d0 d1 d2 d3 d4 d5 d6 d7 d8 d9 d10 d11 d12 d13 d14 d15 d16 d17 d18 d19 d20 d21 d22 d23 d24 d25 d26 d27 d28 d29 d30 d31
      clear hd0 hlt hj
      go_loopw [6] (fun i wr => ∃ j : Nat, j ≤ M ∧ i = .int .i64 (j : Nat) ∧ Hid (Fr No w1 wr)) (fun i _ => M - intOf i)
      case atStart => exact ⟨0, Nat.zero_le _, rfl, HF⟩
      case round =>
        clear HF
        obtain ⟨j, hj, rfl, HF⟩ := hrel
        obtain ⟨wL, hwL⟩ : ∃ wL, wL = wr := ⟨wr, rfl⟩
        rw [← hwL] at HF ⊢
        clear hwL wr
        by_cases hlt : j < M
        · skip
          have hNL := hx_len (HX2.out.no HW.out)
          rw [List.length_map, HM.out] at hNL
          have hd0 : decide (j < M) = true := decide_eq_true hlt
          have hj0 : (0 : Int) ≤ (j : Int) := by omega
          have hj1 : (j : Int) < (M : Int) := by omega
          obtain ⟨t, ht⟩ : ∃ t, co[j]? = some t := ⟨_, List.getElem?_eq_getElem (by rw [HM.out]; exact hlt)⟩
          have hmem := List.mem_of_getElem? ht
          obtain ⟨ge, oe, ce, hae, _, hle, hce, hxe⟩ := hx_at (HX2.out.no HW.out) (j := j) (x := xC t) (by rw [List.getElem?_map, ht]; rfl)
          obtain ⟨gf, of, cf, haf, _, hlf, hcf, hxf⟩ := hx_at (HY2.out.no HW.out) (j := j) (x := xC t) (by rw [List.getElem?_map, ht]; rfl)
          subst hae haf
          obtain ⟨tz, tq, tt⟩ := t
          simp only [xC, xb] at hxe
          obtain ⟨ca, cb, ecs, h1, h2⟩ := Hc.split hxe
          subst ecs
          obtain ⟨_, rfl, h1a⟩ := hc_lit h1
          obtain ⟨_, rfl, h1b⟩ := hc_lit h1a
          obtain rfl := hc_nil h1b
          clear h1a h1b
          have HE2 := Lib.hid h2
          obtain ⟨k2_e, s2_e, n2_e, b2_e, m2_e, cp2_e, ecs⟩ := hcT h2
          subst ecs
          clear h1 h2
          simp only [xC, xb] at hxf
          obtain ⟨ca, cb, ecs, h1, h2⟩ := Hc.split hxf
          subst ecs
          obtain ⟨_, rfl, h1a⟩ := hc_lit h1
          obtain ⟨_, rfl, h1b⟩ := hc_lit h1a
          obtain rfl := hc_nil h1b
          clear h1a h1b
          have HG2 := Lib.hid h2
          obtain ⟨k2_f, s2_f, n2_f, b2_f, m2_f, cp2_f, ecs⟩ := hcT h2
          subst ecs
          clear h1 h2
          have HS1 : Hid (∀ w', Fr No w1 w' → w'.cell? ⟨g_x, 3, none⟩ = some (.slice (some ⟨ge, oe, none⟩) M c3) ∧ w'.cell? ⟨g_x + 1, 3, none⟩ = some (.slice (some ⟨gf, of, none⟩) M c4) ∧ w'.cell? ⟨ge, oe + j * 6, none⟩ = some (.string tz) ∧ w'.cell? ⟨ge, oe + j * 6 + 1, none⟩ = some (.bool tq) ∧ w'.cell? ⟨ge, oe + j * 6 + 2, none⟩ = some (.int .u8 k2_e) ∧ w'.cell? ⟨ge, oe + j * 6 + 3, none⟩ = some (.string s2_e) ∧ w'.cell? ⟨ge, oe + j * 6 + 4, none⟩ = some (.int .i64 n2_e) ∧ w'.cell? ⟨ge, oe + j * 6 + 5, none⟩ = some (.slice b2_e m2_e cp2_e) ∧ w'.cell? ⟨gf, of + j * 6, none⟩ = some (.string tz) ∧ w'.cell? ⟨gf, of + j * 6 + 1, none⟩ = some (.bool tq) ∧ w'.cell? ⟨gf, of + j * 6 + 2, none⟩ = some (.int .u8 k2_f) ∧ w'.cell? ⟨gf, of + j * 6 + 3, none⟩ = some (.string s2_f) ∧ w'.cell? ⟨gf, of + j * 6 + 4, none⟩ = some (.int .i64 n2_f) ∧ w'.cell? ⟨gf, of + j * 6 + 5, none⟩ = some (.slice b2_f m2_f cp2_f)) := Lib.hid (fun w' hf => by
            obtain ⟨q0, q1, q2, q3, q4, q5, q6, q7, q8, q9, q10, q11, q12, q13, q14, q15, q16, q17, q18, q19, q20, q21, q22, q23, q24, q25, q26, q27, q28, q29, q30, q31⟩ := HS0.out w' hf
            exact ⟨q3, q19, hf.cell (hce 0 _ rfl), hf.cell (hce 1 _ rfl), hf.cell (hce 2 _ rfl), hf.cell (hce 3 _ rfl), hf.cell (hce 4 _ rfl), hf.cell (hce 5 _ rfl), hf.cell (hcf 0 _ rfl), hf.cell (hcf 1 _ rfl), hf.cell (hcf 2 _ rfl), hf.cell (hcf 3 _ rfl), hf.cell (hcf 4 _ rfl), hf.cell (hcf 5 _ rfl)⟩)
          clear hce hcf hxe hxf hle hlf ht
          obtain ⟨d0, d1, d2, d3, d4, d5, d6, d7, d8, d9, d10, d11, d12, d13⟩ := HS1.out _ HF.out
          go_upto_region 11 with fail
          clear d0 d1 d2 d3 d4 d5 d6 d7 d8 d9 d10 d11 d12 d13
          refine region_e (fun w' => w'.cell? ⟨g_x, 3, none⟩ = some (.slice (some ⟨ge, oe, none⟩) M c3) ∧ w'.cell? ⟨g_x + 1, 3, none⟩ = some (.slice (some ⟨gf, of, none⟩) M c4) ∧ w'.cell? ⟨ge, oe + j * 6, none⟩ = some (.string tz) ∧ w'.cell? ⟨ge, oe + j * 6 + 1, none⟩ = some (.bool tq) ∧ w'.cell? ⟨ge, oe + j * 6 + 2, none⟩ = some (.int .u8 k2_e) ∧ w'.cell? ⟨ge, oe + j * 6 + 3, none⟩ = some (.string s2_e) ∧ w'.cell? ⟨ge, oe + j * 6 + 4, none⟩ = some (.int .i64 n2_e) ∧ w'.cell? ⟨ge, oe + j * 6 + 5, none⟩ = some (.slice b2_e m2_e cp2_e) ∧ w'.cell? ⟨gf, of + j * 6, none⟩ = some (.string tz) ∧ w'.cell? ⟨gf, of + j * 6 + 1, none⟩ = some (.bool tq) ∧ w'.cell? ⟨gf, of + j * 6 + 2, none⟩ = some (.int .u8 k2_f) ∧ w'.cell? ⟨gf, of + j * 6 + 3, none⟩ = some (.string s2_f) ∧ w'.cell? ⟨gf, of + j * 6 + 4, none⟩ = some (.int .i64 n2_f) ∧ w'.cell? ⟨gf, of + j * 6 + 5, none⟩ = some (.slice b2_f m2_f cp2_f)) [] (by kernel_rfl) ?_ (fun hHeld => ?_)
          · exact HS1.out _ (HF.out.then (Fr.drew _))
          obtain ⟨w9, hwd⟩ : ∃ wZ, wZ = wL.drew := ⟨_, rfl⟩
          have HS : Hid (Fr No wL w9) := Lib.hid (by rw [hwd]; exact Fr.drew _)
          rw [← hwd] at hHeld ⊢
          clear hwd
          replace HF := Lib.hid (HF.out.then HS.out)
          clear HS
          refine take_op 0 (some 91) (Op.fieldAddr 46 ( .tmp 2) 3) 0 ?_ (by kernel_rfl) (by kernel_rfl) (by kernel_rfl) (fun _ _ _ h => h) ?_ (by assumption) ?_
          rotate_left
          · intro w hSw; (try dsimp only at hSw); go_simp; (try (with_reducible rfl))
          try simp only [Act.put, List.setIfInBounds_toArray, List.set_cons_zero, List.set_cons_succ]
          refine take_op 1 (some 92) (Op.load 36 ( .tmp 91)) 36 ?_ (by kernel_rfl) (by kernel_rfl) (by kernel_rfl) (fun _ _ _ h => h) ?_ (by assumption) ?_
          rotate_left
          · intro w hSw; (try dsimp only at hSw); go_simp; (try (with_reducible rfl))
          try simp only [Act.put, List.setIfInBounds_toArray, List.set_cons_zero, List.set_cons_succ]
          refine take_op 2 (some 93) (Op.move ( .tmp 6)) 3 ?_ (by kernel_rfl) (by kernel_rfl) (by kernel_rfl) (fun _ _ _ h => h) ?_ (by assumption) ?_
          rotate_left
          · intro w hSw; (try dsimp only at hSw); go_simp; (try (with_reducible rfl))
          try simp only [Act.put, List.setIfInBounds_toArray, List.set_cons_zero, List.set_cons_succ]
          refine take_op 3 (some 94) (Op.indexAddr 36 ( .tmp 92) ( .tmp 93)) 0 ?_ (by kernel_rfl) (by kernel_rfl) (by kernel_rfl) (fun _ _ _ h => h) ?_ (by assumption) ?_
          rotate_left
          · intro w hSw; (try dsimp only at hSw); go_simp; (try (with_reducible rfl))
          try simp only [Act.put, List.setIfInBounds_toArray, List.set_cons_zero, List.set_cons_succ]
          refine take_op 4 (some 95) (Op.fieldAddr 76 ( .tmp 94) 0) 0 ?_ (by kernel_rfl) (by kernel_rfl) (by kernel_rfl) (fun _ _ _ h => h) ?_ (by assumption) ?_
          rotate_left
          · intro w hSw; (try dsimp only at hSw); go_simp; (try (with_reducible rfl))
          try simp only [Act.put, List.setIfInBounds_toArray, List.set_cons_zero, List.set_cons_succ]
          refine take_op 5 (some 96) (Op.load 9 ( .tmp 95)) 9 ?_ (by kernel_rfl) (by kernel_rfl) (by kernel_rfl) (fun _ _ _ h => h) ?_ (by assumption) ?_
          rotate_left
          · intro w hSw; (try dsimp only at hSw); go_simp; (try (with_reducible rfl))
          try simp only [Act.put, List.setIfInBounds_toArray, List.set_cons_zero, List.set_cons_succ]
          refine take_op 6 (some 97) (Op.fieldAddr 46 ( .tmp 3) 3) 0 ?_ (by kernel_rfl) (by kernel_rfl) (by kernel_rfl) (fun _ _ _ h => h) ?_ (by assumption) ?_
          rotate_left
          · intro w hSw; (try dsimp only at hSw); go_simp; (try (with_reducible rfl))
          try simp only [Act.put, List.setIfInBounds_toArray, List.set_cons_zero, List.set_cons_succ]
          refine take_op 7 (some 98) (Op.load 36 ( .tmp 97)) 36 ?_ (by kernel_rfl) (by kernel_rfl) (by kernel_rfl) (fun _ _ _ h => h) ?_ (by assumption) ?_
          rotate_left
          · intro w hSw; (try dsimp only at hSw); go_simp; (try (with_reducible rfl))
          try simp only [Act.put, List.setIfInBounds_toArray, List.set_cons_zero, List.set_cons_succ]
          refine take_op 8 (some 99) (Op.move ( .tmp 6)) 3 ?_ (by kernel_rfl) (by kernel_rfl) (by kernel_rfl) (fun _ _ _ h => h) ?_ (by assumption) ?_
          rotate_left
          · intro w hSw; (try dsimp only at hSw); go_simp; (try (with_reducible rfl))
          try simp only [Act.put, List.setIfInBounds_toArray, List.set_cons_zero, List.set_cons_succ]
          refine take_op 9 (some 100) (Op.indexAddr 36 ( .tmp 98) ( .tmp 99)) 0 ?_ (by kernel_rfl) (by kernel_rfl) (by kernel_rfl) (fun _ _ _ h => h) ?_ (by assumption) ?_
          rotate_left
          · intro w hSw; (try dsimp only at hSw); go_simp; (try (with_reducible rfl))
          try simp only [Act.put, List.setIfInBounds_toArray, List.set_cons_zero, List.set_cons_succ]
          refine take_op 10 (some 101) (Op.fieldAddr 76 ( .tmp 100) 0) 0 ?_ (by kernel_rfl) (by kernel_rfl) (by kernel_rfl) (fun _ _ _ h => h) ?_ (by assumption) ?_
          rotate_left
          · intro w hSw; (try dsimp only at hSw); go_simp; (try (with_reducible rfl))
          try simp only [Act.put, List.setIfInBounds_toArray, List.set_cons_zero, List.set_cons_succ]
          refine take_op 11 (some 102) (Op.load 9 ( .tmp 101)) 9 ?_ (by kernel_rfl) (by kernel_rfl) (by kernel_rfl) (fun _ _ _ h => h) ?_ (by assumption) ?_
          rotate_left
          · intro w hSw; (try dsimp only at hSw); go_simp; (try (with_reducible rfl))
          try simp only [Act.put, List.setIfInBounds_toArray, List.set_cons_zero, List.set_cons_succ]
          refine take_op 12 (some 103) (Op.binOp BinOp.neq 9 ( .tmp 96) ( .tmp 102) 9) 4 ?_ (by kernel_rfl) (by kernel_rfl) (by kernel_rfl) (fun _ _ _ h => h) ?_ (by assumption) ?_
          rotate_left
          · intro w hSw; (try dsimp only at hSw); go_simp; (try (with_reducible rfl))
          try simp only [Act.put, List.setIfInBounds_toArray, List.set_cons_zero, List.set_cons_succ]
          refine take_op 13 (some 104) (Op.move ( .tmp 103)) 4 ?_ (by kernel_rfl) (by kernel_rfl) (by kernel_rfl) (fun _ _ _ h => h) ?_ (by assumption) ?_
          rotate_left
          · intro w hSw; (try dsimp only at hSw); go_simp; (try (with_reducible rfl))
          try simp only [Act.put, List.setIfInBounds_toArray, List.set_cons_zero, List.set_cons_succ]
          refine take_op 14 (some 105) (Op.fieldAddr 46 ( .tmp 2) 3) 0 ?_ (by kernel_rfl) (by kernel_rfl) (by kernel_rfl) (fun _ _ _ h => h) ?_ (by assumption) ?_
          rotate_left
          · intro w hSw; (try dsimp only at hSw); go_simp; (try (with_reducible rfl))
          try simp only [Act.put, List.setIfInBounds_toArray, List.set_cons_zero, List.set_cons_succ]
          refine take_op 15 (some 106) (Op.load 36 ( .tmp 105)) 36 ?_ (by kernel_rfl) (by kernel_rfl) (by kernel_rfl) (fun _ _ _ h => h) ?_ (by assumption) ?_
          rotate_left
          · intro w hSw; (try dsimp only at hSw); go_simp; (try (with_reducible rfl))
          try simp only [Act.put, List.setIfInBounds_toArray, List.set_cons_zero, List.set_cons_succ]
          refine take_op 16 (some 107) (Op.move ( .tmp 6)) 3 ?_ (by kernel_rfl) (by kernel_rfl) (by kernel_rfl) (fun _ _ _ h => h) ?_ (by assumption) ?_
          rotate_left
          · intro w hSw; (try dsimp only at hSw); go_simp; (try (with_reducible rfl))
          try simp only [Act.put, List.setIfInBounds_toArray, List.set_cons_zero, List.set_cons_succ]
          refine take_op 17 (some 108) (Op.indexAddr 36 ( .tmp 106) ( .tmp 107)) 0 ?_ (by kernel_rfl) (by kernel_rfl) (by kernel_rfl) (fun _ _ _ h => h) ?_ (by assumption) ?_
          rotate_left
          · intro w hSw; (try dsimp only at hSw); go_simp; (try (with_reducible rfl))
          try simp only [Act.put, List.setIfInBounds_toArray, List.set_cons_zero, List.set_cons_succ]
          refine take_op 18 (some 109) (Op.fieldAddr 76 ( .tmp 108) 1) 0 ?_ (by kernel_rfl) (by kernel_rfl) (by kernel_rfl) (fun _ _ _ h => h) ?_ (by assumption) ?_
          rotate_left
          · intro w hSw; (try dsimp only at hSw); go_simp; (try (with_reducible rfl))
          try simp only [Act.put, List.setIfInBounds_toArray, List.set_cons_zero, List.set_cons_succ]
          refine take_op 19 (some 110) (Op.load 4 ( .tmp 109)) 4 ?_ (by kernel_rfl) (by kernel_rfl) (by kernel_rfl) (fun _ _ _ h => h) ?_ (by assumption) ?_
          rotate_left
          · intro w hSw; (try dsimp only at hSw); go_simp; (try (with_reducible rfl))
          try simp only [Act.put, List.setIfInBounds_toArray, List.set_cons_zero, List.set_cons_succ]
          refine take_op 20 (some 111) (Op.fieldAddr 46 ( .tmp 3) 3) 0 ?_ (by kernel_rfl) (by kernel_rfl) (by kernel_rfl) (fun _ _ _ h => h) ?_ (by assumption) ?_
          rotate_left
          · intro w hSw; (try dsimp only at hSw); go_simp; (try (with_reducible rfl))
          try simp only [Act.put, List.setIfInBounds_toArray, List.set_cons_zero, List.set_cons_succ]
          refine take_op 21 (some 112) (Op.load 36 ( .tmp 111)) 36 ?_ (by kernel_rfl) (by kernel_rfl) (by kernel_rfl) (fun _ _ _ h => h) ?_ (by assumption) ?_
          rotate_left
          · intro w hSw; (try dsimp only at hSw); go_simp; (try (with_reducible rfl))
          try simp only [Act.put, List.setIfInBounds_toArray, List.set_cons_zero, List.set_cons_succ]
          refine take_op 22 (some 113) (Op.move ( .tmp 6)) 3 ?_ (by kernel_rfl) (by kernel_rfl) (by kernel_rfl) (fun _ _ _ h => h) ?_ (by assumption) ?_
          rotate_left
          · intro w hSw; (try dsimp only at hSw); go_simp; (try (with_reducible rfl))
          try simp only [Act.put, List.setIfInBounds_toArray, List.set_cons_zero, List.set_cons_succ]
          refine take_op 23 (some 114) (Op.indexAddr 36 ( .tmp 112) ( .tmp 113)) 0 ?_ (by kernel_rfl) (by kernel_rfl) (by kernel_rfl) (fun _ _ _ h => h) ?_ (by assumption) ?_
          rotate_left
          · intro w hSw; (try dsimp only at hSw); go_simp; (try (with_reducible rfl))
          try simp only [Act.put, List.setIfInBounds_toArray, List.set_cons_zero, List.set_cons_succ]
          refine take_op 24 (some 115) (Op.fieldAddr 76 ( .tmp 114) 1) 0 ?_ (by kernel_rfl) (by kernel_rfl) (by kernel_rfl) (fun _ _ _ h => h) ?_ (by assumption) ?_
          rotate_left
          · intro w hSw; (try dsimp only at hSw); go_simp; (try (with_reducible rfl))
          try simp only [Act.put, List.setIfInBounds_toArray, List.set_cons_zero, List.set_cons_succ]
          refine take_op 25 (some 116) (Op.load 4 ( .tmp 115)) 4 ?_ (by kernel_rfl) (by kernel_rfl) (by kernel_rfl) (fun _ _ _ h => h) ?_ (by assumption) ?_
          rotate_left
          · intro w hSw; (try dsimp only at hSw); go_simp; (try (with_reducible rfl))
          try simp only [Act.put, List.setIfInBounds_toArray, List.set_cons_zero, List.set_cons_succ]
          refine take_op 26 (some 117) (Op.binOp BinOp.neq 4 ( .tmp 110) ( .tmp 116) 4) 4 ?_ (by kernel_rfl) (by kernel_rfl) (by kernel_rfl) (fun _ _ _ h => h) ?_ (by assumption) ?_
          rotate_left
          · intro w hSw; (try dsimp only at hSw); go_simp; (try (with_reducible rfl))
          try simp only [Act.put, List.setIfInBounds_toArray, List.set_cons_zero, List.set_cons_succ]
          refine take_op 27 (some 118) (Op.pick ( .tmp 104) ( .const (Value.bool true)) ( .tmp 117)) 4 ?_ (by kernel_rfl) (by kernel_rfl) (by kernel_rfl) (fun _ _ _ h => h) ?_ (by assumption) ?_
          rotate_left
          · intro w hSw; (try dsimp only at hSw); go_simp; (try (with_reducible rfl))
          try simp only [Act.put, List.setIfInBounds_toArray, List.set_cons_zero, List.set_cons_succ]
          refine take_op 28 (some 119) (Op.move ( .tmp 118)) 4 ?_ (by kernel_rfl) (by kernel_rfl) (by kernel_rfl) (fun _ _ _ h => h) ?_ (by assumption) ?_
          rotate_left
          · intro w hSw; (try dsimp only at hSw); go_simp; (try (with_reducible rfl))
          try simp only [Act.put, List.setIfInBounds_toArray, List.set_cons_zero, List.set_cons_succ]
          refine take_op 29 (some 120) (Op.fieldAddr 46 ( .tmp 2) 3) 0 ?_ (by kernel_rfl) (by kernel_rfl) (by kernel_rfl) (fun _ _ _ h => h) ?_ (by assumption) ?_
          rotate_left
          · intro w hSw; (try dsimp only at hSw); go_simp; (try (with_reducible rfl))
          try simp only [Act.put, List.setIfInBounds_toArray, List.set_cons_zero, List.set_cons_succ]
          refine take_op 30 (some 121) (Op.load 36 ( .tmp 120)) 36 ?_ (by kernel_rfl) (by kernel_rfl) (by kernel_rfl) (fun _ _ _ h => h) ?_ (by assumption) ?_
          rotate_left
          · intro w hSw; (try dsimp only at hSw); go_simp; (try (with_reducible rfl))
          try simp only [Act.put, List.setIfInBounds_toArray, List.set_cons_zero, List.set_cons_succ]
          refine take_op 31 (some 122) (Op.move ( .tmp 6)) 3 ?_ (by kernel_rfl) (by kernel_rfl) (by kernel_rfl) (fun _ _ _ h => h) ?_ (by assumption) ?_
          rotate_left
          · intro w hSw; (try dsimp only at hSw); go_simp; (try (with_reducible rfl))
          try simp only [Act.put, List.setIfInBounds_toArray, List.set_cons_zero, List.set_cons_succ]
          refine take_op 32 (some 123) (Op.indexAddr 36 ( .tmp 121) ( .tmp 122)) 0 ?_ (by kernel_rfl) (by kernel_rfl) (by kernel_rfl) (fun _ _ _ h => h) ?_ (by assumption) ?_
          rotate_left
          · intro w hSw; (try dsimp only at hSw); go_simp; (try (with_reducible rfl))
          try simp only [Act.put, List.setIfInBounds_toArray, List.set_cons_zero, List.set_cons_succ]
          refine take_op 33 (some 124) (Op.fieldAddr 76 ( .tmp 123) 2) 0 ?_ (by kernel_rfl) (by kernel_rfl) (by kernel_rfl) (fun _ _ _ h => h) ?_ (by assumption) ?_
          rotate_left
          · intro w hSw; (try dsimp only at hSw); go_simp; (try (with_reducible rfl))
          try simp only [Act.put, List.setIfInBounds_toArray, List.set_cons_zero, List.set_cons_succ]
          refine take_op 34 (some 125) (Op.load 40 ( .tmp 124)) 40 ?_ (by kernel_rfl) (by kernel_rfl) (by kernel_rfl) (fun _ _ _ h => h) ?_ (by assumption) ?_
          rotate_left
          · intro w hSw; (try dsimp only at hSw); go_simp; (try (with_reducible rfl))
          try simp only [Act.put, List.setIfInBounds_toArray, List.set_cons_zero, List.set_cons_succ]
          refine take_op 35 (some 126) (Op.fieldAddr 46 ( .tmp 3) 3) 0 ?_ (by kernel_rfl) (by kernel_rfl) (by kernel_rfl) (fun _ _ _ h => h) ?_ (by assumption) ?_
          rotate_left
          · intro w hSw; (try dsimp only at hSw); go_simp; (try (with_reducible rfl))
          try simp only [Act.put, List.setIfInBounds_toArray, List.set_cons_zero, List.set_cons_succ]
          refine take_op 36 (some 127) (Op.load 36 ( .tmp 126)) 36 ?_ (by kernel_rfl) (by kernel_rfl) (by kernel_rfl) (fun _ _ _ h => h) ?_ (by assumption) ?_
          rotate_left
          · intro w hSw; (try dsimp only at hSw); go_simp; (try (with_reducible rfl))
          try simp only [Act.put, List.setIfInBounds_toArray, List.set_cons_zero, List.set_cons_succ]
          refine take_op 37 (some 128) (Op.move ( .tmp 6)) 3 ?_ (by kernel_rfl) (by kernel_rfl) (by kernel_rfl) (fun _ _ _ h => h) ?_ (by assumption) ?_
          rotate_left
          · intro w hSw; (try dsimp only at hSw); go_simp; (try (with_reducible rfl))
          try simp only [Act.put, List.setIfInBounds_toArray, List.set_cons_zero, List.set_cons_succ]
          refine take_op 38 (some 129) (Op.indexAddr 36 ( .tmp 127) ( .tmp 128)) 0 ?_ (by kernel_rfl) (by kernel_rfl) (by kernel_rfl) (fun _ _ _ h => h) ?_ (by assumption) ?_
          rotate_left
          · intro w hSw; (try dsimp only at hSw); go_simp; (try (with_reducible rfl))
          try simp only [Act.put, List.setIfInBounds_toArray, List.set_cons_zero, List.set_cons_succ]
          refine take_op 39 (some 130) (Op.fieldAddr 76 ( .tmp 129) 2) 0 ?_ (by kernel_rfl) (by kernel_rfl) (by kernel_rfl) (fun _ _ _ h => h) ?_ (by assumption) ?_
          rotate_left
          · intro w hSw; (try dsimp only at hSw); go_simp; (try (with_reducible rfl))
          try simp only [Act.put, List.setIfInBounds_toArray, List.set_cons_zero, List.set_cons_succ]
          refine take_op 40 (some 131) (Op.load 40 ( .tmp 130)) 40 ?_ (by kernel_rfl) (by kernel_rfl) (by kernel_rfl) (fun _ _ _ h => h) ?_ (by assumption) ?_
          rotate_left
          · intro w hSw; (try dsimp only at hSw); go_simp; (try (with_reducible rfl))
          try simp only [Act.put, List.setIfInBounds_toArray, List.set_cons_zero, List.set_cons_succ]
          refine ready_e (rs := [41]) (by kernel_rfl) (by simp) ?_
          refine (do_mid (o := _) rfl (fun K hK => ?_) none_e)
          go_simp
          go_at_call 41
          refine (HH2.out _ hmem ok ok' _ _ _ (HE2.out.no HF.out) (HG2.out.no HF.out)).mono ?_
          rintro e w10 ⟨rfl, hf⟩
          have HC := Lib.hid hf
          clear hf
          replace HF := Lib.hid (HF.out.then HC.out)
          clear HC
          refine hK.out _ _ ?_ (fun hHeld => ?_)
          · exact HS1.out _ HF.out
          clear hK K
          try dsimp only
          try simp only [Act.put, List.setIfInBounds_toArray, List.set_cons_zero, List.set_cons_succ]
          refine take_op 42 (some 133) (Op.unOp UnOp.not 4 ( .tmp 132)) 4 ?_ (by kernel_rfl) (by kernel_rfl) (by kernel_rfl) (fun _ _ _ h => h) ?_ (by assumption) ?_
          rotate_left
          · intro w hSw; (try dsimp only at hSw); go_simp; (try (with_reducible rfl))
          try simp only [Act.put, List.setIfInBounds_toArray, List.set_cons_zero, List.set_cons_succ]
          refine take_op 43 (some 134) (Op.pick ( .tmp 119) ( .const (Value.bool true)) ( .tmp 133)) 4 ?_ (by kernel_rfl) (by kernel_rfl) (by kernel_rfl) (fun _ _ _ h => h) ?_ (by assumption) ?_
          rotate_left
          · intro w hSw; (try dsimp only at hSw); go_simp; (try (with_reducible rfl))
          try simp only [Act.put, List.setIfInBounds_toArray, List.set_cons_zero, List.set_cons_succ]
          refine done_e (by kernel_rfl) ?_ _
          (try simp only [Exit.inBlock, Exit.then])
          go_wp2_with fail
          exact ⟨⟨j + 1, by omega, by go_num, HF⟩, by simp [intOf]; omega⟩
        · skip
          have hd0 : decide (j < M) = false := decide_eq_false hlt
          obtain ⟨d0, d1, d2, d3, d4, d5, d6, d7, d8, d9, d10, d11, d12, d13, d14, d15, d16, d17, d18, d19, d20, d21, d22, d23, d24, d25, d26, d27, d28, d29, d30, d31⟩ := HS0.out _ HF.out
          go_wp2_with fail
          clear d0 d1 d2 d3 d4 d5 d6 d7 d8 d9 d10 d11 d12 d13 d14 d15 d16 d17 d18 d19 d20 d21 d22 d23 d24 d25 d26 d27 d28 d29 d30 d31
          clear hd0 hlt hj
          go_loopw [7] (fun i wr => ∃ j : Nat, j ≤ K ∧ i = .int .i64 (j : Nat) ∧ Hid (Fr No w1 wr)) (fun i _ => K - intOf i)
          case atStart => exact ⟨0, Nat.zero_le _, rfl, HF⟩
          case round =>
            clear HF
            obtain ⟨j, hj, rfl, HF⟩ := hrel
            obtain ⟨wL, hwL⟩ : ∃ wL, wL = wr := ⟨wr, rfl⟩
            rw [← hwL] at HF ⊢
            clear hwL wr
            by_cases hlt : j < K
            · skip
              have hNL := hx_len (HX3.out.no HW.out)
              rw [List.length_map, HK.out] at hNL
              have hd0 : decide (j < K) = true := decide_eq_true hlt
              have hj0 : (0 : Int) ≤ (j : Int) := by omega
              have hj1 : (j : Int) < (K : Int) := by omega
              obtain ⟨t, ht⟩ : ∃ t, fu[j]? = some t := ⟨_, List.getElem?_eq_getElem (by rw [HK.out]; exact hlt)⟩
              have hmem := List.mem_of_getElem? ht
              obtain ⟨ge, oe, ce, hae, _, hle, hce, hxe⟩ := hx_at (HX3.out.no HW.out) (j := j) (x := xF t) (by rw [List.getElem?_map, ht]; rfl)
              obtain ⟨gf, of, cf, haf, _, hlf, hcf, hxf⟩ := hx_at (HY3.out.no HW.out) (j := j) (x := xF t) (by rw [List.getElem?_map, ht]; rfl)
              subst hae haf
              obtain ⟨tz, ta, te⟩ := t
              simp only [xF, xb] at hxe
              obtain ⟨ca, cb, ecs, h1, h2⟩ := Hc.split hxe
              subst ecs
              obtain ⟨_, rfl, h1a⟩ := hc_lit h1
              obtain ⟨aa_e, ac_e, _, rfl, h3, h1b⟩ := hc_row h1a
              obtain rfl := hc_nil h1b
              clear h1a h1b
              rw [List.length_map] at h3 hce
              have HE1 := Lib.hid h3
              have HE2 := Lib.hid h2
              obtain ⟨k2_e, s2_e, n2_e, u2_e, b12_e, m12_e, c12_e, b22_e, m22_e, c22_e, b32_e, m32_e, c32_e, ecs⟩ := hcE h2
              subst ecs
              clear h1 h2
              simp only [xF, xb] at hxf
              obtain ⟨ca, cb, ecs, h1, h2⟩ := Hc.split hxf
              subst ecs
              obtain ⟨_, rfl, h1a⟩ := hc_lit h1
              obtain ⟨aa_f, ac_f, _, rfl, h3, h1b⟩ := hc_row h1a
              obtain rfl := hc_nil h1b
              clear h1a h1b
              rw [List.length_map] at h3 hcf
              have HG1 := Lib.hid h3
              have HG2 := Lib.hid h2
              obtain ⟨k2_f, s2_f, n2_f, u2_f, b12_f, m12_f, c12_f, b22_f, m22_f, c22_f, b32_f, m32_f, c32_f, ecs⟩ := hcE h2
              subst ecs
              clear h1 h2
              have HS1 : Hid (∀ w', Fr No w1 w' → w'.cell? ⟨g_x, 4, none⟩ = some (.slice (some ⟨ge, oe, none⟩) K c5) ∧ w'.cell? ⟨g_x + 1, 4, none⟩ = some (.slice (some ⟨gf, of, none⟩) K c6) ∧ w'.cell? ⟨ge, oe + j * 9, none⟩ = some (.string tz) ∧ w'.cell? ⟨ge, oe + j * 9 + 1, none⟩ = some (.slice aa_e ta.length ac_e) ∧ w'.cell? ⟨ge, oe + j * 9 + 2, none⟩ = some (.int .u8 k2_e) ∧ w'.cell? ⟨ge, oe + j * 9 + 3, none⟩ = some (.string s2_e) ∧ w'.cell? ⟨ge, oe + j * 9 + 4, none⟩ = some (.int .i64 n2_e) ∧ w'.cell? ⟨ge, oe + j * 9 + 5, none⟩ = some (.string u2_e) ∧ w'.cell? ⟨ge, oe + j * 9 + 6, none⟩ = some (.slice b12_e m12_e c12_e) ∧ w'.cell? ⟨ge, oe + j * 9 + 7, none⟩ = some (.slice b22_e m22_e c22_e) ∧ w'.cell? ⟨ge, oe + j * 9 + 8, none⟩ = some (.slice b32_e m32_e c32_e) ∧ w'.cell? ⟨gf, of + j * 9, none⟩ = some (.string tz) ∧ w'.cell? ⟨gf, of + j * 9 + 1, none⟩ = some (.slice aa_f ta.length ac_f) ∧ w'.cell? ⟨gf, of + j * 9 + 2, none⟩ = some (.int .u8 k2_f) ∧ w'.cell? ⟨gf, of + j * 9 + 3, none⟩ = some (.string s2_f) ∧ w'.cell? ⟨gf, of + j * 9 + 4, none⟩ = some (.int .i64 n2_f) ∧ w'.cell? ⟨gf, of + j * 9 + 5, none⟩ = some (.string u2_f) ∧ w'.cell? ⟨gf, of + j * 9 + 6, none⟩ = some (.slice b12_f m12_f c12_f) ∧ w'.cell? ⟨gf, of + j * 9 + 7, none⟩ = some (.slice b22_f m22_f c22_f) ∧ w'.cell? ⟨gf, of + j * 9 + 8, none⟩ = some (.slice b32_f m32_f c32_f)) := Lib.hid (fun w' hf => by
                obtain ⟨q0, q1, q2, q3, q4, q5, q6, q7, q8, q9, q10, q11, q12, q13, q14, q15, q16, q17, q18, q19, q20, q21, q22, q23, q24, q25, q26, q27, q28, q29, q30, q31⟩ := HS0.out w' hf
                exact ⟨q4, q20, hf.cell (hce 0 _ rfl), hf.cell (hce 1 _ rfl), hf.cell (hce 2 _ rfl), hf.cell (hce 3 _ rfl), hf.cell (hce 4 _ rfl), hf.cell (hce 5 _ rfl), hf.cell (hce 6 _ rfl), hf.cell (hce 7 _ rfl), hf.cell (hce 8 _ rfl), hf.cell (hcf 0 _ rfl), hf.cell (hcf 1 _ rfl), hf.cell (hcf 2 _ rfl), hf.cell (hcf 3 _ rfl), hf.cell (hcf 4 _ rfl), hf.cell (hcf 5 _ rfl), hf.cell (hcf 6 _ rfl), hf.cell (hcf 7 _ rfl), hf.cell (hcf 8 _ rfl)⟩)
              clear hce hcf hxe hxf hle hlf ht
              obtain ⟨d0, d1, d2, d3, d4, d5, d6, d7, d8, d9, d10, d11, d12, d13, d14, d15, d16, d17, d18, d19⟩ := HS1.out _ HF.out
              go_upto_region 17 with fail
              clear d0 d1 d2 d3 d4 d5 d6 d7 d8 d9 d10 d11 d12 d13 d14 d15 d16 d17 d18 d19
              obtain ⟨w_p, hn⟩ : ∃ wZ, wL.alloc (.cells #[.string tz, .slice aa_e ta.length ac_e, .int .u8 k2_e, .string s2_e, .int .i64 n2_e, .string u2_e, .slice b12_e m12_e c12_e, .slice b22_e m22_e c22_e, .slice b32_e m32_e c32_e] 71) = wZ := ⟨_, rfl⟩
              obtain ⟨g_p, hg⟩ : ∃ gZ, wL.heap.size = gZ := ⟨_, rfl⟩
              rw [hn, hg]
              have R_p : Hid (w_p.heap[g_p]? = some (.cells #[.string tz, .slice aa_e ta.length ac_e, .int .u8 k2_e, .string s2_e, .int .i64 n2_e, .string u2_e, .slice b12_e m12_e c12_e, .slice b22_e m22_e c22_e, .slice b32_e m32_e c32_e] 71 (0, 0))) := Lib.hid (by rw [← hn, ← hg]; exact new_block _ _)
              have HA_p : Hid (Fr No wL w_p) := Lib.hid (by rw [← hn]; exact Fr.alloc _ _)
              replace HF := Lib.hid (HF.out.then HA_p.out)
              clear hn hg
              obtain ⟨d0, d1, d2, d3, d4, d5, d6, d7, d8, d9, d10, d11, d12, d13, d14, d15, d16, d17, d18, d19⟩ := HS1.out _ HF.out
              go_upto_region 18 with fail
              clear d0 d1 d2 d3 d4 d5 d6 d7 d8 d9 d10 d11 d12 d13 d14 d15 d16 d17 d18 d19
              obtain ⟨w_q, hn⟩ : ∃ wZ, w_p.alloc (.cells #[.string tz, .slice aa_f ta.length ac_f, .int .u8 k2_f, .string s2_f, .int .i64 n2_f, .string u2_f, .slice b12_f m12_f c12_f, .slice b22_f m22_f c22_f, .slice b32_f m32_f c32_f] 71) = wZ := ⟨_, rfl⟩
              obtain ⟨g_q, hg⟩ : ∃ gZ, w_p.heap.size = gZ := ⟨_, rfl⟩
              rw [hn, hg]
              have R_q : Hid (w_q.heap[g_q]? = some (.cells #[.string tz, .slice aa_f ta.length ac_f, .int .u8 k2_f, .string s2_f, .int .i64 n2_f, .string u2_f, .slice b12_f m12_f c12_f, .slice b22_f m22_f c22_f, .slice b32_f m32_f c32_f] 71 (0, 0))) := Lib.hid (by rw [← hn, ← hg]; exact new_block _ _)
              have HA_q : Hid (Fr No w_p w_q) := Lib.hid (by rw [← hn]; exact Fr.alloc _ _)
              replace HF := Lib.hid (HF.out.then HA_q.out)
              clear hn hg
              have HB := HF
              clear HF
              have HF : Hid (Fr No w_q w_q) := Lib.hid (Fr.refl _ _)
              have HS9 : Hid (∀ w', Fr No w_q w' → w'.cell? ⟨g_p, 0, none⟩ = some (.string tz) ∧ w'.cell? ⟨g_p, 1, none⟩ = some (.slice aa_e ta.length ac_e) ∧ w'.cell? ⟨g_p, 2, none⟩ = some (.int .u8 k2_e) ∧ w'.cell? ⟨g_p, 3, none⟩ = some (.string s2_e) ∧ w'.cell? ⟨g_p, 4, none⟩ = some (.int .i64 n2_e) ∧ w'.cell? ⟨g_p, 5, none⟩ = some (.string u2_e) ∧ w'.cell? ⟨g_p, 6, none⟩ = some (.slice b12_e m12_e c12_e) ∧ w'.cell? ⟨g_p, 7, none⟩ = some (.slice b22_e m22_e c22_e) ∧ w'.cell? ⟨g_p, 8, none⟩ = some (.slice b32_e m32_e c32_e) ∧ w'.cell? ⟨g_q, 0, none⟩ = some (.string tz) ∧ w'.cell? ⟨g_q, 1, none⟩ = some (.slice aa_f ta.length ac_f) ∧ w'.cell? ⟨g_q, 2, none⟩ = some (.int .u8 k2_f) ∧ w'.cell? ⟨g_q, 3, none⟩ = some (.string s2_f) ∧ w'.cell? ⟨g_q, 4, none⟩ = some (.int .i64 n2_f) ∧ w'.cell? ⟨g_q, 5, none⟩ = some (.string u2_f) ∧ w'.cell? ⟨g_q, 6, none⟩ = some (.slice b12_f m12_f c12_f) ∧ w'.cell? ⟨g_q, 7, none⟩ = some (.slice b22_f m22_f c22_f) ∧ w'.cell? ⟨g_q, 8, none⟩ = some (.slice b32_f m32_f c32_f)) := Lib.hid (fun w' hf => ⟨cell_of (hf.keeps (HA_q.out.keeps R_p.out no_one) no_one) 0, cell_of (hf.keeps (HA_q.out.keeps R_p.out no_one) no_one) 1, cell_of (hf.keeps (HA_q.out.keeps R_p.out no_one) no_one) 2, cell_of (hf.keeps (HA_q.out.keeps R_p.out no_one) no_one) 3, cell_of (hf.keeps (HA_q.out.keeps R_p.out no_one) no_one) 4, cell_of (hf.keeps (HA_q.out.keeps R_p.out no_one) no_one) 5, cell_of (hf.keeps (HA_q.out.keeps R_p.out no_one) no_one) 6, cell_of (hf.keeps (HA_q.out.keeps R_p.out no_one) no_one) 7, cell_of (hf.keeps (HA_q.out.keeps R_p.out no_one) no_one) 8, cell_of (hf.keeps R_q.out no_one) 0, cell_of (hf.keeps R_q.out no_one) 1, cell_of (hf.keeps R_q.out no_one) 2, cell_of (hf.keeps R_q.out no_one) 3, cell_of (hf.keeps R_q.out no_one) 4, cell_of (hf.keeps R_q.out no_one) 5, cell_of (hf.keeps R_q.out no_one) 6, cell_of (hf.keeps R_q.out no_one) 7, cell_of (hf.keeps R_q.out no_one) 8⟩)
              obtain ⟨d0, d1, d2, d3, d4, d5, d6, d7, d8, d9, d10, d11, d12, d13, d14, d15, d16, d17⟩ := HS9.out _ HF.out
              go_wp2_with fail
              clear d0 d1 d2 d3 d4 d5 d6 d7 d8 d9 d10 d11 d12 d13 d14 d15 d16 d17
              refine (HH3.out _ hmem ok ok' _ _ _ (HE2.out.no (HB.out.then HF.out)) (HG2.out.no (HB.out.then HF.out))).mono ?_
              rintro e w11 ⟨rfl, hf⟩
              have HC := Lib.hid hf
              clear hf
              replace HF := Lib.hid (HF.out.then HC.out)
              clear HC
              obtain ⟨d0, d1, d2, d3, d4, d5, d6, d7, d8, d9, d10, d11, d12, d13, d14, d15, d16, d17⟩ := HS9.out _ HF.out
              go_wp2_with fail
              clear d0 d1 d2 d3 d4 d5 d6 d7 d8 d9 d10 d11 d12 d13 d14 d15 d16 d17
              have hj9 := hj
              have hlt9 := hlt
              clear hd0
              go_loopw [10] (fun i wr => ∃ j : Nat, j ≤ ta.length ∧ i = .int .i64 (j : Nat) ∧ Hid (Fr No w_q wr)) (fun i _ => ta.length - intOf i)
              case atStart => exact ⟨0, Nat.zero_le _, rfl, HF⟩
              case round =>
                clear HF
                obtain ⟨i, hj, rfl, HF⟩ := hrel
                obtain ⟨wL, hwL⟩ : ∃ wL, wL = wr := ⟨wr, rfl⟩
                rw [← hwL] at HF ⊢
                clear hwL wr
                by_cases hlt : i < ta.length
                · skip
                  have hNL := hx_len (HE1.out.no HB.out)
                  rw [List.length_map] at hNL
                  have hd0 : decide (i < ta.length) = true := decide_eq_true hlt
                  have hj0 : (0 : Int) ≤ (i : Int) := by omega
                  have hj1 : (i : Int) < (ta.length : Int) := by omega
                  obtain ⟨t, ht⟩ : ∃ t, ta[i]? = some t := ⟨_, List.getElem?_eq_getElem (by skip; exact hlt)⟩
                  have hmem := List.mem_of_getElem? ht
                  obtain ⟨ge, oe, ce, hae, _, hle, hce, hxe⟩ := hx_at (HE1.out.no HB.out) (j := i) (x := [xb t]) (by rw [List.getElem?_map, ht]; rfl)
                  obtain ⟨gf, of, cf, haf, _, hlf, hcf, hxf⟩ := hx_at (HG1.out.no HB.out) (j := i) (x := [xb t]) (by rw [List.getElem?_map, ht]; rfl)
                  subst hae haf
                  obtain ⟨_, rfl, he1⟩ := hc_lit hxe
                  rw [hc_nil he1] at hce hxe
                  clear he1
                  obtain ⟨_, rfl, hf1⟩ := hc_lit hxf
                  rw [hc_nil hf1] at hcf hxf
                  clear hf1
                  have HS10 : Hid (∀ w', Fr No w_q w' → w'.cell? ⟨g_p, 0, none⟩ = some (.string tz) ∧ w'.cell? ⟨g_p, 1, none⟩ = some (.slice (some ⟨ge, oe, none⟩) ta.length ac_e) ∧ w'.cell? ⟨g_p, 2, none⟩ = some (.int .u8 k2_e) ∧ w'.cell? ⟨g_p, 3, none⟩ = some (.string s2_e) ∧ w'.cell? ⟨g_p, 4, none⟩ = some (.int .i64 n2_e) ∧ w'.cell? ⟨g_p, 5, none⟩ = some (.string u2_e) ∧ w'.cell? ⟨g_p, 6, none⟩ = some (.slice b12_e m12_e c12_e) ∧ w'.cell? ⟨g_p, 7, none⟩ = some (.slice b22_e m22_e c22_e) ∧ w'.cell? ⟨g_p, 8, none⟩ = some (.slice b32_e m32_e c32_e) ∧ w'.cell? ⟨g_q, 0, none⟩ = some (.string tz) ∧ w'.cell? ⟨g_q, 1, none⟩ = some (.slice (some ⟨gf, of, none⟩) ta.length ac_f) ∧ w'.cell? ⟨g_q, 2, none⟩ = some (.int .u8 k2_f) ∧ w'.cell? ⟨g_q, 3, none⟩ = some (.string s2_f) ∧ w'.cell? ⟨g_q, 4, none⟩ = some (.int .i64 n2_f) ∧ w'.cell? ⟨g_q, 5, none⟩ = some (.string u2_f) ∧ w'.cell? ⟨g_q, 6, none⟩ = some (.slice b12_f m12_f c12_f) ∧ w'.cell? ⟨g_q, 7, none⟩ = some (.slice b22_f m22_f c22_f) ∧ w'.cell? ⟨g_q, 8, none⟩ = some (.slice b32_f m32_f c32_f) ∧ w'.cell? ⟨ge, oe + i, none⟩ = some (.string t) ∧ w'.cell? ⟨gf, of + i, none⟩ = some (.string t)) := Lib.hid (fun w' hf => by
                    obtain ⟨q0, q1, q2, q3, q4, q5, q6, q7, q8, q9, q10, q11, q12, q13, q14, q15, q16, q17⟩ := HS9.out w' hf
                    exact ⟨q0, q1, q2, q3, q4, q5, q6, q7, q8, q9, q10, q11, q12, q13, q14, q15, q16, q17, hf.cell (by have h := hce 0 _ rfl; rw [Nat.mul_one, Nat.add_zero] at h; exact h), hf.cell (by have h := hcf 0 _ rfl; rw [Nat.mul_one, Nat.add_zero] at h; exact h)⟩)
                  clear hce hcf hxe hxf hle hlf ht
                  obtain ⟨d0, d1, d2, d3, d4, d5, d6, d7, d8, d9, d10, d11, d12, d13, d14, d15, d16, d17, d18, d19⟩ := HS10.out _ HF.out
                  go_upto_region 23 with fail
                  clear d0 d1 d2 d3 d4 d5 d6 d7 d8 d9 d10 d11 d12 d13 d14 d15 d16 d17 d18 d19
                  refine region_e (fun w' => w'.cell? ⟨g_p, 0, none⟩ = some (.string tz) ∧ w'.cell? ⟨g_p, 1, none⟩ = some (.slice (some ⟨ge, oe, none⟩) ta.length ac_e) ∧ w'.cell? ⟨g_p, 2, none⟩ = some (.int .u8 k2_e) ∧ w'.cell? ⟨g_p, 3, none⟩ = some (.string s2_e) ∧ w'.cell? ⟨g_p, 4, none⟩ = some (.int .i64 n2_e) ∧ w'.cell? ⟨g_p, 5, none⟩ = some (.string u2_e) ∧ w'.cell? ⟨g_p, 6, none⟩ = some (.slice b12_e m12_e c12_e) ∧ w'.cell? ⟨g_p, 7, none⟩ = some (.slice b22_e m22_e c22_e) ∧ w'.cell? ⟨g_p, 8, none⟩ = some (.slice b32_e m32_e c32_e) ∧ w'.cell? ⟨g_q, 0, none⟩ = some (.string tz) ∧ w'.cell? ⟨g_q, 1, none⟩ = some (.slice (some ⟨gf, of, none⟩) ta.length ac_f) ∧ w'.cell? ⟨g_q, 2, none⟩ = some (.int .u8 k2_f) ∧ w'.cell? ⟨g_q, 3, none⟩ = some (.string s2_f) ∧ w'.cell? ⟨g_q, 4, none⟩ = some (.int .i64 n2_f) ∧ w'.cell? ⟨g_q, 5, none⟩ = some (.string u2_f) ∧ w'.cell? ⟨g_q, 6, none⟩ = some (.slice b12_f m12_f c12_f) ∧ w'.cell? ⟨g_q, 7, none⟩ = some (.slice b22_f m22_f c22_f) ∧ w'.cell? ⟨g_q, 8, none⟩ = some (.slice b32_f m32_f c32_f) ∧ w'.cell? ⟨ge, oe + i, none⟩ = some (.string t) ∧ w'.cell? ⟨gf, of + i, none⟩ = some (.string t)) [] (by kernel_rfl) ?_ (fun hHeld => ?_)
                  · exact HS10.out _ (HF.out.then (Fr.drew _))
                  obtain ⟨w12, hwd⟩ : ∃ wZ, wZ = wL.drew := ⟨_, rfl⟩
                  have HS : Hid (Fr No wL w12) := Lib.hid (by rw [hwd]; exact Fr.drew _)
                  rw [← hwd] at hHeld ⊢
                  clear hwd
                  replace HF := Lib.hid (HF.out.then HS.out)
                  clear HS
                  refine take_op 0 (some 181) (Op.fieldAddr 71 ( .tmp 8) 1) 0 ?_ (by kernel_rfl) (by kernel_rfl) (by kernel_rfl) (fun _ _ _ h => h) ?_ (by assumption) ?_
                  rotate_left
                  · intro w hSw; (try dsimp only at hSw); go_simp; (try (with_reducible rfl))
                  try simp only [Act.put, List.setIfInBounds_toArray, List.set_cons_zero, List.set_cons_succ]
                  refine take_op 1 (some 182) (Op.load 35 ( .tmp 181)) 35 ?_ (by kernel_rfl) (by kernel_rfl) (by kernel_rfl) (fun _ _ _ h => h) ?_ (by assumption) ?_
                  rotate_left
                  · intro w hSw; (try dsimp only at hSw); go_simp; (try (with_reducible rfl))
                  try simp only [Act.put, List.setIfInBounds_toArray, List.set_cons_zero, List.set_cons_succ]
                  refine take_op 2 (some 183) (Op.move ( .tmp 10)) 3 ?_ (by kernel_rfl) (by kernel_rfl) (by kernel_rfl) (fun _ _ _ h => h) ?_ (by assumption) ?_
                  rotate_left
                  · intro w hSw; (try dsimp only at hSw); go_simp; (try (with_reducible rfl))
                  try simp only [Act.put, List.setIfInBounds_toArray, List.set_cons_zero, List.set_cons_succ]
                  refine take_op 3 (some 184) (Op.indexAddr 35 ( .tmp 182) ( .tmp 183)) 0 ?_ (by kernel_rfl) (by kernel_rfl) (by kernel_rfl) (fun _ _ _ h => h) ?_ (by assumption) ?_
                  rotate_left
                  · intro w hSw; (try dsimp only at hSw); go_simp; (try (with_reducible rfl))
                  try simp only [Act.put, List.setIfInBounds_toArray, List.set_cons_zero, List.set_cons_succ]
                  refine take_op 4 (some 185) (Op.load 9 ( .tmp 184)) 9 ?_ (by kernel_rfl) (by kernel_rfl) (by kernel_rfl) (fun _ _ _ h => h) ?_ (by assumption) ?_
                  rotate_left
                  · intro w hSw; (try dsimp only at hSw); go_simp; (try (with_reducible rfl))
                  try simp only [Act.put, List.setIfInBounds_toArray, List.set_cons_zero, List.set_cons_succ]
                  refine take_op 5 (some 186) (Op.fieldAddr 71 ( .tmp 9) 1) 0 ?_ (by kernel_rfl) (by kernel_rfl) (by kernel_rfl) (fun _ _ _ h => h) ?_ (by assumption) ?_
                  rotate_left
                  · intro w hSw; (try dsimp only at hSw); go_simp; (try (with_reducible rfl))
                  try simp only [Act.put, List.setIfInBounds_toArray, List.set_cons_zero, List.set_cons_succ]
                  refine take_op 6 (some 187) (Op.load 35 ( .tmp 186)) 35 ?_ (by kernel_rfl) (by kernel_rfl) (by kernel_rfl) (fun _ _ _ h => h) ?_ (by assumption) ?_
                  rotate_left
                  · intro w hSw; (try dsimp only at hSw); go_simp; (try (with_reducible rfl))
                  try simp only [Act.put, List.setIfInBounds_toArray, List.set_cons_zero, List.set_cons_succ]
                  refine take_op 7 (some 188) (Op.move ( .tmp 10)) 3 ?_ (by kernel_rfl) (by kernel_rfl) (by kernel_rfl) (fun _ _ _ h => h) ?_ (by assumption) ?_
                  rotate_left
                  · intro w hSw; (try dsimp only at hSw); go_simp; (try (with_reducible rfl))
                  try simp only [Act.put, List.setIfInBounds_toArray, List.set_cons_zero, List.set_cons_succ]
                  refine take_op 8 (some 189) (Op.indexAddr 35 ( .tmp 187) ( .tmp 188)) 0 ?_ (by kernel_rfl) (by kernel_rfl) (by kernel_rfl) (fun _ _ _ h => h) ?_ (by assumption) ?_
                  rotate_left
                  · intro w hSw; (try dsimp only at hSw); go_simp; (try (with_reducible rfl))
                  try simp only [Act.put, List.setIfInBounds_toArray, List.set_cons_zero, List.set_cons_succ]
                  refine take_op 9 (some 190) (Op.load 9 ( .tmp 189)) 9 ?_ (by kernel_rfl) (by kernel_rfl) (by kernel_rfl) (fun _ _ _ h => h) ?_ (by assumption) ?_
                  rotate_left
                  · intro w hSw; (try dsimp only at hSw); go_simp; (try (with_reducible rfl))
                  try simp only [Act.put, List.setIfInBounds_toArray, List.set_cons_zero, List.set_cons_succ]
                  refine take_op 10 (some 191) (Op.binOp BinOp.neq 9 ( .tmp 185) ( .tmp 190) 9) 4 ?_ (by kernel_rfl) (by kernel_rfl) (by kernel_rfl) (fun _ _ _ h => h) ?_ (by assumption) ?_
                  rotate_left
                  · intro w hSw; (try dsimp only at hSw); go_simp; (try (with_reducible rfl))
                  try simp only [Act.put, List.setIfInBounds_toArray, List.set_cons_zero, List.set_cons_succ]
                  refine done_e (by kernel_rfl) ?_ _
                  (try simp only [Exit.inBlock, Exit.then])
                  go_wp2_with fail
                  exact ⟨⟨i + 1, by omega, by go_num, HF⟩, by simp [intOf]; omega⟩
                · skip
                  have hd0 : decide (i < ta.length) = false := decide_eq_false hlt
                  obtain ⟨d0, d1, d2, d3, d4, d5, d6, d7, d8, d9, d10, d11, d12, d13, d14, d15, d16, d17⟩ := HS9.out _ HF.out
                  go_wp2_with fail
                  exact ⟨⟨j + 1, by omega, by go_num, Lib.hid (HB.out.then HF.out)⟩, by simp [intOf]; omega⟩
            · skip
              have hd0 : decide (j < K) = false := decide_eq_false hlt
              obtain ⟨d0, d1, d2, d3, d4, d5, d6, d7, d8, d9, d10, d11, d12, d13, d14, d15, d16, d17, d18, d19, d20, d21, d22, d23, d24, d25, d26, d27, d28, d29, d30, d31⟩ := HS0.out _ HF.out
              go_wp2_with fail
              go_ret
              exact ⟨rfl, HW.out.then HF.out⟩
end Go.Proofs.YtjabhmepafofmaaGreatDoor
