/- Rd, Rf -/
import Derived.Test.YtjabhmepafofmaaGreatDoorH34
set_option linter.unusedVariables false
set_option linter.unusedSimpArgs false
namespace Go.Proofs.YtjabhmepafofmaaGreatDoor
open Go.RowKit
theorem ret_w {x y : Int} (h : x = y) : Ending.returned (.int .i64 (wrap64 (x + 1))) = Ending.returned (.int .i64 (up y)) := by
  rw [h, up, Int.add_comm]
theorem stepM {α : Type} (a : Int) (d : α → Int) {l : List α} {k : Nat} {t : α} (h : l[k]? = some t) : max (max a (mxUp d l k)) (d t) = max a (mxUp d l (k + 1)) := by
  have := mxUp_succ d h
  omega
theorem valM {a b c : Int} (h : a = b) (h2 : c = a) : Value.int .i64 c = Value.int .i64 b := by rw [h2, h]
def RT (t : T) : Prop := ∀ (ok : Nat → Prop) (w : World) (cs : List Value), Hc ok w (xT t) cs → Calls Tryz.prog 63 #[.agg cs.toArray] w (IntE (dT t) w)
def RP (t : T) : Prop := ∀ (ok : Nat → Prop) (w : World) (cs : List Value), Hc ok w (xT t) cs → Calls Tryz.prog 89 #[.agg cs.toArray] w (IntE (dP t) w)
def RE (t : E) : Prop := ∀ (ok : Nat → Prop) (w : World) (cs : List Value), Hc ok w (xE t) cs → Calls Tryz.prog 62 #[.agg cs.toArray] w (IntE (dE t) w)
def RD (t : D) : Prop := ∀ (ok : Nat → Prop) (w : World) (cs : List Value), Hc ok w (xD t) cs → Calls Tryz.prog 40 #[.agg cs.toArray] w (IntE (dD t) w)
def RRu : R → Prop
  | .mk p e => RP p ∧ RE e
def RFu : F → Prop
  | .mk _ _ e => RE e
set_option maxHeartbeats 8000000 in
set_option maxRecDepth 100000 in
theorem rty_walk (k : Nat) (s : ByteArray) (n : Int) (l : List T) (h : ∀ t ∈ l, RT t) : RT (.mk k s n l) := by
  intro ok w cs hc
  obtain ⟨a1, c1, rfl, hx⟩ := hcT_parts hc
  clear hc
  obtain ⟨N, hN⟩ : ∃ N, l.length = N := ⟨_, rfl⟩
  rw [hN] at hx ⊢
  have HX := Lib.hid hx
  have HH := Lib.hid h
  have HN := Lib.hid hN
  clear hx h hN
  go_enter Tryz.func63, Tryz.ntmps63
  go_upto_region 1 with fail
  obtain ⟨w1, hn⟩ : ∃ wZ, w.alloc (.cells #[.int .u8 k, .string s, .int .i64 n, .slice a1 N c1] 40) = wZ := ⟨_, rfl⟩
  obtain ⟨g_x, hg⟩ : ∃ gZ, w.heap.size = gZ := ⟨_, rfl⟩
  rw [hn, hg]
  have HW : Hid (Fr No w w1) := Lib.hid (by rw [← hn]; exact Fr.alloc _ _)
  have R_x : Hid (w1.heap[g_x]? = some (.cells #[.int .u8 k, .string s, .int .i64 n, .slice a1 N c1] 40 (0, 0))) := Lib.hid (by rw [← hn, ← hg]; exact new_block _ _)
  have HF : Hid (Fr No w1 w1) := Lib.hid (Fr.refl _ _)
  clear hn hg
  have HS0 : Hid (∀ w', Fr No w1 w' → w'.cell? ⟨g_x, 0, none⟩ = some (.int .u8 k) ∧ w'.cell? ⟨g_x, 1, none⟩ = some (.string s) ∧ w'.cell? ⟨g_x, 2, none⟩ = some (.int .i64 n) ∧ w'.cell? ⟨g_x, 3, none⟩ = some (.slice a1 N c1)) := Lib.hid (fun w' hf => ⟨cell_of (hf.keeps R_x.out no_one) 0, cell_of (hf.keeps R_x.out no_one) 1, cell_of (hf.keeps R_x.out no_one) 2, cell_of (hf.keeps R_x.out no_one) 3⟩)
  by_cases hk : k = 0
  · skip
    have hq : ((k : Int) == 0) = true := by simp [hk]
    obtain ⟨d0, d1, d2, d3⟩ := HS0.out _ HF.out
    go_wp2_with fail
    go_ret
    exact ⟨by simp only [dT]; rw [if_pos hk]; rfl, HW.out⟩
  have hq : ((k : Int) == 0) = false := by simp only [beq_eq_false_iff_ne, ne_eq]; omega
  obtain ⟨d0, d1, d2, d3⟩ := HS0.out _ HF.out
  go_wp2_with fail
  clear d0 d1 d2 d3
  clear hq
  have ha0 : (0 : Int) ≤ 0 := Int.le_refl _
  go_loopw [3, 4] (fun m i wr => ∃ j : Nat, j ≤ N ∧ i = .int .i64 (j : Nat) ∧ m = .int .i64 (max 0 (mxUp dT l j)) ∧ Hid (Fr No w1 wr)) (fun _ i _ => N - intOf i)
  case atStart => exact ⟨0, Nat.zero_le _, rfl, by rw [mxUp_zero, Int.max_eq_left ha0], HF⟩
  case round =>
    clear HF
    obtain ⟨j, hj, rfl, rfl, HF⟩ := hrel
    obtain ⟨wL, hwL⟩ : ∃ wL, wL = wr := ⟨wr, rfl⟩
    rw [← hwL] at HF ⊢
    clear hwL wr
    obtain ⟨M_l, hM⟩ : ∃ M, max 0 (mxUp dT l j) = M := ⟨_, rfl⟩
    rw [hM]
    have HM_l := Lib.hid hM
    clear hM
    by_cases hlt : j < N
    · skip
      have hNL := hx_max (HX.out.no HW.out)
      rw [List.length_map, HN.out] at hNL
      have hd0 : decide (j < N) = true := decide_eq_true hlt
      have hj0 : (0 : Int) ≤ (j : Int) := by omega
      have hj1 : (j : Int) < (N : Int) := by omega
      obtain ⟨t, ht⟩ : ∃ t, l[j]? = some t := ⟨_, List.getElem?_eq_getElem (by rw [HN.out]; exact hlt)⟩
      have hmem := List.mem_of_getElem? ht
      have HMS : Hid (max M_l (dT t) = max 0 (mxUp dT l (j + 1))) := Lib.hid (by rw [← HM_l.out]; exact stepM 0 dT ht)
      obtain ⟨ge, oe, ce, hae, _, hle, hce, hxe⟩ := hx_at (HX.out.no HW.out) (j := j) (x := xT t) (by rw [List.getElem?_map, ht]; rfl)
      subst hae
      have HE := Lib.hid hxe
      obtain ⟨k_e, s_e, n_e, b_e, m_e, cp_e, ecs⟩ := hcT hxe
      subst ecs
      have HS1 : Hid (∀ w', Fr No w1 w' → w'.cell? ⟨g_x, 0, none⟩ = some (.int .u8 k) ∧ w'.cell? ⟨g_x, 1, none⟩ = some (.string s) ∧ w'.cell? ⟨g_x, 2, none⟩ = some (.int .i64 n) ∧ w'.cell? ⟨g_x, 3, none⟩ = some (.slice (some ⟨ge, oe, none⟩) N c1) ∧ w'.cell? ⟨ge, oe + j * 4, none⟩ = some (.int .u8 k_e) ∧ w'.cell? ⟨ge, oe + j * 4 + 1, none⟩ = some (.string s_e) ∧ w'.cell? ⟨ge, oe + j * 4 + 2, none⟩ = some (.int .i64 n_e) ∧ w'.cell? ⟨ge, oe + j * 4 + 3, none⟩ = some (.slice b_e m_e cp_e)) := Lib.hid (fun w' hf => by
        obtain ⟨q0, q1, q2, q3⟩ := HS0.out w' hf
        exact ⟨q0, q1, q2, q3, hf.cell (hce 0 _ rfl), hf.cell (hce 1 _ rfl), hf.cell (hce 2 _ rfl), hf.cell (hce 3 _ rfl)⟩)
      clear hce hxe hle ht
      obtain ⟨d0, d1, d2, d3, d4, d5, d6, d7⟩ := HS1.out _ HF.out
      go_wp2_with fail
      clear d0 d1 d2 d3 d4 d5 d6 d7
      refine (HH.out t hmem ok _ _ (HE.out.no HF.out)).mono ?_
      rintro e w6 ⟨rfl, hf⟩
      have HC := Lib.hid hf
      clear hf
      replace HF := Lib.hid (HF.out.then HC.out)
      clear HC
      obtain ⟨m, hm⟩ : ∃ m, dT t = m := ⟨_, rfl⟩
      rw [hm] at HMS ⊢
      clear hm
      go_wp2_with fail
      all_goals
        exact ⟨⟨j + 1, by omega, by go_num, valM HMS.out (by omega), HF⟩, by simp [intOf]; omega⟩
    · skip
      have hd0 : decide (j < N) = false := decide_eq_false hlt
      have HV_l : Hid (M_l = max 0 (mx (l.map dT))) := Lib.hid (by rw [← HM_l.out, mxUp_all _ _ (HN.out.trans (by omega))])
      have hM0_l : 0 ≤ M_l := by rw [HV_l.out]; omega
      clear HM_l
      obtain ⟨d0, d1, d2, d3⟩ := HS0.out _ HF.out
      go_wp2_with fail
      go_ret
      exact ⟨by have h0 := mx_nonneg (l.map dT); simp only [dT]; rw [if_neg hk, dTs_mx]; exact ret_w (by rw [HV_l.out]; omega), HW.out.then HF.out⟩
set_option maxHeartbeats 8000000 in
set_option maxRecDepth 100000 in
theorem rpat_walk (k : Nat) (s : ByteArray) (n : Int) (l : List T) (h : ∀ t ∈ l, RP t) : RP (.mk k s n l) := by
  intro ok w cs hc
  obtain ⟨a1, c1, rfl, hx⟩ := hcT_parts hc
  clear hc
  obtain ⟨N, hN⟩ : ∃ N, l.length = N := ⟨_, rfl⟩
  rw [hN] at hx ⊢
  have HX := Lib.hid hx
  have HH := Lib.hid h
  have HN := Lib.hid hN
  clear hx h hN
  go_enter Tryz.func89, Tryz.ntmps89
  go_upto_region 1 with fail
  obtain ⟨w1, hn⟩ : ∃ wZ, w.alloc (.cells #[.int .u8 k, .string s, .int .i64 n, .slice a1 N c1] 97) = wZ := ⟨_, rfl⟩
  obtain ⟨g_x, hg⟩ : ∃ gZ, w.heap.size = gZ := ⟨_, rfl⟩
  rw [hn, hg]
  have HW : Hid (Fr No w w1) := Lib.hid (by rw [← hn]; exact Fr.alloc _ _)
  have R_x : Hid (w1.heap[g_x]? = some (.cells #[.int .u8 k, .string s, .int .i64 n, .slice a1 N c1] 97 (0, 0))) := Lib.hid (by rw [← hn, ← hg]; exact new_block _ _)
  have HF : Hid (Fr No w1 w1) := Lib.hid (Fr.refl _ _)
  clear hn hg
  have HS0 : Hid (∀ w', Fr No w1 w' → w'.cell? ⟨g_x, 0, none⟩ = some (.int .u8 k) ∧ w'.cell? ⟨g_x, 1, none⟩ = some (.string s) ∧ w'.cell? ⟨g_x, 2, none⟩ = some (.int .i64 n) ∧ w'.cell? ⟨g_x, 3, none⟩ = some (.slice a1 N c1)) := Lib.hid (fun w' hf => ⟨cell_of (hf.keeps R_x.out no_one) 0, cell_of (hf.keeps R_x.out no_one) 1, cell_of (hf.keeps R_x.out no_one) 2, cell_of (hf.keeps R_x.out no_one) 3⟩)
  obtain ⟨d0, d1, d2, d3⟩ := HS0.out _ HF.out
  go_wp2_with fail
  clear d0 d1 d2 d3
  have ha0 : (0 : Int) ≤ 0 := Int.le_refl _
  go_loopw [3, 4] (fun m i wr => ∃ j : Nat, j ≤ N ∧ i = .int .i64 (j : Nat) ∧ m = .int .i64 (max 0 (mxUp dP l j)) ∧ Hid (Fr No w1 wr)) (fun _ i _ => N - intOf i)
  case atStart => exact ⟨0, Nat.zero_le _, rfl, by rw [mxUp_zero, Int.max_eq_left ha0], HF⟩
  case round =>
    clear HF
    obtain ⟨j, hj, rfl, rfl, HF⟩ := hrel
    obtain ⟨wL, hwL⟩ : ∃ wL, wL = wr := ⟨wr, rfl⟩
    rw [← hwL] at HF ⊢
    clear hwL wr
    obtain ⟨M_l, hM⟩ : ∃ M, max 0 (mxUp dP l j) = M := ⟨_, rfl⟩
    rw [hM]
    have HM_l := Lib.hid hM
    clear hM
    by_cases hlt : j < N
    · skip
      have hNL := hx_max (HX.out.no HW.out)
      rw [List.length_map, HN.out] at hNL
      have hd0 : decide (j < N) = true := decide_eq_true hlt
      have hj0 : (0 : Int) ≤ (j : Int) := by omega
      have hj1 : (j : Int) < (N : Int) := by omega
      obtain ⟨t, ht⟩ : ∃ t, l[j]? = some t := ⟨_, List.getElem?_eq_getElem (by rw [HN.out]; exact hlt)⟩
      have hmem := List.mem_of_getElem? ht
      have HMS : Hid (max M_l (dP t) = max 0 (mxUp dP l (j + 1))) := Lib.hid (by rw [← HM_l.out]; exact stepM 0 dP ht)
      obtain ⟨ge, oe, ce, hae, _, hle, hce, hxe⟩ := hx_at (HX.out.no HW.out) (j := j) (x := xT t) (by rw [List.getElem?_map, ht]; rfl)
      subst hae
      have HE := Lib.hid hxe
      obtain ⟨k_e, s_e, n_e, b_e, m_e, cp_e, ecs⟩ := hcT hxe
      subst ecs
      have HS1 : Hid (∀ w', Fr No w1 w' → w'.cell? ⟨g_x, 0, none⟩ = some (.int .u8 k) ∧ w'.cell? ⟨g_x, 1, none⟩ = some (.string s) ∧ w'.cell? ⟨g_x, 2, none⟩ = some (.int .i64 n) ∧ w'.cell? ⟨g_x, 3, none⟩ = some (.slice (some ⟨ge, oe, none⟩) N c1) ∧ w'.cell? ⟨ge, oe + j * 4, none⟩ = some (.int .u8 k_e) ∧ w'.cell? ⟨ge, oe + j * 4 + 1, none⟩ = some (.string s_e) ∧ w'.cell? ⟨ge, oe + j * 4 + 2, none⟩ = some (.int .i64 n_e) ∧ w'.cell? ⟨ge, oe + j * 4 + 3, none⟩ = some (.slice b_e m_e cp_e)) := Lib.hid (fun w' hf => by
        obtain ⟨q0, q1, q2, q3⟩ := HS0.out w' hf
        exact ⟨q0, q1, q2, q3, hf.cell (hce 0 _ rfl), hf.cell (hce 1 _ rfl), hf.cell (hce 2 _ rfl), hf.cell (hce 3 _ rfl)⟩)
      clear hce hxe hle ht
      obtain ⟨d0, d1, d2, d3, d4, d5, d6, d7⟩ := HS1.out _ HF.out
      go_wp2_with fail
      clear d0 d1 d2 d3 d4 d5 d6 d7
      refine (HH.out t hmem ok _ _ (HE.out.no HF.out)).mono ?_
      rintro e w6 ⟨rfl, hf⟩
      have HC := Lib.hid hf
      clear hf
      replace HF := Lib.hid (HF.out.then HC.out)
      clear HC
      obtain ⟨m, hm⟩ : ∃ m, dP t = m := ⟨_, rfl⟩
      rw [hm] at HMS ⊢
      clear hm
      go_wp2_with fail
      all_goals
        exact ⟨⟨j + 1, by omega, by go_num, valM HMS.out (by omega), HF⟩, by simp [intOf]; omega⟩
    · skip
      have hd0 : decide (j < N) = false := decide_eq_false hlt
      have HV_l : Hid (M_l = max 0 (mx (l.map dP))) := Lib.hid (by rw [← HM_l.out, mxUp_all _ _ (HN.out.trans (by omega))])
      have hM0_l : 0 ≤ M_l := by rw [HV_l.out]; omega
      clear HM_l
      obtain ⟨d0, d1, d2, d3⟩ := HS0.out _ HF.out
      go_wp2_with fail
      go_ret
      exact ⟨by have h0 := mx_nonneg (l.map dP); simp only [dP]; rw [dPs_mx]; exact ret_w (by rw [HV_l.out]; omega), HW.out.then HF.out⟩
end Go.Proofs.YtjabhmepafofmaaGreatDoor
namespace Go.Proofs.YtjabhmepafofmaaGreatDoor
open Go.RowKit
set_option maxHeartbeats 8000000 in
set_option maxRecDepth 100000 in
theorem rdec_walk (k : Nat) (s : ByteArray) (va : List ByteArray) (co : List C) (fu : List F) (ty : T) (ex : E) (h2 : ∀ t ∈ co, RT t.ty) (h3 : ∀ t ∈ fu, RFu t) (h4 : RT ty) (h5 : RE ex) (h0 : 0 ≤ dE ex) : RD (.mk k s va co fu ty ex) := by
  intro ok w cs hc
  obtain ⟨a1, c1, a3, c3, a5, c5, ct, ce, rfl, hx, hx2, hx3, hx4, hx5⟩ := hcD_parts hc
  clear hc hx
  have HX4 := Lib.hid hx4
  have HX5 := Lib.hid hx5
  obtain ⟨k_x, s_x, n_x, b_x, m_x, cp_x, ecs⟩ := hcT hx4
  subst ecs
  obtain ⟨k2_x, s2_x, n2_x, u2_x, b12_x, m12_x, c12_x, b22_x, m22_x, c22_x, b32_x, m32_x, c32_x, ecs⟩ := hcE hx5
  subst ecs
  clear hx4 hx5
  simp only [List.cons_append, List.nil_append]
  obtain ⟨N, hN⟩ : ∃ N, va.length = N := ⟨_, rfl⟩
  rw [hN]
  clear hN
  obtain ⟨M, hM⟩ : ∃ M, co.length = M := ⟨_, rfl⟩
  rw [hM] at hx2 ⊢
  obtain ⟨K, hK⟩ : ∃ K, fu.length = K := ⟨_, rfl⟩
  rw [hK] at hx3 ⊢
  have HX2 := Lib.hid hx2
  have HX3 := Lib.hid hx3
  have HH2 := Lib.hid h2
  have HH3 := Lib.hid h3
  have HH4 := Lib.hid h4
  have HH5 := Lib.hid h5
  have HM := Lib.hid hM
  have HK := Lib.hid hK
  have HE0 := Lib.hid h0
  clear hx2 hx3 h2 h3 h4 h5 hM hK h0
  go_enter Tryz.func40, Tryz.ntmps40
  go_upto_region 1 with fail
  obtain ⟨w1, hn⟩ : ∃ wZ, w.alloc (.cells #[.int .u8 k, .string s, .slice a1 N c1, .slice a3 M c3, .slice a5 K c5, .int .u8 k_x, .string s_x, .int .i64 n_x, .slice b_x m_x cp_x, .int .u8 k2_x, .string s2_x, .int .i64 n2_x, .string u2_x, .slice b12_x m12_x c12_x, .slice b22_x m22_x c22_x, .slice b32_x m32_x c32_x] 46) = wZ := ⟨_, rfl⟩
  obtain ⟨g_x, hg⟩ : ∃ gZ, w.heap.size = gZ := ⟨_, rfl⟩
  rw [hn, hg]
  have HW : Hid (Fr No w w1) := Lib.hid (by rw [← hn]; exact Fr.alloc _ _)
  have R_x : Hid (w1.heap[g_x]? = some (.cells #[.int .u8 k, .string s, .slice a1 N c1, .slice a3 M c3, .slice a5 K c5, .int .u8 k_x, .string s_x, .int .i64 n_x, .slice b_x m_x cp_x, .int .u8 k2_x, .string s2_x, .int .i64 n2_x, .string u2_x, .slice b12_x m12_x c12_x, .slice b22_x m22_x c22_x, .slice b32_x m32_x c32_x] 46 (0, 0))) := Lib.hid (by rw [← hn, ← hg]; exact new_block _ _)
  have HF : Hid (Fr No w1 w1) := Lib.hid (Fr.refl _ _)
  clear hn hg
  have HS0 : Hid (∀ w', Fr No w1 w' → w'.cell? ⟨g_x, 0, none⟩ = some (.int .u8 k) ∧ w'.cell? ⟨g_x, 1, none⟩ = some (.string s) ∧ w'.cell? ⟨g_x, 2, none⟩ = some (.slice a1 N c1) ∧ w'.cell? ⟨g_x, 3, none⟩ = some (.slice a3 M c3) ∧ w'.cell? ⟨g_x, 4, none⟩ = some (.slice a5 K c5) ∧ w'.cell? ⟨g_x, 5, none⟩ = some (.int .u8 k_x) ∧ w'.cell? ⟨g_x, 6, none⟩ = some (.string s_x) ∧ w'.cell? ⟨g_x, 7, none⟩ = some (.int .i64 n_x) ∧ w'.cell? ⟨g_x, 8, none⟩ = some (.slice b_x m_x cp_x) ∧ w'.cell? ⟨g_x, 9, none⟩ = some (.int .u8 k2_x) ∧ w'.cell? ⟨g_x, 10, none⟩ = some (.string s2_x) ∧ w'.cell? ⟨g_x, 11, none⟩ = some (.int .i64 n2_x) ∧ w'.cell? ⟨g_x, 12, none⟩ = some (.string u2_x) ∧ w'.cell? ⟨g_x, 13, none⟩ = some (.slice b12_x m12_x c12_x) ∧ w'.cell? ⟨g_x, 14, none⟩ = some (.slice b22_x m22_x c22_x) ∧ w'.cell? ⟨g_x, 15, none⟩ = some (.slice b32_x m32_x c32_x)) := Lib.hid (fun w' hf => ⟨cell_of (hf.keeps R_x.out no_one) 0, cell_of (hf.keeps R_x.out no_one) 1, cell_of (hf.keeps R_x.out no_one) 2, cell_of (hf.keeps R_x.out no_one) 3, cell_of (hf.keeps R_x.out no_one) 4, cell_of (hf.keeps R_x.out no_one) 5, cell_of (hf.keeps R_x.out no_one) 6, cell_of (hf.keeps R_x.out no_one) 7, cell_of (hf.keeps R_x.out no_one) 8, cell_of (hf.keeps R_x.out no_one) 9, cell_of (hf.keeps R_x.out no_one) 10, cell_of (hf.keeps R_x.out no_one) 11, cell_of (hf.keeps R_x.out no_one) 12, cell_of (hf.keeps R_x.out no_one) 13, cell_of (hf.keeps R_x.out no_one) 14, cell_of (hf.keeps R_x.out no_one) 15⟩)
  go_cut [3] from 6 to 12 (fun m wx => Hid (Fr No w1 wx) ∧ ∃ M0 : Int, m = .int .i64 M0 ∧ Hid (M0 = max (dE ex) (dT ty)))
  case first =>
    skip
    refine region_e (fun w' => w'.cell? ⟨g_x, 0, none⟩ = some (.int .u8 k) ∧ w'.cell? ⟨g_x, 1, none⟩ = some (.string s) ∧ w'.cell? ⟨g_x, 2, none⟩ = some (.slice a1 N c1) ∧ w'.cell? ⟨g_x, 3, none⟩ = some (.slice a3 M c3) ∧ w'.cell? ⟨g_x, 4, none⟩ = some (.slice a5 K c5) ∧ w'.cell? ⟨g_x, 5, none⟩ = some (.int .u8 k_x) ∧ w'.cell? ⟨g_x, 6, none⟩ = some (.string s_x) ∧ w'.cell? ⟨g_x, 7, none⟩ = some (.int .i64 n_x) ∧ w'.cell? ⟨g_x, 8, none⟩ = some (.slice b_x m_x cp_x) ∧ w'.cell? ⟨g_x, 9, none⟩ = some (.int .u8 k2_x) ∧ w'.cell? ⟨g_x, 10, none⟩ = some (.string s2_x) ∧ w'.cell? ⟨g_x, 11, none⟩ = some (.int .i64 n2_x) ∧ w'.cell? ⟨g_x, 12, none⟩ = some (.string u2_x) ∧ w'.cell? ⟨g_x, 13, none⟩ = some (.slice b12_x m12_x c12_x) ∧ w'.cell? ⟨g_x, 14, none⟩ = some (.slice b22_x m22_x c22_x) ∧ w'.cell? ⟨g_x, 15, none⟩ = some (.slice b32_x m32_x c32_x)) [] (by kernel_rfl) ?_ (fun hHeld => ?_)
    · exact HS0.out _ (HF.out.then (Fr.drew _))
    obtain ⟨w6, hwd⟩ : ∃ wZ, wZ = w1.drew := ⟨_, rfl⟩
    have HS : Hid (Fr No w1 w6) := Lib.hid (by rw [hwd]; exact Fr.drew _)
    rw [← hwd] at hHeld ⊢
    clear hwd
    replace HF := Lib.hid (HF.out.then HS.out)
    clear HS
    refine take_op 0 (some 6) (Op.fieldAddr 46 ( .tmp 1) 6) 0 ?_ (by kernel_rfl) (by kernel_rfl) (by kernel_rfl) (fun _ _ _ h => h) ?_ (by assumption) ?_
    rotate_left
    · intro w hSw; (try dsimp only at hSw); go_simp; (try (with_reducible rfl))
    try simp only [Act.put, List.setIfInBounds_toArray, List.set_cons_zero, List.set_cons_succ]
    refine take_op 1 (some 7) (Op.load 44 ( .tmp 6)) 44 ?_ (by kernel_rfl) (by kernel_rfl) (by kernel_rfl) (fun _ _ _ h => h) ?_ (by assumption) ?_
    rotate_left
    · intro w hSw; (try dsimp only at hSw); go_simp; (try (with_reducible rfl))
    try simp only [Act.put, List.setIfInBounds_toArray, List.set_cons_zero, List.set_cons_succ]
    refine take_op 3 (some 9) (Op.fieldAddr 46 ( .tmp 1) 5) 0 ?_ (by kernel_rfl) (by kernel_rfl) (by kernel_rfl) (fun _ _ _ h => h) ?_ (by assumption) ?_
    rotate_left
    · intro w hSw; (try dsimp only at hSw); go_simp; (try (with_reducible rfl))
    try simp only [Act.put, List.setIfInBounds_toArray, List.set_cons_zero, List.set_cons_succ]
    refine take_op 4 (some 10) (Op.load 40 ( .tmp 9)) 40 ?_ (by kernel_rfl) (by kernel_rfl) (by kernel_rfl) (fun _ _ _ h => h) ?_ (by assumption) ?_
    rotate_left
    · intro w hSw; (try dsimp only at hSw); go_simp; (try (with_reducible rfl))
    try simp only [Act.put, List.setIfInBounds_toArray, List.set_cons_zero, List.set_cons_succ]
    refine ready_e (rs := [2]) (by kernel_rfl) (by simp) ?_
    refine (do_mid (o := _) rfl (fun K hK => ?_) none_e)
    go_simp
    go_at_call 62
    refine (HH5.out ok _ _ (HX5.out.no (HW.out.then HF.out))).mono ?_
    rintro e w7 ⟨rfl, hf⟩
    have HC := Lib.hid hf
    clear hf
    replace HF := Lib.hid (HF.out.then HC.out)
    clear HC
    obtain ⟨m1, hm1⟩ : ∃ m, dE ex = m := ⟨_, rfl⟩
    rw [hm1]
    have HM1 := Lib.hid hm1
    clear hm1
    refine hK.out _ _ ?_ (fun hHeld => ?_)
    · exact HS0.out _ HF.out
    clear hK K
    try dsimp only
    try simp only [Act.put, List.setIfInBounds_toArray, List.set_cons_zero, List.set_cons_succ]
    refine ready_e (rs := [5]) (by kernel_rfl) (by simp) ?_
    refine (do_mid (o := _) rfl (fun K hK => ?_) none_e)
    go_simp
    go_at_call 63
    refine (HH4.out ok _ _ (HX4.out.no (HW.out.then HF.out))).mono ?_
    rintro e w8 ⟨rfl, hf⟩
    have HC := Lib.hid hf
    clear hf
    replace HF := Lib.hid (HF.out.then HC.out)
    clear HC
    obtain ⟨m2, hm2⟩ : ∃ m, dT ty = m := ⟨_, rfl⟩
    rw [hm2]
    have HM2 := Lib.hid hm2
    clear hm2
    refine hK.out _ _ ?_ (fun hHeld => ?_)
    · exact HS0.out _ HF.out
    clear hK K
    try dsimp only
    try simp only [Act.put, List.setIfInBounds_toArray, List.set_cons_zero, List.set_cons_succ]
    refine take_op 6 (some 12) (Op.call { callee := Callee.builtin Builtin.max, args := #[ .tmp 8,  .tmp 11], argTypes := #[3, 3] }) 3 ?_ (by kernel_rfl) (by kernel_rfl) (by kernel_rfl) (fun _ _ _ h => h) ?_ (by assumption) ?_
    rotate_left
    · intro w hSw; (try dsimp only at hSw); go_simp; (try (with_reducible rfl))
    try simp only [Act.put, List.setIfInBounds_toArray, List.set_cons_zero, List.set_cons_succ]
    refine take_op 7 (some 3) (Op.assign ( .tmp 12)) 3 ?_ (by kernel_rfl) (by kernel_rfl) (by kernel_rfl) (fun _ _ _ h => h) ?_ (by assumption) ?_
    rotate_left
    · intro w hSw; (try dsimp only at hSw); go_simp; (try (with_reducible rfl))
    try simp only [Act.put, List.setIfInBounds_toArray, List.set_cons_zero, List.set_cons_succ]
    refine done_e (by kernel_rfl) ?_ _
    (try simp only [Exit.inBlock, Exit.then])
    go_wp2_with fail
    all_goals
      go_meet
      exact ⟨HF, _, rfl, Lib.hid (by rw [HM1.out, HM2.out]; omega)⟩
  case rest =>
    clear HF
    obtain ⟨HF, M0, rfl, HM0⟩ := hcut
    have h0 : 0 ≤ M0 := by rw [HM0.out]; have := HE0.out; omega
    obtain ⟨d0, d1, d2, d3, d4, d5, d6, d7, d8, d9, d10, d11, d12, d13, d14, d15⟩ := HS0.out _ HF.out
    go_wp2_with fail
    clear d0 d1 d2 d3 d4 d5 d6 d7 d8 d9 d10 d11 d12 d13 d14 d15
    have ha0 : (0 : Int) ≤ M0 := h0
    go_loopw [3, 4] (fun m i wr => ∃ j : Nat, j ≤ M ∧ i = .int .i64 (j : Nat) ∧ m = .int .i64 (max M0 (mxUp (fun c : C => dT c.ty) co j)) ∧ Hid (Fr No w1 wr)) (fun _ i _ => M - intOf i)
    case atStart => exact ⟨0, Nat.zero_le _, rfl, by rw [mxUp_zero, Int.max_eq_left ha0], HF⟩
    case round =>
      clear HF
      obtain ⟨j, hj, rfl, rfl, HF⟩ := hrel
      obtain ⟨wL, hwL⟩ : ∃ wL, wL = wr := ⟨wr, rfl⟩
      rw [← hwL] at HF ⊢
      clear hwL wr
      obtain ⟨M_co, hM⟩ : ∃ M, max M0 (mxUp (fun c : C => dT c.ty) co j) = M := ⟨_, rfl⟩
      rw [hM]
      have HM_co := Lib.hid hM
      clear hM
      by_cases hlt : j < M
      · skip
        have hNL := hx_max (HX2.out.no HW.out)
        rw [List.length_map, HM.out] at hNL
        have hd0 : decide (j < M) = true := decide_eq_true hlt
        have hj0 : (0 : Int) ≤ (j : Int) := by omega
        have hj1 : (j : Int) < (M : Int) := by omega
        obtain ⟨t, ht⟩ : ∃ t, co[j]? = some t := ⟨_, List.getElem?_eq_getElem (by rw [HM.out]; exact hlt)⟩
        have hmem := List.mem_of_getElem? ht
        have HMS : Hid (max M_co ((fun c : C => dT c.ty) t) = max M0 (mxUp (fun c : C => dT c.ty) co (j + 1))) := Lib.hid (by rw [← HM_co.out]; exact stepM M0 (fun c : C => dT c.ty) ht)
        obtain ⟨ge, oe, ce, hae, _, hle, hce, hxe⟩ := hx_at (HX2.out.no HW.out) (j := j) (x := xC t) (by rw [List.getElem?_map, ht]; rfl)
        subst hae
        obtain ⟨tz, tq, tt⟩ := t
        simp only [xC, xb] at hxe
        obtain ⟨ca, cb, ecs, h1, h2⟩ := Hc.split hxe
        subst ecs
        obtain ⟨_, rfl, h1a⟩ := hc_lit h1
        obtain ⟨_, rfl, h1b⟩ := hc_lit h1a
        obtain rfl := hc_nil h1b
        clear h1a h1b
        have HE2 := Lib.hid h2
        obtain ⟨k2_e, s2_e, n2_e, b2_e, m2_e, cp2_e, ecs⟩ := hcT h2
        subst ecs
        clear h1 h2
        have HS1 : Hid (∀ w', Fr No w1 w' → w'.cell? ⟨g_x, 3, none⟩ = some (.slice (some ⟨ge, oe, none⟩) M c3) ∧ w'.cell? ⟨ge, oe + j * 6, none⟩ = some (.string tz) ∧ w'.cell? ⟨ge, oe + j * 6 + 1, none⟩ = some (.bool tq) ∧ w'.cell? ⟨ge, oe + j * 6 + 2, none⟩ = some (.int .u8 k2_e) ∧ w'.cell? ⟨ge, oe + j * 6 + 3, none⟩ = some (.string s2_e) ∧ w'.cell? ⟨ge, oe + j * 6 + 4, none⟩ = some (.int .i64 n2_e) ∧ w'.cell? ⟨ge, oe + j * 6 + 5, none⟩ = some (.slice b2_e m2_e cp2_e)) := Lib.hid (fun w' hf => by
          obtain ⟨q0, q1, q2, q3, q4, q5, q6, q7, q8, q9, q10, q11, q12, q13, q14, q15⟩ := HS0.out w' hf
          exact ⟨q3, hf.cell (hce 0 _ rfl), hf.cell (hce 1 _ rfl), hf.cell (hce 2 _ rfl), hf.cell (hce 3 _ rfl), hf.cell (hce 4 _ rfl), hf.cell (hce 5 _ rfl)⟩)
        clear hce hxe hle ht
        obtain ⟨d0, d1, d2, d3, d4, d5, d6⟩ := HS1.out _ HF.out
        go_wp2_with fail
        clear d0 d1 d2 d3 d4 d5 d6
        refine (HH2.out _ hmem ok _ _ (HE2.out.no HF.out)).mono ?_
        rintro e w9 ⟨rfl, hf⟩
        have HC := Lib.hid hf
        clear hf
        replace HF := Lib.hid (HF.out.then HC.out)
        clear HC
        obtain ⟨m, hm⟩ : ∃ m, dT tt = m := ⟨_, rfl⟩
        rw [hm] at HMS ⊢
        clear hm
        go_wp2_with fail
        all_goals
          exact ⟨⟨j + 1, by omega, by go_num, valM HMS.out (by omega), HF⟩, by simp [intOf]; omega⟩
      · skip
        have hd0 : decide (j < M) = false := decide_eq_false hlt
        have HV_co : Hid (M_co = max M0 (mx (co.map (fun c : C => dT c.ty)))) := Lib.hid (by rw [← HM_co.out, mxUp_all _ _ (HM.out.trans (by omega))])
        have hM0_co : 0 ≤ M_co := by rw [HV_co.out]; omega
        clear HM_co
        obtain ⟨d0, d1, d2, d3, d4, d5, d6, d7, d8, d9, d10, d11, d12, d13, d14, d15⟩ := HS0.out _ HF.out
        go_wp2_with fail
        clear d0 d1 d2 d3 d4 d5 d6 d7 d8 d9 d10 d11 d12 d13 d14 d15
        clear hd0 hlt hj ha0
        have ha0 : (0 : Int) ≤ M_co := hM0_co
        go_loopw [3, 5] (fun m i wr => ∃ j : Nat, j ≤ K ∧ i = .int .i64 (j : Nat) ∧ m = .int .i64 (max M_co (mxUp dF fu j)) ∧ Hid (Fr No w1 wr)) (fun _ i _ => K - intOf i)
        case atStart => exact ⟨0, Nat.zero_le _, rfl, by rw [mxUp_zero, Int.max_eq_left ha0], HF⟩
        case round =>
          clear HF
          obtain ⟨j, hj, rfl, rfl, HF⟩ := hrel
          obtain ⟨wL, hwL⟩ : ∃ wL, wL = wr := ⟨wr, rfl⟩
          rw [← hwL] at HF ⊢
          clear hwL wr
          obtain ⟨M_fu, hM⟩ : ∃ M, max M_co (mxUp dF fu j) = M := ⟨_, rfl⟩
          rw [hM]
          have HM_fu := Lib.hid hM
          clear hM
          by_cases hlt : j < K
          · skip
            have hNL := hx_max (HX3.out.no HW.out)
            rw [List.length_map, HK.out] at hNL
            have hd0 : decide (j < K) = true := decide_eq_true hlt
            have hj0 : (0 : Int) ≤ (j : Int) := by omega
            have hj1 : (j : Int) < (K : Int) := by omega
            obtain ⟨t, ht⟩ : ∃ t, fu[j]? = some t := ⟨_, List.getElem?_eq_getElem (by rw [HK.out]; exact hlt)⟩
            have hmem := List.mem_of_getElem? ht
            have HMS : Hid (max M_fu (dF t) = max M_co (mxUp dF fu (j + 1))) := Lib.hid (by rw [← HM_fu.out]; exact stepM M_co dF ht)
            obtain ⟨ge, oe, ce, hae, _, hle, hce, hxe⟩ := hx_at (HX3.out.no HW.out) (j := j) (x := xF t) (by rw [List.getElem?_map, ht]; rfl)
            subst hae
            obtain ⟨tz, ta, te⟩ := t
            simp only [xF, xb] at hxe
            obtain ⟨ca, cb, ecs, h1, h2⟩ := Hc.split hxe
            subst ecs
            obtain ⟨_, rfl, h1a⟩ := hc_lit h1
            obtain ⟨aa_e, ac_e, _, rfl, h3, h1b⟩ := hc_row h1a
            obtain rfl := hc_nil h1b
            clear h1a h1b
            rw [List.length_map] at h3 hce
            have HE1 := Lib.hid h3
            have HE2 := Lib.hid h2
            obtain ⟨k2_e, s2_e, n2_e, u2_e, b12_e, m12_e, c12_e, b22_e, m22_e, c22_e, b32_e, m32_e, c32_e, ecs⟩ := hcE h2
            subst ecs
            clear h1 h2
            have HS1 : Hid (∀ w', Fr No w1 w' → w'.cell? ⟨g_x, 4, none⟩ = some (.slice (some ⟨ge, oe, none⟩) K c5) ∧ w'.cell? ⟨ge, oe + j * 9, none⟩ = some (.string tz) ∧ w'.cell? ⟨ge, oe + j * 9 + 1, none⟩ = some (.slice aa_e ta.length ac_e) ∧ w'.cell? ⟨ge, oe + j * 9 + 2, none⟩ = some (.int .u8 k2_e) ∧ w'.cell? ⟨ge, oe + j * 9 + 3, none⟩ = some (.string s2_e) ∧ w'.cell? ⟨ge, oe + j * 9 + 4, none⟩ = some (.int .i64 n2_e) ∧ w'.cell? ⟨ge, oe + j * 9 + 5, none⟩ = some (.string u2_e) ∧ w'.cell? ⟨ge, oe + j * 9 + 6, none⟩ = some (.slice b12_e m12_e c12_e) ∧ w'.cell? ⟨ge, oe + j * 9 + 7, none⟩ = some (.slice b22_e m22_e c22_e) ∧ w'.cell? ⟨ge, oe + j * 9 + 8, none⟩ = some (.slice b32_e m32_e c32_e)) := Lib.hid (fun w' hf => by
              obtain ⟨q0, q1, q2, q3, q4, q5, q6, q7, q8, q9, q10, q11, q12, q13, q14, q15⟩ := HS0.out w' hf
              exact ⟨q4, hf.cell (hce 0 _ rfl), hf.cell (hce 1 _ rfl), hf.cell (hce 2 _ rfl), hf.cell (hce 3 _ rfl), hf.cell (hce 4 _ rfl), hf.cell (hce 5 _ rfl), hf.cell (hce 6 _ rfl), hf.cell (hce 7 _ rfl), hf.cell (hce 8 _ rfl)⟩)
            clear hce hxe hle ht
            obtain ⟨d0, d1, d2, d3, d4, d5, d6, d7, d8, d9⟩ := HS1.out _ HF.out
            go_wp2_with fail
            clear d0 d1 d2 d3 d4 d5 d6 d7 d8 d9
            refine (HH3.out _ hmem ok _ _ (HE2.out.no HF.out)).mono ?_
            rintro e w10 ⟨rfl, hf⟩
            have HC := Lib.hid hf
            clear hf
            replace HF := Lib.hid (HF.out.then HC.out)
            clear HC
            obtain ⟨m, hm⟩ : ∃ m, dE te = m := ⟨_, rfl⟩
            simp only [dF] at HMS
            rw [hm] at HMS ⊢
            clear hm
            go_wp2_with fail
            all_goals
              exact ⟨⟨j + 1, by omega, by go_num, valM HMS.out (by omega), HF⟩, by simp [intOf]; omega⟩
          · skip
            have hd0 : decide (j < K) = false := decide_eq_false hlt
            have HV_fu : Hid (M_fu = max M_co (mx (fu.map dF))) := Lib.hid (by rw [← HM_fu.out, mxUp_all _ _ (HK.out.trans (by omega))])
            have hM0_fu : 0 ≤ M_fu := by rw [HV_fu.out]; omega
            clear HM_fu
            obtain ⟨d0, d1, d2, d3, d4, d5, d6, d7, d8, d9, d10, d11, d12, d13, d14, d15⟩ := HS0.out _ HF.out
            go_wp2_with fail
            go_ret
            exact ⟨by have h1 := HE0.out; have h2 := mx_nonneg (co.map fun c => dT c.ty); have h3 := mx_nonneg (fu.map dF); simp only [dD]; rw [dFs_mx]; exact ret_w (by rw [HV_fu.out, HV_co.out, HM0.out]; try omega), HW.out.then HF.out⟩
end Go.Proofs.YtjabhmepafofmaaGreatDoor
