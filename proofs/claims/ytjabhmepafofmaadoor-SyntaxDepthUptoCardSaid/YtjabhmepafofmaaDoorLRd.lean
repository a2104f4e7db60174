/- The document's Depth: its functions. -/
import Derived.Test.YtjabhmepafofmaaDoorLRn
set_option linter.unusedVariables false
set_option linter.unusedSimpArgs false
namespace Go.Proofs.YtjabhmepafofmaaDoor
open Go.RowKit
theorem ret_w {x y : Int} (h : x = y) : Ending.returned (.int .i64 (wrap64 (x + 1))) = Ending.returned (.int .i64 (up y)) := by
  rw [h, up, Int.add_comm]
theorem stepM {α : Type} (a : Int) (d : α → Int) {l : List α} {k : Nat} {t : α} (h : l[k]? = some t) : max (max a (mxUp d l k)) (d t) = max a (mxUp d l (k + 1)) := by
  have := mxUp_succ d h
  omega
theorem valM {a b c : Int} (h : a = b) (h2 : c = a) : Value.int .i64 c = Value.int .i64 b := by rw [h2, h]
def RT (t : T) : Prop := ∀ (ok : Nat → Prop) (w : World) (cs : List Value), Hc ok w (xT t) cs → Calls Tryd.prog 47 #[.agg cs.toArray] w (IntE (dT t) w)
def RP (t : T) : Prop := ∀ (ok : Nat → Prop) (w : World) (cs : List Value), Hc ok w (xT t) cs → Calls Tryd.prog 71 #[.agg cs.toArray] w (IntE (dP t) w)
def RE (t : E) : Prop := ∀ (ok : Nat → Prop) (w : World) (cs : List Value), Hc ok w (xE t) cs → Calls Tryd.prog 46 #[.agg cs.toArray] w (IntE (dE t) w)
def RD (t : D) : Prop := ∀ (ok : Nat → Prop) (w : World) (cs : List Value), Hc ok w (xD t) cs → Calls Tryd.prog 26 #[.agg cs.toArray] w (IntE (dD t) w)
def RRu : R → Prop
  | .mk p e => RP p ∧ RE e
def RFu : F → Prop
  | .mk _ _ e => RE e
set_option maxHeartbeats 8000000 in
set_option maxRecDepth 100000 in
theorem rty_walk (k : Nat) (s : ByteArray) (n : Int) (l : List T) (h : ∀ t ∈ l, RT t) : RT (.mk k s n l) := by
  intro ok w cs hc
  obtain ⟨a1, c1, rfl, hx⟩ := hcT_parts hc
  clear hc
  obtain ⟨N, hN⟩ : ∃ N, l.length = N := ⟨_, rfl⟩
  rw [hN] at hx ⊢
  have HX := Lib.hid hx
  have HH := Lib.hid h
  have HN := Lib.hid hN
  clear hx h hN
  go_enter Tryd.func47, Tryd.ntmps47
  go_upto_region 1 with fail
  obtain ⟨w1, hn⟩ : ∃ wZ, w.alloc (.cells #[.int .u8 k, .string s, .int .i64 n, .slice a1 N c1] 37) = wZ := ⟨_, rfl⟩
  obtain ⟨g_x, hg⟩ : ∃ gZ, w.heap.size = gZ := ⟨_, rfl⟩
  rw [hn, hg]
  have HW : Hid (Fr No w w1) := Lib.hid (by rw [← hn]; exact Fr.alloc _ _)
  have R_x : Hid (w1.heap[g_x]? = some (.cells #[.int .u8 k, .string s, .int .i64 n, .slice a1 N c1] 37 (0, 0))) := Lib.hid (by rw [← hn, ← hg]; exact new_block _ _)
  have HF : Hid (Fr No w1 w1) := Lib.hid (Fr.refl _ _)
  clear hn hg
  have HS0 : Hid (∀ w', Fr No w1 w' → w'.cell? ⟨g_x, 0, none⟩ = some (.int .u8 k) ∧ w'.cell? ⟨g_x, 1, none⟩ = some (.string s) ∧ w'.cell? ⟨g_x, 2, none⟩ = some (.int .i64 n) ∧ w'.cell? ⟨g_x, 3, none⟩ = some (.slice a1 N c1)) := Lib.hid (fun w' hf => ⟨cell_of (hf.keeps R_x.out no_one) 0, cell_of (hf.keeps R_x.out no_one) 1, cell_of (hf.keeps R_x.out no_one) 2, cell_of (hf.keeps R_x.out no_one) 3⟩)
  by_cases hk : k = 0
  · skip
    have hq : ((k : Int) == 0) = true := by simp [hk]
    obtain ⟨d0, d1, d2, d3⟩ := HS0.out _ HF.out
    go_wp2_with fail
    go_ret
    exact ⟨by simp only [dT]; rw [if_pos hk]; rfl, HW.out⟩
  have hq : ((k : Int) == 0) = false := by simp only [beq_eq_false_iff_ne, ne_eq]; omega
  obtain ⟨d0, d1, d2, d3⟩ := HS0.out _ HF.out
  go_wp2_with fail
  clear d0 d1 d2 d3
  clear hq
  have ha0 : (0 : Int) ≤ 0 := Int.le_refl _
  go_loopw [3, 4] (fun m i wr => ∃ j : Nat, j ≤ N ∧ i = .int .i64 (j : Nat) ∧ m = .int .i64 (max 0 (mxUp dT l j)) ∧ Hid (Fr No w1 wr)) (fun _ i _ => N - intOf i)
  case atStart => exact ⟨0, Nat.zero_le _, rfl, by rw [mxUp_zero, Int.max_eq_left ha0], HF⟩
  case round =>
    clear HF
    obtain ⟨j, hj, rfl, rfl, HF⟩ := hrel
    obtain ⟨wL, hwL⟩ : ∃ wL, wL = wr := ⟨wr, rfl⟩
    rw [← hwL] at HF ⊢
    clear hwL wr
    obtain ⟨M_l, hM⟩ : ∃ M, max 0 (mxUp dT l j) = M := ⟨_, rfl⟩
    rw [hM]
    have HM_l := Lib.hid hM
    clear hM
    by_cases hlt : j < N
    · skip
      have hNL := hx_max (HX.out.no HW.out)
      rw [List.length_map, HN.out] at hNL
      have hd0 : decide (j < N) = true := decide_eq_true hlt
      have hj0 : (0 : Int) ≤ (j : Int) := by omega
      have hj1 : (j : Int) < (N : Int) := by omega
      obtain ⟨t, ht⟩ : ∃ t, l[j]? = some t := ⟨_, List.getElem?_eq_getElem (by rw [HN.out]; exact hlt)⟩
      have hmem := List.mem_of_getElem? ht
      have HMS : Hid (max M_l (dT t) = max 0 (mxUp dT l (j + 1))) := Lib.hid (by rw [← HM_l.out]; exact stepM 0 dT ht)
      obtain ⟨ge, oe, ce, hae, _, hle, hce, hxe⟩ := hx_at (HX.out.no HW.out) (j := j) (x := xT t) (by rw [List.getElem?_map, ht]; rfl)
      subst hae
      have HE := Lib.hid hxe
      obtain ⟨k_e, s_e, n_e, b_e, m_e, cp_e, ecs⟩ := hcT hxe
      subst ecs
      have HS1 : Hid (∀ w', Fr No w1 w' → w'.cell? ⟨g_x, 0, none⟩ = some (.int .u8 k) ∧ w'.cell? ⟨g_x, 1, none⟩ = some (.string s) ∧ w'.cell? ⟨g_x, 2, none⟩ = some (.int .i64 n) ∧ w'.cell? ⟨g_x, 3, none⟩ = some (.slice (some ⟨ge, oe, none⟩) N c1) ∧ w'.cell? ⟨ge, oe + j * 4, none⟩ = some (.int .u8 k_e) ∧ w'.cell? ⟨ge, oe + j * 4 + 1, none⟩ = some (.string s_e) ∧ w'.cell? ⟨ge, oe + j * 4 + 2, none⟩ = some (.int .i64 n_e) ∧ w'.cell? ⟨ge, oe + j * 4 + 3, none⟩ = some (.slice b_e m_e cp_e)) := Lib.hid (fun w' hf => by
        obtain ⟨q0, q1, q2, q3⟩ := HS0.out w' hf
        exact ⟨q0, q1, q2, q3, hf.cell (hce 0 _ rfl), hf.cell (hce 1 _ rfl), hf.cell (hce 2 _ rfl), hf.cell (hce 3 _ rfl)⟩)
      clear hce hxe hle ht
      obtain ⟨d0, d1, d2, d3, d4, d5, d6, d7⟩ := HS1.out _ HF.out
      go_wp2_with fail
      clear d0 d1 d2 d3 d4 d5 d6 d7
      refine (HH.out t hmem ok _ _ (HE.out.no HF.out)).mono ?_
      rintro e w6 ⟨rfl, hf⟩
      have HC := Lib.hid hf
      clear hf
      replace HF := Lib.hid (HF.out.then HC.out)
      clear HC
      obtain ⟨m, hm⟩ : ∃ m, dT t = m := ⟨_, rfl⟩
      rw [hm] at HMS ⊢
      clear hm
      go_wp2_with fail
      all_goals
        exact ⟨⟨j + 1, by omega, by go_num, valM HMS.out (by omega), HF⟩, by simp [intOf]; omega⟩
    · skip
      have hd0 : decide (j < N) = false := decide_eq_false hlt
      have HV_l : Hid (M_l = max 0 (mx (l.map dT))) := Lib.hid (by rw [← HM_l.out, mxUp_all _ _ (HN.out.trans (by omega))])
      have hM0_l : 0 ≤ M_l := by rw [HV_l.out]; omega
      clear HM_l
      obtain ⟨d0, d1, d2, d3⟩ := HS0.out _ HF.out
      go_wp2_with fail
      go_ret
      exact ⟨by have h0 := mx_nonneg (l.map dT); simp only [dT]; rw [if_neg hk, dTs_mx]; exact ret_w (by rw [HV_l.out]; omega), HW.out.then HF.out⟩
set_option maxHeartbeats 8000000 in
set_option maxRecDepth 100000 in
theorem rpat_walk (k : Nat) (s : ByteArray) (n : Int) (l : List T) (h : ∀ t ∈ l, RP t) : RP (.mk k s n l) := by
  intro ok w cs hc
  obtain ⟨a1, c1, rfl, hx⟩ := hcT_parts hc
  clear hc
  obtain ⟨N, hN⟩ : ∃ N, l.length = N := ⟨_, rfl⟩
  rw [hN] at hx ⊢
  have HX := Lib.hid hx
  have HH := Lib.hid h
  have HN := Lib.hid hN
  clear hx h hN
  go_enter Tryd.func71, Tryd.ntmps71
  go_upto_region 1 with fail
  obtain ⟨w1, hn⟩ : ∃ wZ, w.alloc (.cells #[.int .u8 k, .string s, .int .i64 n, .slice a1 N c1] 74) = wZ := ⟨_, rfl⟩
  obtain ⟨g_x, hg⟩ : ∃ gZ, w.heap.size = gZ := ⟨_, rfl⟩
  rw [hn, hg]
  have HW : Hid (Fr No w w1) := Lib.hid (by rw [← hn]; exact Fr.alloc _ _)
  have R_x : Hid (w1.heap[g_x]? = some (.cells #[.int .u8 k, .string s, .int .i64 n, .slice a1 N c1] 74 (0, 0))) := Lib.hid (by rw [← hn, ← hg]; exact new_block _ _)
  have HF : Hid (Fr No w1 w1) := Lib.hid (Fr.refl _ _)
  clear hn hg
  have HS0 : Hid (∀ w', Fr No w1 w' → w'.cell? ⟨g_x, 0, none⟩ = some (.int .u8 k) ∧ w'.cell? ⟨g_x, 1, none⟩ = some (.string s) ∧ w'.cell? ⟨g_x, 2, none⟩ = some (.int .i64 n) ∧ w'.cell? ⟨g_x, 3, none⟩ = some (.slice a1 N c1)) := Lib.hid (fun w' hf => ⟨cell_of (hf.keeps R_x.out no_one) 0, cell_of (hf.keeps R_x.out no_one) 1, cell_of (hf.keeps R_x.out no_one) 2, cell_of (hf.keeps R_x.out no_one) 3⟩)
  obtain ⟨d0, d1, d2, d3⟩ := HS0.out _ HF.out
  go_wp2_with fail
  clear d0 d1 d2 d3
  have ha0 : (0 : Int) ≤ 0 := Int.le_refl _
  go_loopw [3, 4] (fun m i wr => ∃ j : Nat, j ≤ N ∧ i = .int .i64 (j : Nat) ∧ m = .int .i64 (max 0 (mxUp dP l j)) ∧ Hid (Fr No w1 wr)) (fun _ i _ => N - intOf i)
  case atStart => exact ⟨0, Nat.zero_le _, rfl, by rw [mxUp_zero, Int.max_eq_left ha0], HF⟩
  case round =>
    clear HF
    obtain ⟨j, hj, rfl, rfl, HF⟩ := hrel
    obtain ⟨wL, hwL⟩ : ∃ wL, wL = wr := ⟨wr, rfl⟩
    rw [← hwL] at HF ⊢
    clear hwL wr
    obtain ⟨M_l, hM⟩ : ∃ M, max 0 (mxUp dP l j) = M := ⟨_, rfl⟩
    rw [hM]
    have HM_l := Lib.hid hM
    clear hM
    by_cases hlt : j < N
    · skip
      have hNL := hx_max (HX.out.no HW.out)
      rw [List.length_map, HN.out] at hNL
      have hd0 : decide (j < N) = true := decide_eq_true hlt
      have hj0 : (0 : Int) ≤ (j : Int) := by omega
      have hj1 : (j : Int) < (N : Int) := by omega
      obtain ⟨t, ht⟩ : ∃ t, l[j]? = some t := ⟨_, List.getElem?_eq_getElem (by rw [HN.out]; exact hlt)⟩
      have hmem := List.mem_of_getElem? ht
      have HMS : Hid (max M_l (dP t) = max 0 (mxUp dP l (j + 1))) := Lib.hid (by rw [← HM_l.out]; exact stepM 0 dP ht)
      obtain ⟨ge, oe, ce, hae, _, hle, hce, hxe⟩ := hx_at (HX.out.no HW.out) (j := j) (x := xT t) (by rw [List.getElem?_map, ht]; rfl)
      subst hae
      have HE := Lib.hid hxe
      obtain ⟨k_e, s_e, n_e, b_e, m_e, cp_e, ecs⟩ := hcT hxe
      subst ecs
      have HS1 : Hid (∀ w', Fr No w1 w' → w'.cell? ⟨g_x, 0, none⟩ = some (.int .u8 k) ∧ w'.cell? ⟨g_x, 1, none⟩ = some (.string s) ∧ w'.cell? ⟨g_x, 2, none⟩ = some (.int .i64 n) ∧ w'.cell? ⟨g_x, 3, none⟩ = some (.slice (some ⟨ge, oe, none⟩) N c1) ∧ w'.cell? ⟨ge, oe + j * 4, none⟩ = some (.int .u8 k_e) ∧ w'.cell? ⟨ge, oe + j * 4 + 1, none⟩ = some (.string s_e) ∧ w'.cell? ⟨ge, oe + j * 4 + 2, none⟩ = some (.int .i64 n_e) ∧ w'.cell? ⟨ge, oe + j * 4 + 3, none⟩ = some (.slice b_e m_e cp_e)) := Lib.hid (fun w' hf => by
        obtain ⟨q0, q1, q2, q3⟩ := HS0.out w' hf
        exact ⟨q0, q1, q2, q3, hf.cell (hce 0 _ rfl), hf.cell (hce 1 _ rfl), hf.cell (hce 2 _ rfl), hf.cell (hce 3 _ rfl)⟩)
      clear hce hxe hle ht
      obtain ⟨d0, d1, d2, d3, d4, d5, d6, d7⟩ := HS1.out _ HF.out
      go_wp2_with fail
      clear d0 d1 d2 d3 d4 d5 d6 d7
      refine (HH.out t hmem ok _ _ (HE.out.no HF.out)).mono ?_
      rintro e w6 ⟨rfl, hf⟩
      have HC := Lib.hid hf
      clear hf
      replace HF := Lib.hid (HF.out.then HC.out)
      clear HC
      obtain ⟨m, hm⟩ : ∃ m, dP t = m := ⟨_, rfl⟩
      rw [hm] at HMS ⊢
      clear hm
      go_wp2_with fail
      all_goals
        exact ⟨⟨j + 1, by omega, by go_num, valM HMS.out (by omega), HF⟩, by simp [intOf]; omega⟩
    · skip
      have hd0 : decide (j < N) = false := decide_eq_false hlt
      have HV_l : Hid (M_l = max 0 (mx (l.map dP))) := Lib.hid (by rw [← HM_l.out, mxUp_all _ _ (HN.out.trans (by omega))])
      have hM0_l : 0 ≤ M_l := by rw [HV_l.out]; omega
      clear HM_l
      obtain ⟨d0, d1, d2, d3⟩ := HS0.out _ HF.out
      go_wp2_with fail
      go_ret
      exact ⟨by have h0 := mx_nonneg (l.map dP); simp only [dP]; rw [dPs_mx]; exact ret_w (by rw [HV_l.out]; omega), HW.out.then HF.out⟩
end Go.Proofs.YtjabhmepafofmaaDoor
