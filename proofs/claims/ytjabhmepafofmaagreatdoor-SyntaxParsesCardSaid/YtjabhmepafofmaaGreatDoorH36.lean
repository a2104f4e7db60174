/- Rz -/
import Derived.Test.YtjabhmepafofmaaGreatDoorH31
import Derived.Test.YtjabhmepafofmaaGreatDoorH30
set_option linter.unusedVariables false
set_option linter.unusedSimpArgs false
namespace Go.Proofs.YtjabhmepafofmaaGreatDoor
open Go.RowKit
set_option maxHeartbeats 8000000 in
set_option maxRecDepth 100000 in
theorem rdepth_walk (l : List D) (h : ∀ t ∈ l, RD t) (ok : Nat → Prop) (w : World) (v : Value) (hx : Hx ok w (.row 16 (l.map xD)) v) : Calls Tryz.prog 17 #[v] w (IntE (dProg l) w) := by
  obtain ⟨a1, c1, rfl⟩ := hx_slice hx
  rw [List.length_map] at hx ⊢
  obtain ⟨N, hN⟩ : ∃ N, l.length = N := ⟨_, rfl⟩
  rw [hN] at hx ⊢
  have HX := Lib.hid hx
  have HH := Lib.hid h
  have HN := Lib.hid hN
  clear hx h hN
  go_enter Tryz.func17, Tryz.ntmps17
  go_upto_region 1 with fail
  obtain ⟨w1, hn⟩ : ∃ wZ, w = wZ := ⟨_, rfl⟩
  have HW : Hid (Fr No w w1) := Lib.hid (by rw [hn]; exact Fr.refl _ _)
  have HF : Hid (Fr No w1 w1) := Lib.hid (Fr.refl _ _)
  rw [hn] at HX
  rw [hn]
  go_wp2_with fail
  have ha0 : (0 : Int) ≤ 0 := Int.le_refl _
  go_loopw [3, 4] (fun m i wr => ∃ j : Nat, j ≤ N ∧ i = .int .i64 (j : Nat) ∧ m = .int .i64 (max 0 (mxUp dD l j)) ∧ Hid (Fr No w1 wr)) (fun _ i _ => N - intOf i)
  case atStart => exact ⟨0, Nat.zero_le _, rfl, by rw [mxUp_zero, Int.max_eq_left ha0], HF⟩
  case round =>
    clear HF
    obtain ⟨j, hj, rfl, rfl, HF⟩ := hrel
    obtain ⟨wL, hwL⟩ : ∃ wL, wL = wr := ⟨wr, rfl⟩
    rw [← hwL] at HF ⊢
    clear hwL wr
    obtain ⟨M_l, hM⟩ : ∃ M, max 0 (mxUp dD l j) = M := ⟨_, rfl⟩
    rw [hM]
    have HM_l := Lib.hid hM
    clear hM
    by_cases hlt : j < N
    · skip
      have hNL := hx_max HX.out
      rw [List.length_map, HN.out] at hNL
      have hd0 : decide (j < N) = true := decide_eq_true hlt
      have hj0 : (0 : Int) ≤ (j : Int) := by omega
      have hj1 : (j : Int) < (N : Int) := by omega
      obtain ⟨t, ht⟩ : ∃ t, l[j]? = some t := ⟨_, List.getElem?_eq_getElem (by rw [HN.out]; exact hlt)⟩
      have hmem := List.mem_of_getElem? ht
      have HMS : Hid (max M_l (dD t) = max 0 (mxUp dD l (j + 1))) := Lib.hid (by rw [← HM_l.out]; exact stepM 0 dD ht)
      obtain ⟨ge, oe, ce, hae, _, hle, hce, hxe⟩ := hx_at HX.out (j := j) (x := xD t) (by rw [List.getElem?_map, ht]; rfl)
      subst hae
      have HE := Lib.hid hxe
      obtain ⟨z0_e, z_e, p1_e, q1_e, r1_e, p2_e, q2_e, r2_e, p3_e, q3_e, r3_e, k_e, s_e, n_e, b_e, m_e, cp_e, k2_e, s2_e, n2_e, u_e, b1_e, m1_e, c1_e, b2_e, m2_e, c2_e, b3_e, m3_e, c3_e, ecs⟩ := hcD hxe
      subst ecs
      have HS1 : Hid (∀ w', Fr No w1 w' → w'.cell? ⟨ge, oe + j * 16, none⟩ = some (.int .u8 z0_e) ∧ w'.cell? ⟨ge, oe + j * 16 + 1, none⟩ = some (.string z_e) ∧ w'.cell? ⟨ge, oe + j * 16 + 2, none⟩ = some (.slice p1_e q1_e r1_e) ∧ w'.cell? ⟨ge, oe + j * 16 + 3, none⟩ = some (.slice p2_e q2_e r2_e) ∧ w'.cell? ⟨ge, oe + j * 16 + 4, none⟩ = some (.slice p3_e q3_e r3_e) ∧ w'.cell? ⟨ge, oe + j * 16 + 5, none⟩ = some (.int .u8 k_e) ∧ w'.cell? ⟨ge, oe + j * 16 + 6, none⟩ = some (.string s_e) ∧ w'.cell? ⟨ge, oe + j * 16 + 7, none⟩ = some (.int .i64 n_e) ∧ w'.cell? ⟨ge, oe + j * 16 + 8, none⟩ = some (.slice b_e m_e cp_e) ∧ w'.cell? ⟨ge, oe + j * 16 + 9, none⟩ = some (.int .u8 k2_e) ∧ w'.cell? ⟨ge, oe + j * 16 + 10, none⟩ = some (.string s2_e) ∧ w'.cell? ⟨ge, oe + j * 16 + 11, none⟩ = some (.int .i64 n2_e) ∧ w'.cell? ⟨ge, oe + j * 16 + 12, none⟩ = some (.string u_e) ∧ w'.cell? ⟨ge, oe + j * 16 + 13, none⟩ = some (.slice b1_e m1_e c1_e) ∧ w'.cell? ⟨ge, oe + j * 16 + 14, none⟩ = some (.slice b2_e m2_e c2_e) ∧ w'.cell? ⟨ge, oe + j * 16 + 15, none⟩ = some (.slice b3_e m3_e c3_e)) := Lib.hid (fun w' hf => by
        skip
        exact ⟨hf.cell (hce 0 _ rfl), hf.cell (hce 1 _ rfl), hf.cell (hce 2 _ rfl), hf.cell (hce 3 _ rfl), hf.cell (hce 4 _ rfl), hf.cell (hce 5 _ rfl), hf.cell (hce 6 _ rfl), hf.cell (hce 7 _ rfl), hf.cell (hce 8 _ rfl), hf.cell (hce 9 _ rfl), hf.cell (hce 10 _ rfl), hf.cell (hce 11 _ rfl), hf.cell (hce 12 _ rfl), hf.cell (hce 13 _ rfl), hf.cell (hce 14 _ rfl), hf.cell (hce 15 _ rfl)⟩)
      clear hce hxe hle ht
      obtain ⟨d0, d1, d2, d3, d4, d5, d6, d7, d8, d9, d10, d11, d12, d13, d14, d15⟩ := HS1.out _ HF.out
      go_wp2_with fail
      clear d0 d1 d2 d3 d4 d5 d6 d7 d8 d9 d10 d11 d12 d13 d14 d15
      refine (HH.out t hmem ok _ _ (HE.out.no HF.out)).mono ?_
      rintro e w6 ⟨rfl, hf⟩
      have HC := Lib.hid hf
      clear hf
      replace HF := Lib.hid (HF.out.then HC.out)
      clear HC
      obtain ⟨m, hm⟩ : ∃ m, dD t = m := ⟨_, rfl⟩
      rw [hm] at HMS ⊢
      clear hm
      go_wp2_with fail
      all_goals
        exact ⟨⟨j + 1, by omega, by go_num, valM HMS.out (by omega), HF⟩, by simp [intOf]; omega⟩
    · skip
      have hd0 : decide (j < N) = false := decide_eq_false hlt
      have HV_l : Hid (M_l = max 0 (mx (l.map dD))) := Lib.hid (by rw [← HM_l.out, mxUp_all _ _ (HN.out.trans (by omega))])
      have hM0_l : 0 ≤ M_l := by rw [HV_l.out]; omega
      clear HM_l
      go_wp2_with fail
      go_ret
      exact ⟨ret_n (by have h0 := mx_nonneg (l.map dD); rw [dProg, HV_l.out]; omega), (by rw [hn]; exact HF.out)⟩
theorem rty_all : ∀ (n : Nat) (t : T), SizeOf.sizeOf t < n → RT t
  | 0, _, h => absurd h (Nat.not_lt_zero _)
  | n + 1, .mk k s m l, h => by
    refine rty_walk k s m l fun t ht => ?_
    have := List.sizeOf_lt_of_mem ht
    simp only [T.mk.sizeOf_spec] at h
    exact rty_all n t (by omega)
theorem r_ty (t : T) : RT t := rty_all _ t (Nat.lt_succ_self _)
theorem rpat_all : ∀ (n : Nat) (t : T), SizeOf.sizeOf t < n → RP t
  | 0, _, h => absurd h (Nat.not_lt_zero _)
  | n + 1, .mk k s m l, h => by
    refine rpat_walk k s m l fun t ht => ?_
    have := List.sizeOf_lt_of_mem ht
    simp only [T.mk.sizeOf_spec] at h
    exact rpat_all n t (by omega)
theorem r_pat (t : T) : RP t := rpat_all _ t (Nat.lt_succ_self _)
theorem rexp_all : ∀ (n : Nat), (∀ t : E, SizeOf.sizeOf t < n → Few (nE t) → RE t) ∧ (∀ t : D, SizeOf.sizeOf t < n → Few (nD t) → RD t)
  | 0 => ⟨fun _ h => absurd h (Nat.not_lt_zero _), fun _ h => absurd h (Nat.not_lt_zero _)⟩
  | n + 1 => by
    obtain ⟨h1, h2⟩ := rexp_all n
    refine ⟨fun t h hs => ?_, fun t h hs => ?_⟩
    · obtain ⟨k, s, m, u, l, r, d⟩ := t
      simp only [E.mk.sizeOf_spec] at h
      simp only [nE] at hs
      refine rexp_walk k s m u l r d (fun t ht => h1 t (by have := List.sizeOf_lt_of_mem ht; omega) (Nat.lt_of_le_of_lt (by have := nEs_mem ht; omega) hs)) (fun t ht => ?_) (fun t ht => h2 t (by have := List.sizeOf_lt_of_mem ht; omega) (Nat.lt_of_le_of_lt (by have := nDs_mem ht; omega) hs))
      have := List.sizeOf_lt_of_mem ht
      have hm := nRs_mem ht
      obtain ⟨p, e⟩ := t
      simp only [R.mk.sizeOf_spec] at this
      simp only [nR] at hm
      exact ⟨r_pat p, h1 e (by omega) (Nat.lt_of_le_of_lt (by omega) hs)⟩
    · obtain ⟨k, s, v, c, f, t, e⟩ := t
      simp only [D.mk.sizeOf_spec] at h
      simp only [nD] at hs
      refine rdec_walk k s v c f t e (fun c _ => r_ty c.ty) (fun t ht => ?_) (r_ty t) (h1 e (by omega) (Nat.lt_of_le_of_lt (by omega) hs)) (dE_le e (Nat.lt_of_le_of_lt (by omega) hs)).1
      have := List.sizeOf_lt_of_mem ht
      have hm := nFs_mem ht
      obtain ⟨s, a, e⟩ := t
      simp only [F.mk.sizeOf_spec] at this
      simp only [nF] at hm
      exact h1 e (by omega) (Nat.lt_of_le_of_lt (by omega) hs)
/-- the document's Depth tells the same -/
theorem rdepth_any {ok : Nat → Prop} {w : World} {l : List D} {v : Value} (hx : Hx ok w (.row 16 (l.map xD)) v) (hs : Few (nDs l)) : Calls Tryz.prog 17 #[v] w (IntE (dProg l) w) :=
  rdepth_walk l (fun t ht => (rexp_all _).2 t (Nat.lt_succ_self _) (Nat.lt_of_le_of_lt (nDs_mem ht) hs)) ok w v hx
end Go.Proofs.YtjabhmepafofmaaGreatDoor
