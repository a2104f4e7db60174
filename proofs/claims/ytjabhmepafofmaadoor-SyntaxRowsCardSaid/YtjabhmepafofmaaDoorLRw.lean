/- SyntaxRows: the walk. -/
import Derived.Test.YtjabhmepafofmaaDoorLRp
import Derived.Test.YtjabhmepafofmaaDoorG24
set_option linter.unusedVariables false
set_option linter.unusedSimpArgs false
namespace Go.Proofs.YtjabhmepafofmaaDoor
open Go.RowKit

set_option maxHeartbeats 4000000 in
set_option maxRecDepth 100000 in
theorem rows_any (x0 x1 x2 : Nat) (h0 : x0 ≤ 255) (h1 : x1 ≤ 255) (h2 : x2 ≤ 255) (w : World) (hLV : Hid (LV w)) : Calls Tryd.prog 3 #[.int .u8 x0, .int .u8 x1, .int .u8 x2] w (Yes w) := by
  obtain ⟨i, hi⟩ : ∃ i, x0 % 6 = i := ⟨_, rfl⟩
  obtain ⟨j, hj⟩ : ∃ j, x1 % 6 = j := ⟨_, rfl⟩
  obtain ⟨k, hk⟩ : ∃ k, x2 % 5 = k := ⟨_, rfl⟩
  have hi6 : i < 6 := by omega
  have hj6 : j < 6 := by omega
  have hk5 : k < 5 := by omega
  have hri : (x0 : Int) % 6 = (i : Int) := by omega
  have hrj : (x1 : Int) % 6 = (j : Int) := by omega
  have hrk : (x2 : Int) % 5 = (k : Int) := by omega
  clear hi hj hk
  have HPAR : Hid (∀ (l : List UInt8) (r : Re (List D)), l.length ≤ 1000 → progR (toks l) (gram 60) 4 [] 0 = r → r ≠ .out → small (toks l) = true → ∃ n : Nat, (∀ s : ByteArray, s = Sc.mk l → ∀ u, Calls Tryd.prog 10 #[.string s] u fun e w' => Fr No u w' ∧ ∃ a c, e = .returned (.slice a n c) ∧ TokAt w' a (toks l)) ∧
      ∀ (a : Option Addr) (c : Nat) (u : World), LV u → TokAt u a (toks l) → Calls Tryd.prog 9 #[.slice a n c] u (ParseR u r)) := Lib.hid (fun l r hl hr ho hs => by
    refine ⟨(toks l).length, fun s he u => (tokens_any l s (Lib.hid he) _ (Lib.hid rfl) (by omega) u).mono fun e w' h => ?_, fun a c u hu ht => ?_⟩
    · obtain ⟨hf, a, c, he, ho⟩ := h
      exact ⟨hf, a, c, he, ho.at_⟩
    · have hs : (toks l).length ≤ 100 := by simpa [small] using hs
      rw [← hr] at ho ⊢
      exact parse_any 60 4 (fun gp hg => ⟨ht.row gp hg, hu gp hg⟩) (by omega) ho)
  obtain ⟨hA, hB, hC⟩ := rows_chk hk5 hi6 hj6
  simp only [chkA, chkB, chkC, Bool.and_eq_true] at hA hB hC
  have lk := rwPre_len k
  have li := rwOp_len i
  have lj := rwOp_len j
  obtain ⟨nA, TA, PA⟩ := HPAR.out (rwA k i j) _ (by simp [rwA]; omega) (isFail_eq hA.1) (fun e => by cases e) hA.2
  obtain ⟨nB, TB, PB⟩ := HPAR.out (rwB k) _ (by simp [rwB]; omega) (isFail_eq hB.1) (fun e => by cases e) hB.2
  obtain ⟨k1, s1, v1, c1, f1, t1, k2, n2, u2, l2, r2, d2, q2, hCe, hCd⟩ := isOne_eq hC.1
  obtain ⟨nC, TC, PC⟩ := HPAR.out (rwC k i) _ (by simp [rwC]; omega) hCe (fun e => by cases e) hC.2
  have HTA := Lib.hid TA
  have HPA := Lib.hid PA
  have HTB := Lib.hid TB
  have HPB := Lib.hid PB
  have HTC := Lib.hid TC
  have HPC := Lib.hid PC
  have HCD := Lib.hid hCd
  clear HPAR hA hB hC TA TB TC PA PB PC hCe hCd
  go_enter Tryd.func3, Tryd.ntmps3
  go_upto_region 2 with fail
  obtain ⟨w1, hn⟩ : ∃ wZ, w.alloc (.cells #[.string ⟨#[60]⟩, .string ⟨#[60, 61]⟩, .string ⟨#[62]⟩, .string ⟨#[62, 61]⟩, .string ⟨#[61]⟩, .string ⟨#[60, 62]⟩] 9) = wZ := ⟨_, rfl⟩
  obtain ⟨g, hg⟩ : ∃ gZ, w.heap.size = gZ := ⟨_, rfl⟩
  rw [hn, hg]
  have R : w1.heap[g]? = some (.cells #[.string ⟨#[60]⟩, .string ⟨#[60, 61]⟩, .string ⟨#[62]⟩, .string ⟨#[62, 61]⟩, .string ⟨#[61]⟩, .string ⟨#[60, 62]⟩] 9 (0, 0)) := by rw [← hn, ← hg]; exact new_block _ _
  have HF : Hid (Fr No w w1) := Lib.hid (by rw [← hn]; exact Fr.alloc _ _)
  have di : w1.cell? ⟨g, i, none⟩ = some (.string (Sc.mk (rwOp i))) := by rw [cell_of R]; exact rw_cell i hi6
  have dj : w1.cell? ⟨g, j, none⟩ = some (.string (Sc.mk (rwOp j))) := by rw [cell_of R]; exact rw_cell j hj6
  clear hn hg R
  have i0 : (0 : Int) ≤ (i : Int) := by omega
  have i1 : (i : Int) < 6 := by omega
  have j0 : (0 : Int) ≤ (j : Int) := by omega
  have j1 : (j : Int) < 6 := by omega
  go_wp2_with fail
  clear di dj
  go_loopw [10, 11] (fun s v wr => wr = w1 ∧ ∃ q : Nat, q ≤ k ∧ v = .int .i64 (q : Nat) ∧ s = .string (Sc.mk (rwPre q))) (fun _ v _ => k - intOf v)
  case atStart => exact ⟨rfl, 0, Nat.zero_le _, rfl, rfl⟩
  case round =>
    obtain ⟨rfl, q, hq, rfl, rfl⟩ := hrel
    by_cases hlt : q < k
    · have hd0 : decide (q < k) = true := decide_eq_true hlt
      have hsz : (Sc.mk (rwPre q)).size = 4 * q + 4 := by rw [Sc.mk_size, rwPre_len]
      have g1 : ¬ 9223372036854775807 < (Sc.mk (rwPre q)).size + 4 := by omega
      have hq0 : (0 : Int) ≤ (q : Int) := by omega
      clear hsz
      go_wp2_with fail
      exact ⟨⟨trivial, q + 1, by omega, by go_num, by simp only [rwPre, ← mk_append]; rfl⟩, by simp [intOf]; omega⟩
    · have hd0 : decide (q < k) = false := decide_eq_false hlt
      obtain rfl : q = k := by omega
      clear hlt
      have hk0 : (0 : Int) ≤ (q : Int) := by omega
      have hk1 : (q : Int) ≤ 4 := by omega
      have hsz : (Sc.mk (rwPre q)).size = 4 * q + 4 := by rw [Sc.mk_size, rwPre_len]
      have hsi : (Sc.mk (rwOp i)).size ≤ 2 := by rw [Sc.mk_size]; exact li
      have hsj : (Sc.mk (rwOp j)).size ≤ 2 := by rw [Sc.mk_size]; exact lj
      have g0 : ¬ 9223372036854775807 < (Sc.mk (rwPre q)).size + 1 := by omega
      have g1 : ¬ 9223372036854775807 < (Sc.mk (rwPre q)).size + 1 + (Sc.mk (rwOp i)).size := by omega
      have g2 : ¬ 9223372036854775807 < (Sc.mk (rwPre q)).size + 1 + (Sc.mk (rwOp i)).size + 3 := by omega
      have g3 : ¬ 9223372036854775807 < (Sc.mk (rwPre q)).size + 1 + (Sc.mk (rwOp i)).size + 3 + (Sc.mk (rwOp j)).size := by omega
      have g4 : ¬ 9223372036854775807 < (Sc.mk (rwPre q)).size + 1 + (Sc.mk (rwOp i)).size + 3 + (Sc.mk (rwOp j)).size + 3 := by omega
      have g5 : ¬ 9223372036854775807 < (Sc.mk (rwPre q)).size + 11 := by omega
      have g6 : ¬ 9223372036854775807 < (Sc.mk (rwPre q)).size + 13 := by omega
      have g7 : ¬ 9223372036854775807 < (Sc.mk (rwPre q)).size + 13 + (Sc.mk (rwOp i)).size := by omega
      have g8 : ¬ 9223372036854775807 < (Sc.mk (rwPre q)).size + 13 + (Sc.mk (rwOp i)).size + 5 := by omega
      clear hsz hsi hsj li lj lk
      go_wp2_with fail
      refine (HTA.out _ (by simp only [rwA, ← mk_append]; rfl) _).mono ?_
      rintro e w2 ⟨hf, a1, c1', rfl, ht⟩
      have HF2 := Lib.hid (HF.out.then hf)
      have HT2 := Lib.hid ht
      clear hf ht
      go_wp2_with fail
      refine (HPA.out a1 c1' w2 (hLV.out.no HF2.out) HT2.out).mono ?_
      intro e w3 h
      simp only [ParseR] at h
      obtain ⟨rfl, hf⟩ := h
      have HF3 := Lib.hid (HF2.out.then hf)
      clear hf HT2 HF2
      go_wp2_with fail
      refine (HTB.out _ (by simp only [rwB, ← mk_append]; rfl) _).mono ?_
      rintro e w4 ⟨hf, a2, c2', rfl, ht⟩
      have HF4 := Lib.hid (HF3.out.then hf)
      have HT4 := Lib.hid ht
      clear hf ht HF3
      go_wp2_with fail
      refine (HPB.out a2 c2' w4 (hLV.out.no HF4.out) HT4.out).mono ?_
      intro e w5 h
      simp only [ParseR] at h
      obtain ⟨rfl, hf⟩ := h
      have HF5 := Lib.hid (HF4.out.then hf)
      clear hf HT4 HF4
      go_wp2_with fail
      refine (HTC.out _ (by simp only [rwC, ← mk_append]; rfl) _).mono ?_
      rintro e w6 ⟨hf, a3, c3', rfl, ht⟩
      have HF6 := Lib.hid (HF5.out.then hf)
      have HT6 := Lib.hid ht
      clear hf ht HF5
      go_wp2_with fail
      refine (HPC.out a3 c3' w6 (hLV.out.no HF6.out) HT6.out).mono ?_
      intro e w7 h
      simp only [ParseR] at h
      obtain ⟨hf, h⟩ := h
      rw [if_neg (by have := HCD.out; omega)] at h
      obtain ⟨v, rfl, hx⟩ := h
      obtain ⟨av, cv, rfl⟩ := hx_slice hx
      have hx : Hx (fun b => w6.heap.size ≤ b) w7 (.row 16 [xD (.mk k1 s1 v1 c1 f1 t1 (.mk k2 ⟨#[58, 61]⟩ n2 u2 l2 r2 d2))]) (.slice av 1 cv) := hx
      simp only [List.map_cons, List.map_nil, List.length_cons, List.length_nil, Nat.zero_add]
      have HF7 := Lib.hid (HF6.out.then hf)
      clear hf HT6 HF6
      obtain ⟨ge, oe, cc, eav, _, _, hc1, hx1⟩ := hx_at hx (j := 0) rfl
      subst eav
      obtain ⟨_, _, _, _, _, _, ct, ce, rfl, _, _, _, hct, hce⟩ := hcD_parts hx1
      obtain ⟨k9, s9, n9, b9, m9, cp9, rfl⟩ := hcT hct
      obtain ⟨_, _, _, _, _, _, rfl, _, _, _⟩ := hcE_parts hce
      have e0 : w7.cell? ⟨ge, oe + 9 + 1, none⟩ = some (.string ⟨#[58, 61]⟩) := by
        have h := hc1 10 _ rfl
        rw [show oe + 0 * 16 + 10 = oe + 9 + 1 by omega] at h
        exact h
      clear hx hc1 hx1 hct hce
      go_wp2_with fail
      refine (works_any _ (hLV.out.no HF7.out)).mono ?_
      rintro e w8 ⟨rfl, hf⟩
      have HF8 := Lib.hid (HF7.out.then hf)
      clear hf e0
      go_wp2_with fail
      go_ret
      exact ⟨rfl, HF8.out⟩
end Go.Proofs.YtjabhmepafofmaaDoor
