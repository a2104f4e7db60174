/- The methods of the program's set: Size, Has, Set, Clear, at a set and at none. -/
import Derived.Test.YtdbfmckikmddcaaDoorWb
namespace Go.Proofs.YtdbfmckikmddcaaDoor
open Go.RowKit

set_option maxHeartbeats 400000 in
theorem new_bad (n : Int) (w : World) (hn : n < 0 ∨ 65536 < n) :
    Calls Tryd.prog 14 #[.int .i64 n] w fun e w' => e = .returned (.tuple #[.pointer none, .int .i64 1]) ∧ w = w' := by
  by_cases h0 : n < 0
  · clear hn
    go_enter Tryd.func14, Tryd.ntmps14
    go_wp2
    go_ret2
    exact ⟨rfl, rfl⟩
  · have h1 : 65536 < n := by omega
    clear hn
    go_enter Tryd.func14, Tryd.ntmps14
    go_wp2
    go_ret2
    exact ⟨rfl, rfl⟩

theorem size_any (b c n : Nat) (f : Nat → Bool) (w : World) (h : IsBits w b c n f) :
    Calls Tryd.prog 23 #[.pointer (some ⟨b, 0, none⟩)] w fun e w' => e = .returned (.int .i64 n) ∧ w = w' := by
  obtain ⟨k, hk, h1⟩ := h.head
  have hc : w.cell? ⟨b, 0, none⟩ = some (.int .i64 n) := by rw [cell_of h1]; rfl
  clear h h1
  go_enter Tryd.func23, Tryd.ntmps23
  go_wp2
  go_ret
  exact ⟨rfl, rfl⟩
theorem size_nil (w : World) : Calls Tryd.prog 23 #[.pointer none] w fun e w' => e = .returned (.int .i64 0) ∧ w = w' := by
  go_enter Tryd.func23, Tryd.ntmps23
  go_wp2
  go_ret
  exact ⟨rfl, rfl⟩
theorem at_nil (i : Int) (g : Value) (w : World) :
    Calls Tryd.prog 27 #[.pointer none, .int .i64 i, g] w fun e w' => e = .returned (.bool false) ∧ w = w' := by
  by_cases h0 : i < 0
  · go_enter Tryd.func27, Tryd.ntmps27
    go_wp2
    go_ret
    exact ⟨rfl, rfl⟩
  · have h1 : 0 ≤ i := by omega
    clear h0
    go_enter Tryd.func27, Tryd.ntmps27
    go_wp2
    go_ret
    exact ⟨rfl, rfl⟩

/-- a method that hands its number on -/
theorem has_of (p : Value) (i : Value) (v : Bool) (w w2 : World) (h : Hid (Calls Tryd.prog 27 #[p, i, .func (.func 28) #[] #[]] w fun e w' => e = .returned (.bool v) ∧ w2 = w')) :
    Calls Tryd.prog 12 #[p, i] w fun e w' => e = .returned (.bool v) ∧ w2 = w' := by
  go_enter Tryd.func12, Tryd.ntmps12
  go_wp2_with (refine h.out.mono ?_; rintro e w' ⟨rfl, rfl⟩)
  go_ret
  exact ⟨rfl, rfl⟩
theorem clear_of (p i : Value) (v : Bool) (w w2 : World) (h : Hid (Calls Tryd.prog 27 #[p, i, .func (.func 29) #[] #[]] w fun e w' => e = .returned (.bool v) ∧ w2 = w')) :
    Calls Tryd.prog 15 #[p, i] w fun e w' => e = .returned (.bool v) ∧ w2 = w' := by
  go_enter Tryd.func15, Tryd.ntmps15
  go_wp2_with (refine h.out.mono ?_; rintro e w' ⟨rfl, rfl⟩)
  go_ret
  exact ⟨rfl, rfl⟩
theorem set_of (p i : Value) (v : Bool) (w w2 : World) (h : Hid (Calls Tryd.prog 27 #[p, i, .func (.func 30) #[] #[]] w fun e w' => e = .returned (.bool v) ∧ w2 = w')) :
    Calls Tryd.prog 16 #[p, i] w fun e w' => e = .returned (.bool v) ∧ w2 = w' := by
  go_enter Tryd.func16, Tryd.ntmps16
  go_wp2_with (refine h.out.mono ?_; rintro e w' ⟨rfl, rfl⟩)
  go_ret
  exact ⟨rfl, rfl⟩

theorem pow64 (j : Nat) : 2 ^ (j % 64) < 18446744073709551616 := Nat.pow_lt_pow_right (a := 2) (m := j % 64) (n := 64) (by omega) (by omega)
theorem drew_block (w : World) (k : Nat) : w.drew.heap[k]? = w.heap[k]? := rfl
theorem IsBits.cells {w : World} {b c n : Nat} {f : Nat → Bool} (h : IsBits w b c n f) : ∃ k, w.cell? ⟨b, 0, none⟩ = some (.int .i64 n) ∧ w.cell? ⟨b, 1, none⟩ = some (.slice (some ⟨c, 0, none⟩) ((n + 63) / 64 : Nat) k) ∧ (n + 63) / 64 ≤ k := by
  obtain ⟨k, hk, h1⟩ := h.head
  exact ⟨k, by rw [cell_of h1]; rfl, by rw [cell_of h1]; rfl, hk⟩
theorem IsBits.word {w : World} {b c n : Nat} {f : Nat → Bool} (h : IsBits w b c n f) {q : Nat} (hq : q < (n + 63) / 64) : w.cell? ⟨c, q, none⟩ = some (.int .u64 (Plain.W f q)) ∧ w.frozen? ⟨c, q, none⟩ = false := by
  obtain ⟨arr, h2, h3⟩ := h.words
  exact ⟨by rw [cell_of h2]; exact h3 q hq, free_of h2 q⟩
theorem IsBits.drew {w : World} {b c n : Nat} {f : Nat → Bool} (h : IsBits w b c n f) : IsBits w.drew b c n f := h.keep (Fr.drew w) (fun x => x) (fun x => x)

/-- which numbers are in behind a Set, a Clear -/
def setF (n : Nat) (f : Nat → Bool) (i : Int) : Nat → Bool := if 0 ≤ i ∧ i < n then Plain.upd f i.toNat true else f
def clrF (n : Nat) (f : Nat → Bool) (i : Int) : Nat → Bool := if 0 ≤ i ∧ i < n then Plain.upd f i.toNat false else f

theorem mem_out {n : Nat} {f : Nat → Bool} {i : Int} (h : i < 0 ∨ (n : Int) ≤ i) : mem n f i = false := by
  unfold mem
  rcases h with h | h
  · simp [Int.not_le.2 h]
  · simp [Int.not_lt.2 h]
theorem mem_in {n : Nat} {f : Nat → Bool} {i : Nat} (h : i < n) : mem n f i = f i := by
  simp [mem, h]

theorem has_any (b c n : Nat) (f : Nat → Bool) (i : Int) (w : World) (h : IsBits w b c n f) :
    Calls Tryd.prog 12 #[.pointer (some ⟨b, 0, none⟩), .int .i64 i] w fun e w' => e = .returned (.bool (mem n f i)) ∧ Fr No w w' := by
  obtain ⟨k, c0, c1, hk⟩ := h.cells
  by_cases hi : i < 0 ∨ (n : Int) ≤ i
  · refine (has_of _ _ false w w (Lib.hid (at_out b n i _ w hi c0))).mono fun e w' ⟨he, hw⟩ => ?_
    subst hw
    exact ⟨by rw [mem_out hi]; exact he, Fr.refl _ _⟩
  · obtain ⟨j, rfl⟩ := Int.eq_ofNat_of_zero_le (show 0 ≤ i by omega)
    have hj : j < n := by omega
    have hq : j / 64 < (n + 63) / 64 := by omega
    have hp := pow64 j
    have hs := h.small
    have hw := (h.drew.word hq).1
    refine (has_of _ _ _ w w.drew (Lib.hid (at_in b c _ k n j _ _ _ 28 w w.drew _ hj rfl rfl rfl hs hq c0 c1 enters28 (Lib.hid (has1_any _ _ _ _ (Plain.W_lt _ _) hp hw))))).mono fun e w' ⟨he, hw⟩ => ?_
    subst hw
    refine ⟨?_, Fr.drew _⟩
    rw [he, mem_in hj]
    congr 2
    cases hf : f j
    · rw [(Plain.bit_test f j).2 hf]; rfl
    · have : ¬ Plain.W f (j / 64) &&& 2 ^ (j % 64) = 0 := fun e => by rw [(Plain.bit_test f j).1 e] at hf; cases hf
      simp [this]

theorem ne_iff_same (f : Nat → Bool) (j : Nat) (v : Bool) : (((Plain.W f (j / 64) : Nat) : Int) != ((Plain.W (Plain.upd f j v) (j / 64) : Nat) : Int)) = (f j != v) := by
  cases hv : f j == v
  · have h1 : f j ≠ v := by simpa using hv
    have h2 : Plain.W f (j / 64) ≠ Plain.W (Plain.upd f j v) (j / 64) := fun e => by
      have := congrArg (·.testBit (j % 64)) e
      simp only [Plain.testBit_W] at this
      have e1 : 64 * (j / 64) + j % 64 = j := by omega
      have e2 : j % 64 < 64 := by omega
      simp [e1, e2, Plain.upd] at this
      exact h1 this
    have h3 : ((Plain.W f (j / 64) : Nat) : Int) ≠ ((Plain.W (Plain.upd f j v) (j / 64) : Nat) : Int) := by omega
    rw [bne_iff_ne.2 h3, bne_iff_ne.2 h1]
  · have h1 : f j = v := by simpa using hv
    have h2 : Plain.upd f j v = f := by funext q; unfold Plain.upd; split <;> simp_all
    rw [h2, h1]; simp

theorem set_any (b c n : Nat) (f : Nat → Bool) (i : Int) (w : World) (h : IsBits w b c n f) :
    Calls Tryd.prog 16 #[.pointer (some ⟨b, 0, none⟩), .int .i64 i] w fun e w' => e = .returned (.bool (decide (0 ≤ i) && decide (i < n) && !f i.toNat)) ∧ Fr (Just c) w w' ∧ IsBits w' b c n (setF n f i) := by
  obtain ⟨k, c0, c1, hk⟩ := h.cells
  by_cases hi : i < 0 ∨ (n : Int) ≤ i
  · refine (set_of _ _ false w w (Lib.hid (at_out b n i _ w hi c0))).mono fun e w' ⟨he, hw⟩ => ?_
    subst hw
    refine ⟨?_, Fr.refl _ _, ?_⟩
    · rw [he]
      rcases hi with hi | hi
      · simp [Int.not_le.2 hi]
      · simp [Int.not_lt.2 hi]
    · unfold setF; rw [if_neg (by omega)]; exact h
  · obtain ⟨j, rfl⟩ := Int.eq_ofNat_of_zero_le (show 0 ≤ i by omega)
    have hj : j < n := by omega
    have hq : j / 64 < (n + 63) / 64 := by omega
    have hp := pow64 j
    have hs := h.small
    have hw := h.drew.word hq
    have hput := h.drew.put j hj true
    have e1 : Plain.W f (j / 64) ||| 2 ^ (j % 64) = Plain.W (Plain.upd f j true) (j / 64) := by rw [Plain.W_set, if_pos rfl]
    have h1 := set1_any _ _ _ _ (Plain.W_lt _ _) hp hw.1 hw.2
    rw [e1] at h1
    refine (set_of _ _ _ w _ (Lib.hid (at_in b c _ k n j _ _ _ 30 w _ _ hj rfl rfl rfl hs hq c0 c1 enters30 (Lib.hid h1)))).mono fun e w' ⟨he, hw⟩ => ?_
    subst hw
    refine ⟨?_, ?_, ?_⟩
    · rw [he, ne_iff_same]
      simp [hj]
    · exact ((Fr.drew w).mono (fun _ _ h => h.elim)).trans (Fr.setCell _ _ _) (fun _ _ h => h)
    · unfold setF; rw [if_pos (by omega)]; exact hput

theorem clear_any (b c n : Nat) (f : Nat → Bool) (i : Int) (w : World) (h : IsBits w b c n f) :
    Calls Tryd.prog 15 #[.pointer (some ⟨b, 0, none⟩), .int .i64 i] w fun e w' => e = .returned (.bool (mem n f i)) ∧ Fr (Just c) w w' ∧ IsBits w' b c n (clrF n f i) := by
  obtain ⟨k, c0, c1, hk⟩ := h.cells
  by_cases hi : i < 0 ∨ (n : Int) ≤ i
  · refine (clear_of _ _ false w w (Lib.hid (at_out b n i _ w hi c0))).mono fun e w' ⟨he, hw⟩ => ?_
    subst hw
    refine ⟨?_, Fr.refl _ _, ?_⟩
    · rw [he, mem_out hi]
    · unfold clrF; rw [if_neg (by omega)]; exact h
  · obtain ⟨j, rfl⟩ := Int.eq_ofNat_of_zero_le (show 0 ≤ i by omega)
    have hj : j < n := by omega
    have hq : j / 64 < (n + 63) / 64 := by omega
    have hp := pow64 j
    have hs := h.small
    have hw := h.drew.word hq
    have hput := h.drew.put j hj false
    have e1 : Plain.W f (j / 64) &&& (18446744073709551615 - 2 ^ (j % 64)) = Plain.W (Plain.upd f j false) (j / 64) := by rw [Plain.W_clear, if_pos rfl]
    have h1 := clear1_any _ _ _ _ (Plain.W_lt _ _) hp hw.1 hw.2
    rw [e1] at h1
    refine (clear_of _ _ _ w _ (Lib.hid (at_in b c _ k n j _ _ _ 29 w _ _ hj rfl rfl rfl hs hq c0 c1 enters29 (Lib.hid h1)))).mono fun e w' ⟨he, hw⟩ => ?_
    subst hw
    refine ⟨?_, ?_, ?_⟩
    · rw [he, ne_iff_same, mem_in hj]
      simp
    · exact ((Fr.drew w).mono (fun _ _ h => h.elim)).trans (Fr.setCell _ _ _) (fun _ _ h => h)
    · unfold clrF; rw [if_pos (by omega)]; exact hput
end Go.Proofs.YtdbfmckikmddcaaDoor
