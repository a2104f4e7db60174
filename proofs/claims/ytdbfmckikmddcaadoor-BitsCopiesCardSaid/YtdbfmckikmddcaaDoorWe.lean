/- Count and Low of the program's set. -/
import Derived.Test.YtdbfmckikmddcaaDoorWd
namespace Go.Proofs.YtdbfmckikmddcaaDoor
open Go.RowKit

/-- the words of a set, as the loops read them -/
theorem cnt_words (f : Nat → Bool) (k : Nat) : Plain.cnt f (64 * (k + 1)) = Plain.cnt f (64 * k) + Plain.pop (Plain.W f k) 64 := Plain.pop_W f k

set_option maxHeartbeats 400000 in
theorem count_walk (b c l k : Nat) (f : Nat → Bool) (w : World) (hl : l ≤ 1024) (hlk : l ≤ k) (c1 : w.cell? ⟨b, 1, none⟩ = some (.slice (some ⟨c, 0, none⟩) l k))
    (hw : Hid (∀ q, q < l → w.cell? ⟨c, q, none⟩ = some (.int .u64 (Plain.W f q)))) :
    Calls Tryd.prog 17 #[.pointer (some ⟨b, 0, none⟩)] w fun e w' => e = .returned (.int .i64 (Plain.cnt f (64 * l))) ∧ w = w' := by
  go_enter Tryd.func17, Tryd.ntmps17
  go_wp2_with fail
  go_loop [3, 14] (fun t i => ∃ q : Nat, q ≤ l ∧ i = .int .i64 q ∧ t = .int .i64 (Plain.cnt f (64 * q))) (fun _ i => l - (intOf i).toNat)
  case atStart => exact ⟨0, Nat.zero_le _, rfl, rfl⟩
  case round =>
    obtain ⟨q, hq, rfl, rfl⟩ := hrel
    have b1 := Plain.cnt_le f (64 * q)
    by_cases hlt : q < l
    · have hc := hw.out q hlt
      have hp := Plain.pop_le (Plain.W f q) 64
      have HS : Hid (Plain.cnt f (64 * (q + 1)) = Plain.cnt f (64 * q) + Plain.pop (Plain.W f q) 64) := cnt_words f q
      go_wp2_with (go_at_call 31; refine (ones_any _ _ (Plain.W_lt _ _)).mono ?_; rintro e w' ⟨rfl, rfl⟩)
      go_round
      case rel => exact ⟨q + 1, by omega, by go_num, by rw [HS.out]; go_num⟩
      case measure => simp [intOf]; omega
    · go_wp2_with fail
      have e : q = l := by omega
      subst e
      go_ret
      exact ⟨rfl, rfl⟩

theorem cnt_top {f : Nat → Bool} {n : Nat} (h : ∀ j, n ≤ j → f j = false) (m : Nat) (hm : n ≤ m) : Plain.cnt f m = Plain.cnt f n := by
  obtain ⟨d, rfl⟩ := Nat.exists_eq_add_of_le hm
  have e : Plain.cnt (fun j => f (n + j)) d = 0 := by
    rw [Plain.cnt_congr (g := fun _ => false) (fun j _ => h (n + j) (by omega)), Plain.cnt_none]
  rw [Plain.cnt_add, e]
  rfl
theorem count_any (b c n : Nat) (f : Nat → Bool) (w : World) (h : IsBits w b c n f) :
    Calls Tryd.prog 17 #[.pointer (some ⟨b, 0, none⟩)] w fun e w' => e = .returned (.int .i64 (Plain.cnt f n)) ∧ w = w' := by
  obtain ⟨k, c0, c1, hk⟩ := h.cells
  have hs := h.small
  rw [← cnt_top h.top (64 * ((n + 63) / 64)) (by omega)]
  exact count_walk b c _ k f w (by omega) hk c1 (Lib.hid fun q hq => (h.word hq).1)
theorem count_nil (w : World) : Calls Tryd.prog 17 #[.pointer none] w fun e w' => e = .returned (.int .i64 0) ∧ w = w' := by
  go_enter Tryd.func17, Tryd.ntmps17
  go_wp2
  go_ret
  exact ⟨rfl, rfl⟩
theorem low_nil (w : World) : Calls Tryd.prog 18 #[.pointer none] w fun e w' => e = .returned (.tuple #[.int .i64 0, .bool false]) ∧ w = w' := by
  go_enter Tryd.func18, Tryd.ntmps18
  go_wp2
  go_ret2
  exact ⟨rfl, rfl⟩

/-- the lowest that is not in, if there is one -/
def LowIs (n : Nat) (f : Nat → Bool) (i : Nat) (v : Bool) : Prop := (v = true ∧ i < n ∧ f i = false ∧ ∀ j, j < i → f j = true) ∨ (v = false ∧ i = 0 ∧ ∀ j, j < n → f j = true)
def LowSaid (n : Nat) (f : Nat → Bool) (e : Ending) : Prop := ∃ (i : Nat) (v : Bool), e = .returned (.tuple #[.int .i64 i, .bool v]) ∧ LowIs n f i v

theorem not_u64 (a : Nat) (ha : a < 18446744073709551616) : bits .xor .u64 IntKind.u64.max (a : Int) = ((18446744073709551615 - a : Nat) : Int) := by
  have e : IntKind.u64.max = ((18446744073709551615 : Nat) : Int) := by decide
  rw [e, bits_xor_u64_nat _ _ (by omega) ha]
  congr 1
  apply Nat.eq_of_testBit_eq
  intro i
  have e2 : 18446744073709551615 - a = 2 ^ 64 - (a + 1) := by omega
  rw [e2, Nat.testBit_two_pow_sub_succ ha, Nat.testBit_xor, show (18446744073709551615 : Nat) = 2 ^ 64 - 1 by rfl, Nat.testBit_two_pow_sub_one]
  by_cases hi : i < 64
  · simp [hi]
  · have : a.testBit i = false := Nat.testBit_lt_two_pow (Nat.lt_of_lt_of_le ha (by have := Nat.pow_le_pow_right (n := 2) (by omega) (show 64 ≤ i by omega); omega))
    simp [hi, this]
theorem not_bit (f : Nat → Bool) (q j : Nat) : (18446744073709551615 - Plain.W f q).testBit j = (decide (j < 64) && !f (64 * q + j)) := by
  have e2 : 18446744073709551615 - Plain.W f q = 2 ^ 64 - (Plain.W f q + 1) := by have := Plain.W_lt f q; omega
  rw [e2, Nat.testBit_two_pow_sub_succ (Plain.W_lt f q), Plain.testBit_W]
  by_cases hi : j < 64 <;> simp [hi]

/-- up to the lowest bit of a word that is not in all are in -/
theorem all_below {n : Nat} {f : Nat → Bool} {q y p : Nat} (hy : ∀ j, y.testBit j = (decide (j < 64) && !f (64 * q + j))) (hp : p ≤ 64) (hl : ∀ j, j < p → y.testBit j = false) (hlow : ∀ j, j < 64 * q → j < n → f j = true) :
    ∀ j, j < 64 * q + p → j < n → f j = true := by
  intro j hj hjn
  by_cases hj2 : j < 64 * q
  · exact hlow j hj2 hjn
  · have h1 := hy (j - 64 * q)
    rw [hl _ (by omega), show 64 * q + (j - 64 * q) = j by omega] at h1
    have : j - 64 * q < 64 := by omega
    simpa [this] using h1.symm
theorem hit {f : Nat → Bool} {q y p : Nat} (hy : ∀ j, y.testBit j = (decide (j < 64) && !f (64 * q + j))) (hp : p < 64) (hb : y.testBit p = true) : f (64 * q + p) = false := by
  have h1 := hy p
  rw [hb] at h1
  simpa [hp] using h1.symm
theorem found {n : Nat} {f : Nat → Bool} {q y p : Nat} (hy : ∀ j, y.testBit j = (decide (j < 64) && !f (64 * q + j))) (hp : p < 64) (hb : y.testBit p = true) (hl : ∀ j, j < p → y.testBit j = false) (hlow : ∀ j, j < 64 * q → j < n → f j = true) (hi : q * 64 + p < n) :
    LowSaid n f (.returned (.tuple #[.int .i64 ((q : Int) * 64 + (p : Int)), .bool true])) := by
  have e : (q : Int) * 64 + (p : Int) = ((64 * q + p : Nat) : Int) := by omega
  rw [e]
  exact ⟨_, _, rfl, .inl ⟨rfl, by omega, hit hy hp hb, fun j hj => all_below hy (by omega) hl hlow j hj (by omega)⟩⟩

set_option maxHeartbeats 1000000 in
theorem low_walk (b c n l k : Nat) (f : Nat → Bool) (w : World) (hn : n ≤ 65536) (hl : l ≤ 1024) (hnl : n ≤ 64 * l) (_hlk : l ≤ k) (c0 : w.cell? ⟨b, 0, none⟩ = some (.int .i64 n)) (c1 : w.cell? ⟨b, 1, none⟩ = some (.slice (some ⟨c, 0, none⟩) l k))
    (hw : Hid (∀ q, q < l → w.cell? ⟨c, q, none⟩ = some (.int .u64 (Plain.W f q)))) (hT : Hid (Table w)) :
    Calls Tryd.prog 18 #[.pointer (some ⟨b, 0, none⟩)] w fun e w' => LowSaid n f e ∧ w = w' := by
  go_enter Tryd.func18, Tryd.ntmps18
  go_wp2_with fail
  go_loop [13] (fun i => ∃ q : Nat, q ≤ l ∧ i = .int .i64 q ∧ Hid (∀ j, j < 64 * q → j < n → f j = true)) (fun i => l - (intOf i).toNat)
  case atStart => exact ⟨0, Nat.zero_le _, rfl, Lib.hid (fun _ h => by omega)⟩
  case round =>
    obtain ⟨q, hq, rfl, hlow⟩ := hrel
    by_cases hlt : q < l
    · have hc := hw.out q hlt
      have hx := not_u64 _ (Plain.W_lt f q)
      have hy64 : 18446744073709551615 - Plain.W f q < 18446744073709551616 := by omega
      have hy := Lib.hid (not_bit f q)
      generalize 18446744073709551615 - Plain.W f q = y at hx hy hy64
      have HY := Lib.hid hy64
      clear hy64
      by_cases h0 : y = 0
      · subst h0
        have hz : IntKind.u64.signed = false := rfl
        go_wp2_with (go_at_call 32; refine (tz_zero _).mono ?_; rintro e w' ⟨rfl, rfl⟩)
        go_round
        case rel =>
          exact ⟨q + 1, by omega, by go_num, Lib.hid fun j hj hjn => all_below hy.out (Nat.le_refl 64) (fun _ _ => by simp) hlow.out j (by omega) hjn⟩
        case measure => simp [intOf]; omega
      · have hne : ((y : Int) != 0) = true := by rw [bne_iff_ne]; omega
        obtain ⟨p, hp, hpb, hpl, htz⟩ := tz_any y w HY.out h0 hT.out
        have H := Lib.hid htz
        have Hb := Lib.hid hpb
        have Hl := Lib.hid hpl
        clear htz hpb hpl h0 HY
        have hz : IntKind.u64.signed = false := rfl
        by_cases hi : q * 64 + p < n
        · go_wp2_with (go_at_call 32; refine H.out.mono ?_; rintro e w' ⟨rfl, rfl⟩)
          go_ret2
          exact ⟨found hy.out hp Hb.out Hl.out hlow.out hi, rfl⟩
        · go_wp2_with (go_at_call 32; refine H.out.mono ?_; rintro e w' ⟨rfl, rfl⟩)
          go_round
          case rel =>
            exact ⟨q + 1, by omega, by go_num, Lib.hid fun j hj hjn => all_below hy.out (by omega) Hl.out hlow.out j (by omega) hjn⟩
          case measure => simp [intOf]; omega
    · go_wp2_with fail
      go_ret2
      exact ⟨⟨0, false, rfl, .inr ⟨rfl, rfl, fun j hj => hlow.out j (by omega) hj⟩⟩, rfl⟩
theorem low_any (b c n : Nat) (f : Nat → Bool) (w : World) (h : IsBits w b c n f) (hT : Table w) :
    Calls Tryd.prog 18 #[.pointer (some ⟨b, 0, none⟩)] w fun e w' => LowSaid n f e ∧ w = w' := by
  obtain ⟨k, c0, c1, hk⟩ := h.cells
  have hs := h.small
  exact low_walk b c n _ k f w hs (by omega) (by omega) hk c0 c1 (Lib.hid fun q hq => (h.word hq).1) (Lib.hid hT)
end Go.Proofs.YtdbfmckikmddcaaDoor
