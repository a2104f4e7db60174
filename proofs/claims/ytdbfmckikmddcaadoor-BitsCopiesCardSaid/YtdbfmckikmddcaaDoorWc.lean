/- math/bits' OnesCount64, TrailingZeros64 -/
import Derived.Test.YtdbfmckikmddcaaDoorWa
import Derived.Shelf.Spec.TrailingZeros
namespace Go.Proofs.YtdbfmckikmddcaaDoor
open Go.RowKit
theorem s1_lt (x : Nat) : Plain.s1 8 x < 18446744073709551616 := by
  have h1 : (x / 2) &&& Plain.mk 0x55 8 ≤ Plain.mk 0x55 8 := Nat.and_le_right
  have h2 : x &&& Plain.mk 0x55 8 ≤ Plain.mk 0x55 8 := Nat.and_le_right
  unfold Plain.s1
  have h3 : Plain.mk 0x55 8 = 6148914691236517205 := by decide
  omega
theorem s2_lt (x : Nat) : Plain.s2 8 x < 9223372036854775808 := by
  have h1 : (x / 4) &&& Plain.mk 0x33 8 ≤ Plain.mk 0x33 8 := Nat.and_le_right
  have h2 : x &&& Plain.mk 0x33 8 ≤ Plain.mk 0x33 8 := Nat.and_le_right
  unfold Plain.s2
  have h3 : Plain.mk 0x33 8 = 3689348814741910323 := by decide
  omega
theorem wrap_nat (a : Nat) (h : a < 18446744073709551616) : IntKind.u64.wrap (a : Int) = (a : Int) := by rw [IntKind.wrap_u64]; omega
theorem and_lit (a b : Nat) (e : Int) (he : e = (b : Int)) (ha : a < 18446744073709551616) (hb : b < 18446744073709551616) : bits .and .u64 (a : Int) e = ((a &&& b : Nat) : Int) := by
  rw [he]; exact bits_and_u64_nat a b ha hb
theorem and_i64 (a : Nat) (ha : a < 9223372036854775808) : bits .and .i64 (wrap64 (a : Int)) 127 = ((a % 128 : Nat) : Int) := by
  have h0 : wrap64 (a : Int) = (a : Int) := by unfold wrap64; omega
  rw [h0]
  have h1 : (BitVec.ofInt 64 (a : Int)).toNat = a := by
    rw [BitVec.ofInt_natCast, BitVec.toNat_ofNat]; exact Nat.mod_eq_of_lt (by omega)
  show IntKind.i64.wrap ((BitVec.ofInt 64 (a : Int) &&& BitVec.ofInt 64 ((127 : Nat) : Int)).toNat : Int) = _
  have h2 : (BitVec.ofInt 64 ((127 : Nat) : Int)).toNat = 127 := by decide
  rw [BitVec.toNat_and, h1, h2, IntKind.wrap_i64, Nat.and_two_pow_sub_one_eq_mod (n := 7)]
  omega
/-- the seven steps, in the walk's own forms -/
theorem ones_steps (x : Nat) (hx : x < 18446744073709551616) : ∃ a1 a2 a3 a4 a5 a6 : Nat,
    IntKind.u64.wrap (bits .and .u64 ((x : Int) / 2) 6148914691236517205 + bits .and .u64 (x : Int) 6148914691236517205) = (a1 : Int) ∧
    IntKind.u64.wrap (bits .and .u64 ((a1 : Int) / 4) 3689348814741910323 + bits .and .u64 (a1 : Int) 3689348814741910323) = (a2 : Int) ∧
    bits .and .u64 (IntKind.u64.wrap ((a2 : Int) / 16 + (a2 : Int))) 1085102592571150095 = (a3 : Int) ∧
    IntKind.u64.wrap ((a3 : Int) + (a3 : Int) / 256) = (a4 : Int) ∧ IntKind.u64.wrap ((a4 : Int) + (a4 : Int) / 65536) = (a5 : Int) ∧
    IntKind.u64.wrap ((a5 : Int) + (a5 : Int) / 4294967296) = (a6 : Int) ∧ bits .and .i64 (wrap64 (a6 : Int)) 127 = (Plain.pop x 64 : Int) := by
  obtain ⟨m1, m2, m3⟩ := Plain.masks
  obtain ⟨b1, b2, b3, b4⟩ := Plain.swar x
  have l1 := s1_lt x
  have l2 := s2_lt (Plain.s1 8 x)
  generalize hz3 : Plain.s3 8 (Plain.s2 8 (Plain.s1 8 x)) = z3 at b1 b2 b3 b4
  generalize hz4 : z3 + z3 / 256 = z4 at b1 b2 b3 b4
  generalize hz5 : z4 + z4 / 65536 = z5 at b2 b3 b4
  generalize hz6 : z5 + z5 / 4294967296 = z6 at b3 b4
  refine ⟨Plain.s1 8 x, Plain.s2 8 (Plain.s1 8 x), z3, z4, z5, z6, ?_, ?_, ?_, by rw [IntKind.wrap_u64]; omega, by rw [IntKind.wrap_u64]; omega, by rw [IntKind.wrap_u64]; omega, by rw [and_i64 _ b3, b4]⟩
  · have e : ((x : Int) / 2) = ((x / 2 : Nat) : Int) := by push_cast; rfl
    rw [e, and_lit _ (Plain.mk 0x55 8) _ (by rw [m1]; rfl) (by omega) (by rw [m1]; decide), and_lit _ (Plain.mk 0x55 8) _ (by rw [m1]; rfl) hx (by rw [m1]; decide)]
    refine Eq.trans (congrArg _ ?_) (wrap_nat _ l1)
    unfold Plain.s1
    push_cast; rfl
  · generalize Plain.s1 8 x = y at l1
    have e : ((y : Int) / 4) = ((y / 4 : Nat) : Int) := by push_cast; rfl
    have l3 := s2_lt y
    rw [e, and_lit _ (Plain.mk 0x33 8) _ (by rw [m2]; rfl) (by omega) (by rw [m2]; decide), and_lit _ (Plain.mk 0x33 8) _ (by rw [m2]; rfl) l1 (by rw [m2]; decide)]
    refine Eq.trans (congrArg _ ?_) (wrap_nat _ (Nat.lt_trans l3 (by omega)))
    unfold Plain.s2
    push_cast; rfl
  · rw [← hz3]
    generalize Plain.s2 8 (Plain.s1 8 x) = y at l2
    have e : ((y : Int) / 16 + (y : Int)) = ((y / 16 + y : Nat) : Int) := by push_cast; rfl
    rw [e, wrap_nat _ (by omega), and_lit _ (Plain.mk 0x0f 8) _ (by rw [m3]; rfl) (by omega) (by rw [m3]; decide)]
    rfl
set_option maxHeartbeats 400000 in
theorem ones_any (x : Nat) (w : World) (hx : x < 18446744073709551616) :
    Calls Tryd.prog 31 #[.int .u64 x] w fun e w' => e = .returned (.int .i64 (Plain.pop x 64)) ∧ w = w' := by
  obtain ⟨a1, a2, a3, a4, a5, a6, h1, h2, h3, h4, h5, h6, h7⟩ := ones_steps x hx
  clear hx
  go_enter Tryd.func31, Tryd.ntmps31
  go_wp2
  go_ret
  exact ⟨rfl, rfl⟩

/-- the table of math/bits, in its variable -/
def Table (w : World) : Prop := ∀ j, j < Lib.deBruijn64tab.length → w.cell? ⟨0, j, none⟩ = some (.int .u8 (Lib.deBruijn64tab.getD j 0))

set_option maxHeartbeats 400000 in
theorem tz_zero (w : World) : Calls Tryd.prog 32 #[.int .u64 0] w fun e w' => e = .returned (.int .i64 64) ∧ w = w' := by
  go_enter Tryd.func32, Tryd.ntmps32
  go_wp2
  go_ret
  exact ⟨rfl, rfl⟩
set_option maxHeartbeats 400000 in
theorem tz_core (x k idx : Nat) (w : World) (hx0 : ((x : Int) == 0) = false)
    (key : IntKind.u64.wrap (bits BinOp.and IntKind.u64 (x : Int) (IntKind.u64.wrap (-(x : Int))) * 285870213051353865) / 288230376151711744 = (idx : Int))
    (hi : idx < 64) (hk : k < 64) (hcell : w.cell? ⟨0, idx, none⟩ = some (.int .u8 k)) :
    Calls Tryd.prog 32 #[.int .u64 x] w fun e w' => e = .returned (.int .i64 k) ∧ w = w' := by
  go_enter Tryd.func32, Tryd.ntmps32
  go_wp2
  go_ret
  exact ⟨rfl, rfl⟩
theorem tz_any (x : Nat) (w : World) (hx : x < 18446744073709551616) (h0 : x ≠ 0) (hT : Table w) :
    ∃ k, k < 64 ∧ x.testBit k = true ∧ (∀ j, j < k → x.testBit j = false) ∧ Calls Tryd.prog 32 #[.int .u64 x] w fun e w' => e = .returned (.int .i64 k) ∧ w = w' := by
  obtain ⟨hlow, hk⟩ := Lib.lowest_bit 64 x h0 hx
  obtain ⟨hi, htab⟩ := Lib.deBruijn64_at _ hk
  have hcell := hT _ hi
  rw [htab] at hcell
  obtain ⟨m, hm, _⟩ := Lib.ctzFrom_spec 64 x (by omega) hx
  have e : Lib.ctz 64 x = Lib.ctzFrom 64 x := by simp [Lib.ctz, h0]
  rw [← e] at hm
  refine ⟨_, hk, ?_, fun j hj => ?_, tz_core x _ _ w (by simp; omega) (tz64_key x _ hx h0 hlow) hi hk hcell⟩
  · have h1 : (2 ^ Lib.ctz 64 x * (2 * m + 1)).testBit (Lib.ctz 64 x) = true := by
      rw [show 2 ^ Lib.ctz 64 x * (2 * m + 1) = 2 ^ Lib.ctz 64 x * (2 * m + 1) + 0 by rfl, Nat.testBit_two_pow_mul_add _ (Nat.two_pow_pos _), if_neg (by omega)]
      simp
    rw [← hm] at h1
    exact h1
  · have h1 : (2 ^ Lib.ctz 64 x * (2 * m + 1)).testBit j = false := by
      rw [show 2 ^ Lib.ctz 64 x * (2 * m + 1) = 2 ^ Lib.ctz 64 x * (2 * m + 1) + 0 by rfl, Nat.testBit_two_pow_mul_add _ (Nat.two_pow_pos _), if_pos hj]
      simp
    rw [← hm] at h1
    exact h1
end Go.Proofs.YtdbfmckikmddcaaDoor
