/- bits.Mul at 1 and a small number. -/
import Derived.Test.YthjecikdkdjlaaaMem
import Derived.Laws.Bits64b
namespace Go.Proofs.Ythjecikdkdjlaaa
open Go.RowKit
theorem mask_small (a : Nat) (ha : a < 4294967296) : bits .and .u64 (a : Int) 4294967295 = (a : Int) := by
  have h := bits_and_u64_nat a 4294967295 (by omega) (by omega)
  have e : a &&& 4294967295 = a % 4294967296 := Nat.and_two_pow_sub_one_eq_mod a 32
  rw [e, Nat.mod_eq_of_lt ha] at h
  exact h
set_option maxHeartbeats 4000000 in
theorem mul64_one (n : Nat) (hn : n < 4294967296) (w : World) : Calls Try.prog 54 #[.int .u64 1, .int .u64 n] w fun e w' => e = .returned (.tuple #[.int .u64 0, .int .u64 n]) ∧ w' = w := by
  have h1 : bits .and .u64 1 4294967295 = 1 := mask_small 1 (by omega)
  have h0 : bits .and .u64 0 4294967295 = 0 := mask_small 0 (by omega)
  have h2 := mask_small n hn
  have h3 : (n : Int) / 4294967296 = 0 := by omega
  have h4 : IntKind.u64.wrap (n : Int) = n := by rw [IntKind.wrap_u64]; omega
  have h5 : IntKind.u64.wrap 0 = 0 := by rw [IntKind.wrap_u64]; rfl
  go_enter Try.func54, Try.ntmps54
  go_wp2_with fail
  try simp only [h1, h2, h3, h4, h5, h0, Int.one_mul, Int.mul_zero, Int.zero_mul, Int.add_zero, Int.zero_add, Int.zero_ediv]
  (try simp only [Exit.inBlock, Exit.then])
  refine bodyPost_ret (results_tmp2 rfl _ _ _) rfl ?_
  exact ⟨rfl, rfl⟩
set_option maxHeartbeats 4000000 in
theorem mul_one (n : Nat) (hn : n < 4294967296) (w : World) : Calls Try.prog 51 #[.int .u64 1, .int .u64 n] w fun e w' => e = .returned (.tuple #[.int .u64 0, .int .u64 n]) ∧ w' = w := by
  have HC := Lib.hid (mul64_one n hn w)
  go_enter Try.func51, Try.ntmps51
  go_wp2_with fail
  refine HC.out.mono ?_
  rintro e w' ⟨rfl, rfl⟩
  go_wp2_with fail
  (try simp only [Exit.inBlock, Exit.then])
  refine bodyPost_ret (results_tmp2 rfl _ _ _) rfl ?_
  exact ⟨rfl, rfl⟩
end Go.Proofs.Ythjecikdkdjlaaa
