/- The closures that are handed to 'at', 'at' itself, and the methods of a set: what each call does. -/
import Derived.Test.YtdbfmckikmddcaaDoorRows
import Derived.Test.YtdbfmckikmddcaaDoorPlain
import Derived.WalkKit
import Derived.WalkSpells
import Derived.WalkLawsBesides
import Derived.StillTailTactics
import Derived.Lib.Hide
namespace Go.Proofs.YtdbfmckikmddcaaDoor
open Go.RowKit

theorem bits_andNot_u64_nat (a b : Nat) (ha : a < 18446744073709551616) (hb : b < 18446744073709551616) :
    bits .andNot .u64 (a : Int) (b : Int) = ((a &&& (18446744073709551615 - b) : Nat) : Int) := by
  have hx : a &&& (18446744073709551615 - b) < 2 ^ 64 := Nat.and_lt_two_pow _ (by omega)
  have h1 : (BitVec.ofInt 64 (a : Int)).toNat = a := by
    rw [BitVec.ofInt_natCast, BitVec.toNat_ofNat]; exact Nat.mod_eq_of_lt (by omega)
  have h2 : (BitVec.ofInt 64 (b : Int)).toNat = b := by
    rw [BitVec.ofInt_natCast, BitVec.toNat_ofNat]; exact Nat.mod_eq_of_lt (by omega)
  show IntKind.u64.wrap ((BitVec.ofInt 64 (a : Int) &&& ~~~ BitVec.ofInt 64 (b : Int)).toNat : Int) = _
  rw [BitVec.toNat_and, BitVec.toNat_not, h1, h2, IntKind.wrap_u64]
  have e : 2 ^ 64 - 1 - b = 18446744073709551615 - b := by omega
  rw [e]
  omega

set_option maxHeartbeats 400000 in
theorem has1_any (a : Addr) (x b : Nat) (w : World) (hx : x < 18446744073709551616) (hb : b < 18446744073709551616) (hc : w.cell? a = some (.int .u64 x)) :
    Calls Tryd.prog 28 #[.pointer (some a), .int .u64 b] w fun e w' => e = .returned (.bool (!((x &&& b) == 0))) ∧ w = w' := by
  have hbits := bits_and_u64_nat x b hx hb
  clear hx hb
  go_enter Tryd.func28, Tryd.ntmps28
  go_wp2
  go_ret
  refine ⟨?_, rfl⟩
  show Ending.returned (Value.bool (((x &&& b : Nat) : Int) != 0)) = _
  congr 2
  cases h : (x &&& b) with
  | zero => rfl
  | succ n => rfl

set_option maxHeartbeats 400000 in
theorem set1_any (a : Addr) (x b : Nat) (w : World) (hx : x < 18446744073709551616) (hb : b < 18446744073709551616) (hc : w.cell? a = some (.int .u64 x)) (hf : w.frozen? a = false) :
    Calls Tryd.prog 30 #[.pointer (some a), .int .u64 b] w fun e w' => e = .returned (.bool ((x : Int) != ((x ||| b : Nat) : Int))) ∧ w.setCell a (.int .u64 ((x ||| b : Nat) : Int)) = w' := by
  have hbits := bits_or_u64_nat x b hx hb
  clear hx hb
  go_enter Tryd.func30, Tryd.ntmps30
  go_wp2
  go_ret
  exact ⟨rfl, rfl⟩
set_option maxHeartbeats 400000 in
theorem clear1_any (a : Addr) (x b : Nat) (w : World) (hx : x < 18446744073709551616) (hb : b < 18446744073709551616) (hc : w.cell? a = some (.int .u64 x)) (hf : w.frozen? a = false) :
    Calls Tryd.prog 29 #[.pointer (some a), .int .u64 b] w fun e w' => e = .returned (.bool ((x : Int) != ((x &&& (18446744073709551615 - b) : Nat) : Int))) ∧ w.setCell a (.int .u64 ((x &&& (18446744073709551615 - b) : Nat) : Int)) = w' := by
  have hbits := bits_andNot_u64_nat x b hx hb
  clear hx hb
  go_enter Tryd.func29, Tryd.ntmps29
  go_wp2
  go_ret
  exact ⟨rfl, rfl⟩

/-- 'at' where there is no such number -/
theorem at_out (b : Nat) (n i : Int) (g : Value) (w : World) (h : i < 0 ∨ n ≤ i) (hc : w.cell? ⟨b, 0, none⟩ = some (.int .i64 n)) :
    Calls Tryd.prog 27 #[.pointer (some ⟨b, 0, none⟩), .int .i64 i, g] w fun e w' => e = .returned (.bool false) ∧ w = w' := by
  by_cases h0 : i < 0
  · clear h hc
    go_enter Tryd.func27, Tryd.ntmps27
    go_wp2
    go_ret
    exact ⟨rfl, rfl⟩
  · have h1 : n ≤ i := by omega
    clear h
    go_enter Tryd.func27, Tryd.ntmps27
    go_wp2
    go_ret
    exact ⟨rfl, rfl⟩

set_option maxHeartbeats 400000 in
theorem at_in (b c l k : Nat) (n i q r p : Nat) (g : FuncId) (w w2 : World) (v : Bool) (h : i < n) (hq : Hid (i / 64 = q)) (hr : Hid (i % 64 = r)) (hp : Hid (2 ^ r = p)) (hn : n ≤ 65536) (hl : q < l)
    (hc0 : w.cell? ⟨b, 0, none⟩ = some (.int .i64 n)) (hc1 : w.cell? ⟨b, 1, none⟩ = some (.slice (some ⟨c, 0, none⟩) l k))
    (hcf : ∀ (args : Array Value) (u : World), Sem.run Tryd.prog (callFunc g args) u = .ok (.enter g args) u)
    (hg : Hid (Calls Tryd.prog g #[.pointer (some ⟨c, q, none⟩), .int .u64 (p : Int)] w.drew fun e w' => e = .returned (.bool v) ∧ w2 = w')) :
    Calls Tryd.prog 27 #[.pointer (some ⟨b, 0, none⟩), .int .i64 i, .func (.func g) #[] #[]] w fun e w' => e = .returned (.bool v) ∧ w2 = w' := by
  have e1 : IntKind.i64.wrap ((i : Int) / 64) = (q : Int) := by have := hq.out; rw [IntKind.wrap_i64]; omega
  have e2 : (i : Int).tmod 64 = (r : Int) := by have := hr.out; rw [Int.tmod_eq_emod_of_nonneg (by omega)]; omega
  have e3 : IntKind.u64.wrap (2 ^ min r 64 : Int) = (p : Int) := by
    have h1 := hr.out; have h2 := hp.out
    have h3 : min r 64 = r := by omega
    have h4 : 2 ^ r < 2 ^ 64 := Nat.pow_lt_pow_right (by omega) (by omega)
    rw [h3, IntKind.wrap_u64, show (2 ^ r : Int) = ((2 ^ r : Nat) : Int) by push_cast; rfl, h2]; omega
  go_enter Tryd.func27, Tryd.ntmps27
  go_wp2
  go_still_tail 11, (by kernel_rfl)
  change wpList _ _ _ _ _ w.drew
  go_wp2_with (refine hg.out.mono ?_; rintro e w' ⟨rfl, rfl⟩)
  go_ret
  exact ⟨rfl, rfl⟩
theorem enters28 (args : Array Value) (u : World) : Sem.run Tryd.prog (callFunc 28 args) u = .ok (.enter 28 args) u := by kernel_rfl
theorem enters29 (args : Array Value) (u : World) : Sem.run Tryd.prog (callFunc 29 args) u = .ok (.enter 29 args) u := by kernel_rfl
theorem enters30 (args : Array Value) (u : World) : Sem.run Tryd.prog (callFunc 30 args) u = .ok (.enter 30 args) u := by kernel_rfl
end Go.Proofs.YtdbfmckikmddcaaDoor
