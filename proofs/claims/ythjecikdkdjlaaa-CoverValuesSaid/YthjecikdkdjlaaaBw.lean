/- slices.Backward over a row of patterns: whatever is done with each. -/
import Derived.Test.YthjecikdkdjlaaaWa
import Derived.RangeFuncNested
import Derived.RangeFuncBound
import Derived.RangeFuncCalls
import Derived.RangeFuncLeaves
import Derived.Shelf.Abstract
import Derived.Shelf.RegionOpen
import Derived.OwnWalkIn
import Derived.TacticsInMore
import Derived.LoopNIn
import Derived.LoopIn
namespace Go.Proofs.Ythjecikdkdjlaaa
open Go.RowKit Go.Shelf
attribute [local go_sem] Oper.semAt_some

/-- an element as it is handed over: its place, its cells -/
structure El where
  i : Nat
  c0 : Value
  c1 : Value
  c2 : Value
  c3 : Value
def El.v (x : El) : Value := .agg #[x.c0, x.c1, x.c2, x.c3]
/-- so many elements, the last one first -/
def downTo {α : Type} (f : Nat → α) (len k : Nat) : List α := (List.range k).map fun j => f (len - 1 - j)
theorem downTo_succ {α : Type} (f : Nat → α) (len k : Nat) : downTo f len (k + 1) = downTo f len k ++ [f (len - 1 - k)] := by simp [downTo, List.range_succ]
theorem downTo_length {α : Type} (f : Nat → α) (len k : Nat) : (downTo f len k).length = k := by simp [downTo]
theorem Fr.cellS {S : Nat → Prop} {w w' : World} (h : Fr S w w') {a : Addr} (hn : ¬ S a.block) {v : Value} (hc : w.cell? a = some v) : w'.cell? a = some v :=
  (World.cell?_of_block (h.block _ (World.block_lt_of_cell? w _ hc) hn)).trans hc
set_option maxRecDepth 100000 in
set_option maxHeartbeats 4000000 in
theorem back1_in {Ok : El → Prop} (F : Fence) (n : Nat) (h52 : F.fn 52) (hro : F.round = none) (hn : 1 ≤ n) (l Bs b off len cap : Nat) (S : Nat → Prop) (hlen : len ≤ 1152921504606846976) (hb : ¬ S b) (el : Nat → { x : El // Ok x }) (J Jx : List { x : El // Ok x } → World → Prop)
    (hi : ∀ j, j < len → (el j).1.i = j)
    (hY : ∀ pre (x : { x : El // Ok x }) W, J pre W → pre.length < len → YieldAt F (n - 1) Try.prog l #[.int .i64 (x.1.i : Int), .agg #[x.1.c0, x.1.c1, x.1.c2, x.1.c3]] W fun e W' =>
      (e = .returned (.bool true) ∧ J (pre ++ [x]) W' ∧ Fr S W W') ∨ (e = .returned (.bool false) ∧ Jx (pre ++ [x]) W'))
    (W : World) (hBs : W.cell? ⟨Bs, 0, none⟩ = some (.slice (some ⟨b, off, none⟩) len cap)) (hBn : ¬ S Bs)
    (hc : ∀ j, j < len → W.cell? ⟨b, off + j * 4, none⟩ = some (el j).1.c0 ∧ W.cell? ⟨b, off + j * 4 + 1, none⟩ = some (el j).1.c1 ∧ W.cell? ⟨b, off + j * 4 + 2, none⟩ = some (el j).1.c2 ∧ W.cell? ⟨b, off + j * 4 + 3, none⟩ = some (el j).1.c3) (h0 : J [] W) :
    CallsIn F n Try.prog 52 #[.func (.yield l) #[] #[], .pointer (some ⟨Bs, 0, none⟩)] W fun e W' => (∃ v, e = .returned v) ∧
      ((∃ ys, ys = downTo el len len ∧ J ys W') ∨ (∃ pre, (∃ k, k ≤ len ∧ pre = downTo el len k) ∧ Jx pre W')) := by
  refine callsIn_of_wp Try.func52 rfl h52 ?_ hro
  simp only [Try.ntmps52, List.size_toArray, List.length_cons, List.length_nil, Nat.reduceAdd, Nat.reduceSub, Array.replicate_succ, Array.replicate_zero, List.push_toArray, List.append_toArray, List.nil_append, List.cons_append]
  gi_wp2
  gi_loopw [3] (fun i wr => ∃ k : Nat, k ≤ len ∧ i = .int .i64 ((len : Int) - 1 - k) ∧ J (downTo el len k) wr ∧ Fr S W wr)
    (fun i _ => (intOf i + 1).toNat)
  case atStart => exact ⟨0, Nat.zero_le _, by simp, h0, Fr.refl _ _⟩
  case round =>
    obtain ⟨k, hk, rfl, hJs, hnx⟩ := hrel
    have hcx := fun j (h : j < len) => (⟨hnx.cellS hb (hc j h).1, hnx.cellS hb (hc j h).2.1, hnx.cellS hb (hc j h).2.2.1, hnx.cellS hb (hc j h).2.2.2⟩ : _ ∧ _ ∧ _ ∧ _)
    have hbx := hnx.cellS hBn hBs
    by_cases hlt : k < len
    · obtain ⟨j, hj⟩ : ∃ j, len - 1 - k = j := ⟨_, rfl⟩
      have hjl : j < len := by omega
      have hji : (len : Int) - 1 - k = j := by omega
      obtain ⟨fn, tmps, assign, body, hy, hR⟩ := hY _ (el j) wr hJs (by rw [downTo_length]; exact hlt)
      rw [hi j hjl] at hy
      obtain ⟨d0, d1, d2, d3⟩ := hcx j hjl
      rw [hji]
      have k0 : (0 : Int) ≤ (j : Int) := by omega
      have k1 : (j : Int) < (len : Int) := by omega
      gi_wp2
      refine hR.mono ?_
      rintro e W3 (⟨rfl, hJ3, hk3⟩ | ⟨rfl, hJx3⟩)
      · gi_wp2
        go_roundw
        case rel => exact ⟨k + 1, by omega, by first | (simp; done) | (simp; omega), by rw [downTo_succ, hj]; exact hJ3, hnx.trans hk3 (fun _ _ h => h)⟩
        case measure => first | (simp [intOf]; done) | (simp [intOf]; omega)
      · gi_wp2
        refine bodyPost_ret (results_none rfl _ _ _) rfl ?_
        exact ⟨⟨_, rfl⟩, .inr ⟨_, ⟨k + 1, by omega, by rw [downTo_succ, hj]⟩, hJx3⟩⟩
    · obtain rfl : k = len := by omega
      have hneg : ¬ (0 : Int) ≤ (k : Int) - 1 - k := by omega
      gi_wp2
      go_end0
      first | exact ⟨⟨_, rfl⟩, .inl ⟨_, rfl, hJs⟩⟩ | exact ⟨⟨_, rfl⟩, .inl hJs⟩
set_option maxRecDepth 100000 in
set_option maxHeartbeats 2000000 in
theorem back0_in {Ok : El → Prop} (F : Fence) (n : Nat) (h52 : F.fn 52) (hro : F.round = none) (l Bs cap : Nat) (a : Option Addr) (J : List { x : El // Ok x } → World → Prop) (W : World) (hBs : W.cell? ⟨Bs, 0, none⟩ = some (.slice a 0 cap)) (h0 : J [] W) :
    CallsIn F n Try.prog 52 #[.func (.yield l) #[] #[], .pointer (some ⟨Bs, 0, none⟩)] W fun e W' => (∃ v, e = .returned v) ∧ J [] W' := by
  refine callsIn_of_wp Try.func52 rfl h52 ?_ hro
  simp only [Try.ntmps52, List.size_toArray, List.length_cons, List.length_nil, Nat.reduceAdd, Nat.reduceSub, Array.replicate_succ, Array.replicate_zero, List.push_toArray, List.append_toArray, List.nil_append, List.cons_append]
  gi_wp2
  gi_loopw [3] (fun i wr => i = .int .i64 (-1) ∧ J [] wr) (fun _ _ => 0)
  case atStart => exact ⟨rfl, h0⟩
  case round =>
    obtain ⟨rfl, hJs⟩ := hrel
    gi_wp2
    go_end0
    first | exact ⟨⟨_, rfl⟩, hJs⟩ | exact hJs
/-- the function value that slices.Backward hands back -/
theorem back_stops {Ok : El → Prop} (F : Fence) (n : Nat) (h52 : F.fn 52) (hro : F.round = none) (hn : 1 ≤ n) (Bs len cap : Nat) (a : Option Addr) (S : Nat → Prop) (hlen : len ≤ 1152921504606846976) (el : Nat → { x : El // Ok x }) (hi : ∀ j, j < len → (el j).1.i = j) (w : World)
    (hBs : w.cell? ⟨Bs, 0, none⟩ = some (.slice a len cap)) (hBn : ¬ S Bs) (hS : 0 < len → ∀ b, S b → ∀ off, a ≠ some ⟨b, off, none⟩)
    (hc : ∀ j, j < len → ∃ b off, a = some ⟨b, off, none⟩ ∧ w.cell? ⟨b, off + j * 4, none⟩ = some (el j).1.c0 ∧ w.cell? ⟨b, off + j * 4 + 1, none⟩ = some (el j).1.c1 ∧ w.cell? ⟨b, off + j * 4 + 2, none⟩ = some (el j).1.c2 ∧ w.cell? ⟨b, off + j * 4 + 3, none⟩ = some (el j).1.c3) :
    SeqStopsK F n Try.prog 52 #[.pointer (some ⟨Bs, 0, none⟩)] (fun x : { x : El // Ok x } => #[.int .i64 (x.1.i : Int), .agg #[x.1.c0, x.1.c1, x.1.c2, x.1.c3]]) (Fr S) (fun ys => ys = downTo el len len) (fun _ => True) len w := fun l J Jx W hW _ _ hY h0 => by
  have hBs' := (Fr.ofBelow hW).cell hBs
  by_cases hz : len = 0
  · subst hz
    exact (back0_in F n h52 hro l Bs cap a J W hBs' h0).mono fun e W' ⟨he, hj⟩ => ⟨he, .inl ⟨[], rfl, hj⟩⟩
  · obtain ⟨b, off, rfl, _⟩ := hc 0 (by omega)
    have hcells : ∀ j, j < len → W.cell? ⟨b, off + j * 4, none⟩ = some (el j).1.c0 ∧ W.cell? ⟨b, off + j * 4 + 1, none⟩ = some (el j).1.c1 ∧ W.cell? ⟨b, off + j * 4 + 2, none⟩ = some (el j).1.c2 ∧ W.cell? ⟨b, off + j * 4 + 3, none⟩ = some (el j).1.c3 := by
      intro j hj
      obtain ⟨b1, o1, e1, k0, k1, k2, k3⟩ := hc j hj
      simp only [Option.some.injEq, Addr.mk.injEq, and_true] at e1
      obtain ⟨rfl, rfl⟩ := e1
      exact ⟨(Fr.ofBelow hW).cell k0, (Fr.ofBelow hW).cell k1, (Fr.ofBelow hW).cell k2, (Fr.ofBelow hW).cell k3⟩
    refine (back1_in F n h52 hro hn l Bs b off len cap S hlen (fun h => hS (by omega) b h off rfl) el J Jx hi hY W hBs' hBn hcells h0).mono ?_
    rintro e W' ⟨he, ⟨ys, rfl, hj⟩ | ⟨pre, _, hj⟩⟩
    · exact ⟨he, .inl ⟨_, rfl, hj⟩⟩
    · exact ⟨he, .inr ⟨_, trivial, hj⟩⟩
set_option maxHeartbeats 1000000 in
theorem backward_any (a : Option Addr) (len cap : Nat) (w : World) : Calls Try.prog 50 #[.slice a len cap] w fun e w' => e = .returned (.func (.func 52) #[] #[.pointer (some ⟨w.heap.size, 0, none⟩)]) ∧ w' = w.alloc (.cells #[.slice a len cap] 22) := by
  go_enter Try.func50, Try.ntmps50
  go_wp2_with fail
  go_ret
  exact ⟨rfl, rfl⟩
end Go.Proofs.Ythjecikdkdjlaaa
