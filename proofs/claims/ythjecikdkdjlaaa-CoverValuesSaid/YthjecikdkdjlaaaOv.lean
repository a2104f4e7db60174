/- What comes in: kinds, and rows of four picks. -/
import Derived.Test.YthjecikdkdjlaaaOp
namespace Go.Proofs.Ythjecikdkdjlaaa
open Go.ChangeShapes Go.WideShapes Go.ChangeAt Go.RowKit Go.Deep

theorem cells_5 : Try.prog.cellsOf 5 = 1 := by kernel_rfl
theorem cells_42 : Try.prog.cellsOf 42 = 4 := by kernel_rfl
theorem u8_nat {x : Int} (h : (Lit.int .u8 x).wf = true) : ∃ n : Nat, x = n ∧ n ≤ 255 := by
  have h0 : 0 ≤ x ∧ x ≤ 255 := by simpa [Lit.wf, IntKind.min, IntKind.max, IntKind.signed, IntKind.bits] using h
  exact ⟨x.toNat, by omega, by omega⟩
section
variable {H : Type} {enc : TypeId × Value → H} {W : World} {sp : Nat → Bool} {held : Bool}
theorem open_row32 {v : Value} {d : DataW H} {p : List MemPlace} {r : Reach} {b0 : Nat} (hv : Value.okWide Try.prog W r b0 32 v) (h : DataW.Trod enc Try.prog W 0 sp held 32 v d p) :
    ∃ (a : Option Addr) (cap : Nat) (ks : List Nat), v = .slice a ks.length cap ∧ ks.length ≤ maxLen ∧ ∀ (j x : Nat), ks[j]? = some x → x ≤ 255 ∧ ∃ b off, a = some ⟨b, off, none⟩ ∧ W.cell? ⟨b, off + j, none⟩ = some (.int .u8 x) := by
  obtain ⟨a0, len, cap, rfl⟩ := okWide_slice Try.underlying32 hv
  obtain ⟨fuel, hf⟩ := h
  rcases open_slice Try.underlying32 hf with ⟨hcs, _⟩ | ⟨a, len', cap', m, n, D, Pl, hcs, _, hlc, hcm, hmm, _, hel⟩
  · simp only [Value.cells, List.cons.injEq, Value.slice.injEq] at hcs
    obtain ⟨⟨rfl, rfl, rfl⟩, _⟩ := hcs
    exact ⟨none, 0, [], rfl, by simp, fun j x hx => by simp at hx⟩
  · simp only [Value.cells, List.cons.injEq, Value.slice.injEq] at hcs
    obtain ⟨⟨rfl, rfl, rfl⟩, _⟩ := hcs
    have hlm : len ≤ m := by rw [hmm]; split <;> omega
    rw [cells_5] at hel
    have at_ : ∀ i, i < len → ∃ x : Nat, x ≤ 255 ∧ W.cell? (a.add i) = some (.int .u8 x) := by
      intro i hi
      obtain ⟨cs', hc, ht⟩ := hel i (by omega)
      obtain ⟨_, hcl, hat⟩ := World.cells?_some hc
      obtain ⟨y, e, _, hw⟩ := DataW.trod_int Try.underlying5 ht
      obtain ⟨x, rfl, hx⟩ := u8_nat hw
      have h0 := hat 0 (by omega)
      rw [e, Go.Deep.add_add] at h0
      exact ⟨x, hx, by simpa using h0⟩
    have key : ∀ i, i < len → ∃ x : Nat, x ≤ 255 ∧ ∃ b off, a = ⟨b, off, none⟩ ∧ W.cell? ⟨b, off + i, none⟩ = some (.int .u8 x) := by
      intro i hi
      obtain ⟨x, hx, hc⟩ := at_ i hi
      obtain ⟨x0, _, hc0⟩ := at_ 0 (by omega)
      obtain ⟨b, off, ha, h1⟩ := plain_addr hc ⟨_, hc0⟩
      exact ⟨x, hx, b, off, ha, h1⟩
    obtain ⟨ks, hl, hall⟩ := list_of len key
    refine ⟨some a, cap, ks, by rw [hl], by omega, fun j x hx => ?_⟩
    obtain ⟨h1, b, off, ha, h2⟩ := hall j x hx
    exact ⟨h1, b, off, by rw [ha], h2⟩
theorem open_row33 {v : Value} {d : DataW H} {p : List MemPlace} {r : Reach} {b0 : Nat} (hv : Value.okWide Try.prog W r b0 33 v) (h : DataW.Trod enc Try.prog W 0 sp held 33 v d p) :
    ∃ (a : Option Addr) (cap : Nat) (rows : List (List Nat)), v = .slice a rows.length cap ∧ rows.length ≤ maxLen ∧ ∀ (i : Nat) (r : List Nat), rows[i]? = some r → r.length = 4 ∧ ∃ b off, a = some ⟨b, off, none⟩ ∧ ∀ (k y : Nat), r[k]? = some y → y ≤ 255 ∧ W.cell? ⟨b, off + i * 4 + k, none⟩ = some (.int .u8 y) := by
  obtain ⟨a0, len, cap, rfl⟩ := okWide_slice Try.underlying33 hv
  obtain ⟨fuel, hf⟩ := h
  rcases open_slice Try.underlying33 hf with ⟨hcs, _⟩ | ⟨a, len', cap', m, n, D, Pl, hcs, _, hlc, hcm, hmm, _, hel⟩
  · simp only [Value.cells, List.cons.injEq, Value.slice.injEq] at hcs
    obtain ⟨⟨rfl, rfl, rfl⟩, _⟩ := hcs
    exact ⟨none, 0, [], rfl, by simp, fun j x hx => by simp at hx⟩
  · simp only [Value.cells, List.cons.injEq, Value.slice.injEq] at hcs
    obtain ⟨⟨rfl, rfl, rfl⟩, _⟩ := hcs
    have hlm : len ≤ m := by rw [hmm]; split <;> omega
    rw [cells_42] at hel
    have at_ : ∀ i, i < len → ∀ k, k < 4 → ∃ x : Nat, x ≤ 255 ∧ W.cell? (a.add (i * 4 + k)) = some (.int .u8 x) := by
      intro i hi k hk
      obtain ⟨cs', hc, ht⟩ := hel i (by omega)
      obtain ⟨_, hcl, hat⟩ := World.cells?_some hc
      obtain ⟨xs, m', _, _, hl4, hxl, hx⟩ := DataW.trod_array Try.underlying42 ht
      have h1 := hx k (by omega)
      rw [cells_5, List.getElem?_eq_getElem (by omega), Nat.mul_one] at h1
      obtain ⟨y, e, _, hw⟩ := DataW.trod_int Try.underlying5 h1
      obtain ⟨x, rfl, hx255⟩ := u8_nat hw
      have h0 := hat k (by omega)
      rw [Go.Deep.add_add] at h0
      refine ⟨x, hx255, h0.trans ?_⟩
      have e2 := congrArg (fun l => l[0]?) e
      simp only [List.getElem?_take_of_lt (by omega : 0 < 1), List.getElem?_drop, Nat.add_zero] at e2
      exact e2
    have key : ∀ i, i < len → ∃ r : List Nat, r.length = 4 ∧ ∃ b off, a = ⟨b, off, none⟩ ∧ ∀ (k y : Nat), r[k]? = some y → y ≤ 255 ∧ W.cell? ⟨b, off + i * 4 + k, none⟩ = some (.int .u8 y) := by
      intro i hi
      obtain ⟨x0, _, hc0⟩ := at_ 0 (by omega) 0 (by omega)
      obtain ⟨b, off, ha, _⟩ := plain_addr (i := 0) (by simpa using hc0) ⟨_, by simpa using hc0⟩
      obtain ⟨r, hl, hall⟩ := list_of 4 (fun k hk => at_ i hi k hk)
      refine ⟨r, hl, b, off, ha, fun k y hy => ?_⟩
      obtain ⟨h1, h2⟩ := hall k y hy
      rw [ha, addr_add, ← Nat.add_assoc] at h2
      exact ⟨h1, h2⟩
    obtain ⟨rows, hl, hall⟩ := list_of len key
    refine ⟨some a, cap, rows, by rw [hl], by omega, fun i r hr => ?_⟩
    obtain ⟨h1, b, off, ha, h2⟩ := hall i r hr
    exact ⟨h1, b, off, by rw [ha], h2⟩
end
end Go.Proofs.Ythjecikdkdjlaaa
