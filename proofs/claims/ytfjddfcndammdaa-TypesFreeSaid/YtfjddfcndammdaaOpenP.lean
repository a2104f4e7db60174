/- An argument that is a row of pairs of types. -/
import Derived.Test.YtfjddfcndammdaaOpenT
namespace Go.Proofs.Ytfjddfcndammdaa
open Go.RowKit Go.WideShapes Go.ChangeShapes

theorem cells41 : Try.prog.cellsOf 41 = 8 := by kernel_rfl
theorem list_of' {α : Type} {P : Nat → α → Prop} : ∀ (n : Nat), (∀ i, i < n → ∃ t, P i t) → ∃ l : List α, l.length = n ∧ ∀ (i : Nat) (t : α), l[i]? = some t → P i t
  | 0, _ => ⟨[], rfl, fun i t h => by simp at h⟩
  | n + 1, h => by
    obtain ⟨l, hl, hp⟩ := list_of' n (fun i hi => h i (by omega))
    obtain ⟨t, ht⟩ := h n (by omega)
    refine ⟨l ++ [t], by simp [hl], fun i u hu => ?_⟩
    rcases Nat.lt_or_ge i n with h1 | h1
    · rw [List.getElem?_append_left (by omega)] at hu
      exact hp i u hu
    · rw [List.getElem?_append_right (by omega)] at hu
      have h2 : i - l.length = 0 := by
        have := (List.getElem?_eq_some_iff.1 hu).1
        simp at this
        omega
      rw [h2] at hu
      simp only [List.getElem?_cons_zero, Option.some.injEq] at hu
      rw [show i = n by omega, ← hu]
      exact ht
/-- a row of pairs of types -/
def PRow (B : Nat) (w : World) (a : Option Addr) (l : List (T × T)) : Prop := ∀ (j : Nat) (p : T × T), l[j]? = some p → ∃ b off c0 c1 c2 c3 d0 d1 d2 d3, a = some ⟨b, off, none⟩ ∧
  (w.cell? ⟨b, off + j * 8, none⟩ = some c0 ∧ w.cell? ⟨b, off + j * 8 + 1, none⟩ = some c1 ∧ w.cell? ⟨b, off + j * 8 + 2, none⟩ = some c2 ∧ w.cell? ⟨b, off + j * 8 + 3, none⟩ = some c3) ∧
  (w.cell? ⟨b, off + j * 8 + 4, none⟩ = some d0 ∧ w.cell? ⟨b, off + j * 8 + 5, none⟩ = some d1 ∧ w.cell? ⟨b, off + j * 8 + 6, none⟩ = some d2 ∧ w.cell? ⟨b, off + j * 8 + 7, none⟩ = some d3) ∧
  IsT B w p.1 (.agg #[c0, c1, c2, c3]) ∧ IsT B w p.2 (.agg #[d0, d1, d2, d3])
def ShortP (l : List (T × T)) : Prop := ∀ p ∈ l, Short p.1 ∧ Short p.2
section
variable {H : Type} {enc : TypeId × Value → H} {W : World} {sp : Nat → Bool} {held : Bool}
theorem eight_cells {cs : List Value} (h : cs.length = 8) : ∃ c0 c1 c2 c3 d0 d1 d2 d3, cs = [c0, c1, c2, c3, d0, d1, d2, d3] := by
  match cs, h with
  | [c0, c1, c2, c3, d0, d1, d2, d3], _ => exact ⟨c0, c1, c2, c3, d0, d1, d2, d3, rfl⟩
theorem open_pair (fuel : Nat) (cs : List Value) (x : DataW H × List MemPlace) (h : DataW.trod enc Try.prog W 0 sp held fuel 41 cs = some x) :
    ∃ p : T × T, ∃ c0 c1 c2 c3 d0 d1 d2 d3, cs = [c0, c1, c2, c3, d0, d1, d2, d3] ∧ IsT W.heap.size W p.1 (.agg #[c0, c1, c2, c3]) ∧ IsT W.heap.size W p.2 (.agg #[d0, d1, d2, d3]) ∧ Short p.1 ∧ Short p.2 := by
  obtain ⟨xs, n, rfl, _, hlen, hxl, hf⟩ := DataW.trod_struct Try.underlying41 h
  rw [cells41] at hlen
  obtain ⟨c0, c1, c2, c3, d0, d1, d2, d3, rfl⟩ := eight_cells hlen
  have get : ∀ (i : Nat) (hi : i < xs.length), xs[i]? = some xs[i] := fun i hi => List.getElem?_eq_getElem hi
  have hxl2 : xs.length = 2 := hxl
  have f0 : DataW.trod enc Try.prog W 0 sp held n 24 (([c0, c1, c2, c3, d0, d1, d2, d3].drop 0).take (Try.prog.cellsOf 24)) = xs[0]? := hf 0 _ rfl
  have f1 : DataW.trod enc Try.prog W 0 sp held n 24 (([c0, c1, c2, c3, d0, d1, d2, d3].drop 4).take (Try.prog.cellsOf 24)) = xs[1]? := hf 1 _ rfl
  rw [get 0 (by omega), cells24] at f0
  rw [get 1 (by omega), cells24] at f1
  obtain ⟨s, e0, e1, e2, e3, he, hi, hs⟩ := open_ty n _ _ f0
  obtain ⟨t, g0, g1, g2, g3, hg, hi2, hs2⟩ := open_ty n _ _ f1
  simp at he hg
  obtain ⟨rfl, rfl, rfl, rfl⟩ := he
  obtain ⟨rfl, rfl, rfl, rfl⟩ := hg
  exact ⟨(s, t), _, _, _, _, _, _, _, _, rfl, hi, hi2, hs, hs2⟩
theorem prow_of {n : Nat} {a : Addr} {len : Nat} {elems : List (DataW H × List MemPlace)} (hlen : elems.length = len)
    (hel : ∀ i, i < len → (W.cells? 0 (a.add (i * 8)) 8).bind (DataW.trod enc Try.prog W 0 sp held n 41) = elems[i]?) : ∃ l : List (T × T), l.length = len ∧ PRow W.heap.size W (some a) l ∧ ShortP l := by
  have key : ∀ i, i < len → ∃ p : T × T, (∃ b off c0 c1 c2 c3 d0 d1 d2 d3, some a = some ⟨b, off, none⟩ ∧
      (W.cell? ⟨b, off + i * 8, none⟩ = some c0 ∧ W.cell? ⟨b, off + i * 8 + 1, none⟩ = some c1 ∧ W.cell? ⟨b, off + i * 8 + 2, none⟩ = some c2 ∧ W.cell? ⟨b, off + i * 8 + 3, none⟩ = some c3) ∧
      (W.cell? ⟨b, off + i * 8 + 4, none⟩ = some d0 ∧ W.cell? ⟨b, off + i * 8 + 5, none⟩ = some d1 ∧ W.cell? ⟨b, off + i * 8 + 6, none⟩ = some d2 ∧ W.cell? ⟨b, off + i * 8 + 7, none⟩ = some d3) ∧
      IsT W.heap.size W p.1 (.agg #[c0, c1, c2, c3]) ∧ IsT W.heap.size W p.2 (.agg #[d0, d1, d2, d3])) ∧ Short p.1 ∧ Short p.2 := by
    have first : ∀ i, i < len → ∃ cs, W.cells? 0 (a.add (i * 8)) 8 = some cs ∧ ∃ x, DataW.trod enc Try.prog W 0 sp held n 41 cs = some x := by
      intro i hi
      have h := hel i hi
      rw [List.getElem?_eq_getElem (by omega)] at h
      cases hc : W.cells? 0 (a.add (i * 8)) 8 with
      | none => rw [hc] at h; cases h
      | some cs =>
        rw [hc] at h
        exact ⟨cs, rfl, _, h⟩
    intro i hi
    obtain ⟨cs, hcs, x, hx⟩ := first i hi
    obtain ⟨p, c0, c1, c2, c3, d0, d1, d2, d3, rfl, hi1, hi2, hs1, hs2⟩ := open_pair n cs x hx
    obtain ⟨_, _, hcell⟩ := World.cells?_some hcs
    obtain ⟨cs0, hcs0, x0, hx0⟩ := first 0 (by omega)
    obtain ⟨p0, z0, z1, z2, z3, y0, y1, y2, y3, rfl, _, _, _, _⟩ := open_pair n cs0 x0 hx0
    obtain ⟨_, _, hcell0⟩ := World.cells?_some hcs0
    have h00 := hcell0 0 (by omega)
    rw [Nat.zero_mul] at h00
    have g0 : W.cell? (a.add 0) = some z0 := by
      have : (a.add 0).add 0 = a.add 0 := by rw [Go.Deep.add_add]
      rw [this] at h00
      simpa using h00
    have get : ∀ (j : Nat) (u : Value), j < 8 → [c0, c1, c2, c3, d0, d1, d2, d3][j]? = some u → ∃ b off, a = ⟨b, off, none⟩ ∧ W.cell? ⟨b, off + (i * 8 + j), none⟩ = some u := by
      intro j u hj hu
      have h := hcell j hj
      rw [Go.Deep.add_add, hu] at h
      exact plain_addr h ⟨_, g0⟩
    obtain ⟨b, off, ha, k0⟩ := get 0 c0 (by omega) rfl
    subst ha
    have get2 : ∀ (j : Nat) (u : Value), j < 8 → [c0, c1, c2, c3, d0, d1, d2, d3][j]? = some u → W.cell? ⟨b, off + i * 8 + j, none⟩ = some u := by
      intro j u hj hu
      obtain ⟨b1, o1, e1, k1⟩ := get j u hj hu
      simp only [Addr.mk.injEq, and_true] at e1
      obtain ⟨rfl, rfl⟩ := e1
      rw [Nat.add_assoc]
      exact k1
    exact ⟨p, ⟨b, off, c0, c1, c2, c3, d0, d1, d2, d3, rfl, ⟨by simpa using k0, get2 1 c1 (by omega) rfl, get2 2 c2 (by omega) rfl, get2 3 c3 (by omega) rfl⟩, ⟨get2 4 d0 (by omega) rfl, get2 5 d1 (by omega) rfl, get2 6 d2 (by omega) rfl, get2 7 d3 (by omega) rfl⟩, hi1, hi2⟩, hs1, hs2⟩
  obtain ⟨l, hl, hall⟩ := list_of' len key
  refine ⟨l, hl, fun j p hj => (hall j p hj).1, fun p hp => ?_⟩
  obtain ⟨j, hj⟩ := List.getElem?_of_mem hp
  exact (hall j p hj).2
theorem open_row39 {v : Value} {d : DataW H} {p : List MemPlace} {r : Reach} {b0 : Nat} (hv : Value.okWide Try.prog W r b0 39 v) (h : DataW.Trod enc Try.prog W 0 sp held 39 v d p) :
    ∃ (a : Option Addr) (cap : Nat) (l : List (T × T)), v = .slice a l.length cap ∧ PRow W.heap.size W a l ∧ ShortP l ∧ l.length ≤ maxLen := by
  obtain ⟨a0, len, cap, rfl⟩ := okWide_slice Try.underlying39 hv
  obtain ⟨fuel, hf⟩ := h
  rcases DataW.trod_slice Try.underlying39 hf with ⟨hcs, _⟩ | ⟨a, len', cap', elems, rest, n2, hn2, hcs, _, _, hlc, hcm, hle, hel, _⟩
  · simp only [Value.cells, List.cons.injEq, Value.slice.injEq] at hcs
    obtain ⟨⟨rfl, rfl, rfl⟩, _⟩ := hcs
    exact ⟨none, 0, [], rfl, (fun j p hj => by simp at hj), (fun p hp => by cases hp), Nat.zero_le _⟩
  · simp only [Value.cells, List.cons.injEq, Value.slice.injEq] at hcs
    obtain ⟨⟨rfl, rfl, rfl⟩, _⟩ := hcs
    rw [cells41] at hel
    obtain ⟨l, hl, hrow, hsh⟩ := prow_of hle hel
    exact ⟨some a, cap, l, by rw [hl], hrow, hsh, by omega⟩
end
end Go.Proofs.Ytfjddfcndammdaa
