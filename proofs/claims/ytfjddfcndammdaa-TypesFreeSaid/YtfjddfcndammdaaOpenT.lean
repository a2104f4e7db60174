/- What the laws' arguments are in memory: types, rows of types. -/
import Derived.Test.YtfjddfcndammdaaPost
import Derived.Test.YtfjddfcndammdaaBk
namespace Go.Proofs.Ytfjddfcndammdaa
open Go.ChangeShapes Go.WideShapes Go.ChangeAt Go.RowKit Go.Deep
theorem cells24 : Try.prog.cellsOf 24 = 4 := by kernel_rfl
theorem list_of {P : Nat → T → Prop} : ∀ (n : Nat), (∀ i, i < n → ∃ t, P i t) → ∃ l : List T, l.length = n ∧ ∀ (i : Nat) (t : T), l[i]? = some t → P i t
  | 0, _ => ⟨[], rfl, fun i t h => by simp at h⟩
  | n + 1, h => by
    obtain ⟨l, h1, h2⟩ := list_of n (fun i hi => h i (by omega))
    obtain ⟨t, ht⟩ := h n (by omega)
    refine ⟨l ++ [t], by simp [h1], fun i u hu => ?_⟩
    rcases Nat.lt_or_ge i n with hi | hi
    · rw [List.getElem?_append_left (by omega)] at hu
      exact h2 i u hu
    · rw [List.getElem?_append_right (by omega), h1] at hu
      have hlt := (List.getElem?_eq_some_iff.1 hu).1
      simp at hlt
      have e : i = n := by omega
      subst e
      simp at hu
      rw [← hu]
      exact ht
theorem is_none' {B0 : Nat} {ok : Nat → Prop} {w : World} (k : Nat) (s : ByteArray) (n : Int) : Is B0 ok w (.mk k s n []) (.agg #[.int .u8 k, .string s, .int .i64 n, .slice none 0 0]) := by
  simp only [Is]
  exact ⟨none, 0, rfl, by simp [Row]⟩
mutual
/-- rows in it are no longer than rows may be -/
def Short : T → Prop
  | .mk _ _ _ l => l.length ≤ maxLen ∧ ShortL l
def ShortL : List T → Prop
  | [] => True
  | t :: r => Short t ∧ ShortL r
end
theorem shortL_of : ∀ (l : List T), (∀ (i : Nat) (t : T), l[i]? = some t → Short t) → ShortL l
  | [], _ => by simp [ShortL]
  | t :: r, h => by
    simp only [ShortL]
    exact ⟨h 0 t rfl, shortL_of r fun i u hu => h (i + 1) u (by simpa using hu)⟩
theorem shortL_at : ∀ (l : List T), ShortL l → ∀ (i : Nat) (t : T), l[i]? = some t → Short t
  | [], _, i, t, h => by simp at h
  | x :: r, hs, 0, t, h => by
    simp only [ShortL] at hs
    simp only [List.getElem?_cons_zero, Option.some.injEq] at h
    rw [← h]
    exact hs.1
  | x :: r, hs, i + 1, t, h => by
    simp only [ShortL] at hs
    exact shortL_at r hs.2 i t (by simpa using h)
section
variable {H : Type} {enc : TypeId × Value → H} {W : World} {sp : Nat → Bool} {held : Bool}
/-- rows of types, where each element is one -/
theorem row_of {n : Nat} {a : Addr} {len : Nat} {elems : List (DataW H × List MemPlace)} (hlen : elems.length = len)
    (hIH : ∀ (cs : List Value) (x : DataW H × List MemPlace), DataW.trod enc Try.prog W 0 sp held n 24 cs = some x → ∃ t c0 c1 c2 c3, cs = [c0, c1, c2, c3] ∧ IsT W.heap.size W t (.agg #[c0, c1, c2, c3]) ∧ Short t)
    (hel : ∀ i, i < len → (W.cells? 0 (a.add (i * 4)) 4).bind (DataW.trod enc Try.prog W 0 sp held n 24) = elems[i]?) : ∃ l : List T, l.length = len ∧ Row W.heap.size (fun _ => True) W (some a) 0 l ∧ ShortL l := by
  have key : ∀ i, i < len → ∃ t, ∃ b off c0 c1 c2 c3, a = ⟨b, off, none⟩ ∧ W.cell? ⟨b, off + i * 4, none⟩ = some c0 ∧ W.cell? ⟨b, off + i * 4 + 1, none⟩ = some c1 ∧ W.cell? ⟨b, off + i * 4 + 2, none⟩ = some c2 ∧ W.cell? ⟨b, off + i * 4 + 3, none⟩ = some c3 ∧
      IsT W.heap.size W t (.agg #[c0, c1, c2, c3]) ∧ Short t := by
    have first : ∀ i, i < len → ∃ cs, W.cells? 0 (a.add (i * 4)) 4 = some cs ∧ ∃ x, DataW.trod enc Try.prog W 0 sp held n 24 cs = some x := by
      intro i hi
      have h := hel i hi
      rw [List.getElem?_eq_getElem (by omega)] at h
      cases hc : W.cells? 0 (a.add (i * 4)) 4 with
      | none => rw [hc] at h; cases h
      | some cs =>
        rw [hc] at h
        exact ⟨cs, rfl, _, h⟩
    intro i hi
    obtain ⟨cs, hcs, x, hx⟩ := first i hi
    obtain ⟨t, c0, c1, c2, c3, rfl, hi1, hs⟩ := hIH cs x hx
    obtain ⟨_, _, hcell⟩ := World.cells?_some hcs
    obtain ⟨cs0, hcs0, x0, hx0⟩ := first 0 (by omega)
    obtain ⟨t0, d0, d1, d2, d3, rfl, _, _⟩ := hIH cs0 x0 hx0
    obtain ⟨_, _, hcell0⟩ := World.cells?_some hcs0
    have h00 := hcell0 0 (by omega)
    rw [Nat.zero_mul] at h00
    have cell := fun (j : Nat) (hj : j < 4) => hcell j hj
    have g0 : W.cell? (a.add 0) = some d0 := by
      have : (a.add 0).add 0 = a.add 0 := by rw [Go.Deep.add_add]
      rw [this] at h00
      simpa using h00
    have get : ∀ (j : Nat) (u : Value), j < 4 → [c0, c1, c2, c3][j]? = some u → ∃ b off, a = ⟨b, off, none⟩ ∧ W.cell? ⟨b, off + (i * 4 + j), none⟩ = some u := by
      intro j u hj hu
      have h := cell j hj
      rw [Go.Deep.add_add, hu] at h
      exact plain_addr h ⟨_, g0⟩
    obtain ⟨b, off, ha, k0⟩ := get 0 c0 (by omega) rfl
    subst ha
    obtain ⟨b1, o1, e1, k1⟩ := get 1 c1 (by omega) rfl
    obtain ⟨b2, o2, e2, k2⟩ := get 2 c2 (by omega) rfl
    obtain ⟨b3, o3, e3, k3⟩ := get 3 c3 (by omega) rfl
    simp only [Addr.mk.injEq, and_true] at e1 e2 e3
    obtain ⟨rfl, rfl⟩ := e1
    obtain ⟨rfl, rfl⟩ := e2
    obtain ⟨rfl, rfl⟩ := e3
    exact ⟨t, b, off, c0, c1, c2, c3, rfl, by simpa using k0, by simpa [Nat.add_assoc] using k1, by simpa [Nat.add_assoc] using k2, by simpa [Nat.add_assoc] using k3, hi1, hs⟩
  obtain ⟨l, hl, hall⟩ := list_of len key
  refine ⟨l, hl, Row.of_at 0 l fun j t hj => ?_, shortL_of l fun i t ht => ?_⟩
  · obtain ⟨b, off, c0, c1, c2, c3, rfl, k0, k1, k2, k3, hi, _⟩ := hall j t hj
    rw [Nat.zero_add]
    exact ⟨b, off, c0, c1, c2, c3, rfl, trivial, .inl (World.block_lt_of_cell? W _ k0), k0, k1, k2, k3, hi⟩
  · obtain ⟨_, _, _, _, _, _, _, _, _, _, _, _, hs⟩ := hall i t ht
    exact hs
theorem one_cell {cs : List Value} (h : cs.length = 4) : ∃ c0 c1 c2 c3, cs = [c0, c1, c2, c3] := by
  match cs, h with
  | [c0, c1, c2, c3], _ => exact ⟨c0, c1, c2, c3, rfl⟩
theorem open_ty : ∀ (fuel : Nat) (cs : List Value) (x : DataW H × List MemPlace), DataW.trod enc Try.prog W 0 sp held fuel 24 cs = some x → ∃ t c0 c1 c2 c3, cs = [c0, c1, c2, c3] ∧ IsT W.heap.size W t (.agg #[c0, c1, c2, c3]) ∧ Short t := by
  intro fuel
  induction fuel using Nat.strongRecOn with
  | _ fuel ih =>
    intro cs x h
    obtain ⟨xs, n, rfl, _, hlen, hxl, hf⟩ := DataW.trod_struct Try.underlying24 h
    rw [cells24] at hlen
    obtain ⟨c0, c1, c2, c3, rfl⟩ := one_cell hlen
    have get : ∀ (i : Nat) (hi : i < xs.length), xs[i]? = some xs[i] := fun i hi => List.getElem?_eq_getElem hi
    have hxl4 : xs.length = 4 := hxl
    have f0 : DataW.trod enc Try.prog W 0 sp held n 5 (([c0, c1, c2, c3].drop 0).take (Try.prog.cellsOf 5)) = xs[0]? := hf 0 _ rfl
    have f1 : DataW.trod enc Try.prog W 0 sp held n 9 (([c0, c1, c2, c3].drop 1).take (Try.prog.cellsOf 9)) = xs[1]? := hf 1 _ rfl
    have f2 : DataW.trod enc Try.prog W 0 sp held n 3 (([c0, c1, c2, c3].drop 2).take (Try.prog.cellsOf 3)) = xs[2]? := hf 2 _ rfl
    have f3 : DataW.trod enc Try.prog W 0 sp held n 22 (([c0, c1, c2, c3].drop 3).take (Try.prog.cellsOf 22)) = xs[3]? := hf 3 _ rfl
    rw [get 0 (by omega)] at f0
    rw [get 1 (by omega)] at f1
    rw [get 2 (by omega)] at f2
    rw [get 3 (by omega)] at f3
    have e5 : Try.prog.cellsOf 5 = 1 := by kernel_rfl
    have e9 : Try.prog.cellsOf 9 = 1 := by kernel_rfl
    have e3 : Try.prog.cellsOf 3 = 1 := by kernel_rfl
    have e22 : Try.prog.cellsOf 22 = 1 := by kernel_rfl
    rw [e5] at f0
    rw [e9] at f1
    rw [e3] at f2
    rw [e22] at f3
    obtain ⟨k, hk, _, hkw⟩ := DataW.trod_int Try.underlying5 f0
    obtain ⟨s, hs, _, _⟩ := DataW.trod_string Try.underlying9 f1
    obtain ⟨m, hm, _, _⟩ := DataW.trod_int Try.underlying3 f2
    simp at hk hs hm
    have hk0 : 0 ≤ k := by
      have h1 : IntKind.u8.min ≤ k ∧ k ≤ IntKind.u8.max := by simpa [Lit.wf] using hkw
      have e1 : IntKind.u8.min = 0 := rfl
      omega
    obtain ⟨kn, rfl⟩ : ∃ kn : Nat, k = kn := ⟨k.toNat, by omega⟩
    rcases DataW.trod_slice Try.underlying22 f3 with ⟨hcs, _⟩ | ⟨a, len, cap, elems, rest, n2, hn2, hcs, _, _, hlc, hcm, hle, hel, _⟩
    · simp at hcs
      subst hk hs hm hcs
      exact ⟨.mk kn s m [], _, _, _, _, rfl, is_none' kn s m, by simp [Short, ShortL]⟩
    · simp at hcs
      subst hk hs hm hcs
      rw [cells24] at hel
      obtain ⟨l, hl, hrow, hsh⟩ := row_of hle (fun cs x hx => ih n2 (by omega) cs x hx) hel
      refine ⟨.mk kn s m l, _, _, _, _, rfl, ?_, ?_⟩
      · simp only [IsT, Is]
        exact ⟨some a, cap, by rw [hl], hrow⟩
      · simp only [Short]
        exact ⟨by omega, hsh⟩
/-- an argument that is a type -/
theorem open_t {v : Value} {d : DataW H} {p : List MemPlace} (hv : ∃ cs, v = .agg cs) (h : DataW.Trod enc Try.prog W 0 sp held 24 v d p) : ∃ t, IsT W.heap.size W t v ∧ Short t := by
  obtain ⟨fuel, hf⟩ := h
  obtain ⟨cs, rfl⟩ := hv
  obtain ⟨t, c0, c1, c2, c3, hcs, hi, hs⟩ := open_ty fuel _ _ hf
  have : cs = #[c0, c1, c2, c3] := by
    have h2 : cs.toList = [c0, c1, c2, c3] := hcs
    exact Array.toList_inj.1 h2
  subst this
  exact ⟨t, hi, hs⟩
/-- an argument that is a row of types -/
theorem open_row22 {v : Value} {d : DataW H} {p : List MemPlace} {r : Reach} {b0 : Nat} (hv : Value.okWide Try.prog W r b0 22 v) (h : DataW.Trod enc Try.prog W 0 sp held 22 v d p) :
    ∃ (a : Option Addr) (cap : Nat) (l : List T), v = .slice a l.length cap ∧ Row W.heap.size (fun _ => True) W a 0 l ∧ ShortL l ∧ l.length ≤ maxLen := by
  obtain ⟨a0, len, cap, rfl⟩ := okWide_slice Try.underlying22 hv
  obtain ⟨fuel, hf⟩ := h
  rcases DataW.trod_slice Try.underlying22 hf with ⟨hcs, _⟩ | ⟨a, len', cap', elems, rest, n2, hn2, hcs, _, _, hlc, hcm, hle, hel, _⟩
  · simp only [Value.cells, List.cons.injEq, Value.slice.injEq] at hcs
    obtain ⟨⟨rfl, rfl, rfl⟩, _⟩ := hcs
    exact ⟨none, 0, [], rfl, by simp [Row], by simp [ShortL], Nat.zero_le _⟩
  · simp only [Value.cells, List.cons.injEq, Value.slice.injEq] at hcs
    obtain ⟨⟨rfl, rfl, rfl⟩, _⟩ := hcs
    rw [cells24] at hel
    obtain ⟨l, hl, hrow, hsh⟩ := row_of hle (fun cs x hx => open_ty n2 cs x hx) hel
    exact ⟨some a, cap, l, by rw [hl], hrow, hsh, by omega⟩
end
end Go.Proofs.Ytfjddfcndammdaa
