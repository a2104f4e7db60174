/- What the laws' arguments are in memory: steps; and the table of math/bits. -/
import Derived.Test.YtdbfmckikmddcaaDoorPost
import Derived.Test.YtdbfmckikmddcaaDoorWj
namespace Go.Proofs.YtdbfmckikmddcaaDoor
open Go.ChangeShapes Go.WideShapes Go.ChangeAt Go.RowKit Go.Deep

theorem own : ownKnob Tryd.prog.godebug = none := by kernel_rfl
theorem gTab : Tryd.prog.globalNamed "math/bits.deBruijn64tab" = some 0 := by kernel_rfl
theorem gTabType : (Tryd.prog.globals[0]?).map (·.type) = some 62 := by kernel_rfl
theorem cells62 : Tryd.prog.cellsOf 62 = 64 := by kernel_rfl
theorem cells5 : Tryd.prog.cellsOf 5 = 1 := by kernel_rfl
theorem cells36 : Tryd.prog.cellsOf 36 = 2 := by kernel_rfl
theorem laidOut : laidOutB Tryd.prog = true := by kernel_rfl
theorem stepFields : ∃ fs : Array Field, Tryd.prog.underlying 36 = some (.struct fs) ∧ oneCellFields Tryd.prog fs = true ∧ fs.size = 2 ∧ (fs[0]?).map (·.type) = some 4 ∧ (fs[1]?).map (·.type) = some 3 :=
  ⟨_, Tryd.underlying36, by kernel_rfl, by kernel_rfl, by kernel_rfl, by kernel_rfl⟩

theorem table_of {W : World} (h : laidMetH Tryd.prog [("math/bits.deBruijn64tab", Rows.laid_math_bits_deBruijn64tab)] W) : Table W := by
  have hT : Lib.TabIs Tryd.prog W "math/bits.deBruijn64tab" .u8 (Lib.deBruijn64tab.map fun (n : Nat) => (n : Int)) :=
    Lib.tabIs_of_head (rest := []) gTab gTabType Tryd.underlying62 Tryd.underlying5 cells5 cells62 h
  intro j hj
  have h1 := hT.cell gTab j (by simpa using hj)
  rw [h1]
  congr 2
  simp [List.getD, hj]

/-- a slice of steps that came in -/
theorem open_steps {H : Type} {enc : TypeId × Value → H} {W : World} {base b0 : Nat} {r : Reach} {v : Value} {d : DataW H} {p : List MemPlace} (hv : Value.okWide Tryd.prog W r b0 22 v)
    (h : DataW.Trod enc Tryd.prog W base (fun _ => true) true 22 v d p) : ∃ (a : Option Addr) (cap : Nat) (l : List (Bool × Int)), v = .slice a l.length cap ∧ StepsAt W a l := by
  obtain ⟨a0, len, cap, rfl⟩ := okWide_slice Tryd.underlying22 hv
  obtain ⟨fuel, hf⟩ := h
  obtain ⟨fs, hfs, hone, hsz, hf0, hf1⟩ := stepFields
  rcases open_slice_fields Tryd.underlying22 hfs hone (by rw [cells36, hsz]) hf with ⟨hcs, _⟩ | ⟨a, len', cap', m, D, Pl, hcs, _, hlc, _, hm, _, hi⟩
  · simp only [Value.cells, List.cons.injEq, Value.slice.injEq] at hcs
    obtain ⟨⟨rfl, rfl, rfl⟩, _⟩ := hcs
    exact ⟨none, 0, [], rfl, ⟨fun i x hx => by simp at hx⟩⟩
  · simp only [Value.cells, List.cons.injEq, Value.slice.injEq] at hcs
    obtain ⟨⟨rfl, rfl, rfl⟩, _⟩ := hcs
    simp only [if_true] at hm
    subst hm
    have two : ∀ i, i < len → ∃ x : Bool × Int, ∃ b off, some a = some (⟨b, off, none⟩ : Addr) ∧ W.cell? ⟨b, off + i * 2, none⟩ = some (.bool x.1) ∧ W.cell? ⟨b, off + i * 2 + 1, none⟩ = some (.int .i64 x.2) := by
      intro i hlt
      have z0 : ∃ v, W.cell? (a.add 0) = some v := by
        obtain ⟨ys, n, _, _, _, hj⟩ := hi 0 (by omega)
        obtain ⟨f0, hf0', _⟩ := Option.map_eq_some_iff.1 hf0
        obtain ⟨v, y, hc, _⟩ := hj 0 f0 hf0'
        rw [Nat.zero_mul, Nat.zero_add] at hc
        exact ⟨v, hc⟩
      obtain ⟨ys, n, _, _, _, hj⟩ := hi i (by omega)
      obtain ⟨f0, hf0', ht0⟩ := Option.map_eq_some_iff.1 hf0
      obtain ⟨f1, hf1', ht1⟩ := Option.map_eq_some_iff.1 hf1
      obtain ⟨v0, y0, hc0, _, hr0⟩ := hj 0 f0 hf0'
      obtain ⟨v1, y1, hc1, _, hr1⟩ := hj 1 f1 hf1'
      rw [hsz] at hc0 hc1
      rw [ht0] at hr0
      rw [ht1] at hr1
      obtain ⟨x0, e0, _⟩ := DataW.trod_bool Tryd.underlying4 hr0
      obtain ⟨x1, e1, _⟩ := DataW.trod_int Tryd.underlying3 hr1
      obtain ⟨b, off, ha, hc0'⟩ := plain_addr hc0 z0
      obtain ⟨b', off', ha', hc1'⟩ := plain_addr hc1 z0
      rw [ha] at ha'
      simp only [Addr.mk.injEq] at ha'
      obtain ⟨rfl, rfl, _⟩ := ha'
      simp only [List.cons.injEq, and_true] at e0 e1
      subst e0 e1
      exact ⟨(x0, x1), b, off, by rw [ha], by simpa using hc0', by simpa [Nat.add_assoc] using hc1'⟩
    obtain ⟨x, hx⟩ := choose_lt two
    refine ⟨some a, m, (List.range len).map x, by simp, ⟨fun i y hy => ?_⟩⟩
    obtain ⟨hil, hiy⟩ := List.getElem?_eq_some_iff.1 hy
    simp at hil hiy
    subst hiy
    exact hx i hil
end Go.Proofs.YtdbfmckikmddcaaDoor
