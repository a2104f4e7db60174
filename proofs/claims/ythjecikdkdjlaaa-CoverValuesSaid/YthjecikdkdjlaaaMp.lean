/- Heads as the keys of maps. -/
import Derived.Test.YthjecikdkdjlaaaRw
import Derived.Maps.OwnSet
import Derived.Maps.GroupsBeside
import Derived.WideKeyArgs
import Derived.DeepKeys4
namespace Go.Proofs.Ythjecikdkdjlaaa
open Go.RowKit

theorem laidOut : laidOutB Try.prog = true := by kernel_rfl
theorem row66 : (66 : TypeId) < Try.prog.types.size := of_decide_eq_true (by kernel_rfl)
theorem wide66 : (match Try.prog.underlying 66 with | some (.array _ _) | some (.struct _) => true | _ => false) = true := by rw [Try.underlying66]
theorem law66 : WideMaps.KeyLaw Try.prog 66 := deep_law_laid laidOut (m := 2) (by omega) row66 (by kernel_rfl) wide66
theorem keyed66 : Maps.Keyed Try.prog 66 := Maps.Keyed.of_law law66
theorem formed66 (h : Hd) : (hdV h).formed Try.prog 66 = true := by
  simp only [hdV, Value.formed, Try.underlying66]
  kernel_rfl
theorem keyType66 : Try.prog.keyType 66 = true := by kernel_rfl
structure Hd.Wf (h : Hd) : Prop where
  kind : h.kind < 256
  num : (Lit.int .i64 h.num).wf = true
  many : (Lit.int .i64 h.many).wf = true
  name : h.name.size ≤ maxLen
  of : h.of.size ≤ maxLen
theorem cells5 : Try.prog.cellsOf 2 = 1 ∧ Try.prog.cellsOf 5 = 1 ∧ Try.prog.cellsOf 3 = 1 ∧ Try.prog.cellsOf 9 = 1 ∧ Try.prog.cellsOf 66 = 5 := ⟨by kernel_rfl, by kernel_rfl, by kernel_rfl, by kernel_rfl, by kernel_rfl⟩
theorem types_pos : ∃ m, Try.prog.types.size = m + 1 := ⟨Try.prog.types.size - 1, by have : (66 : Nat) < Try.prog.types.size := row66; omega⟩
theorem key_hd {h : Hd} (hw : h.Wf) : ∃ l, keyOf Try.prog 66 (hdV h) = some l := by
  obtain ⟨k, n, m, s, o⟩ := h
  obtain ⟨h1, h2, h3, h4, h5⟩ := hw
  obtain ⟨c2, c5, c3, c9, c66⟩ := cells5
  obtain ⟨z, hz⟩ := types_pos
  have hk : (Lit.int .u8 (k : Int)).wf = true := by
    have : k < 256 := h1
    have h1 : IntKind.u8.min = 0 := by rfl
    have h2 : IntKind.u8.max = 255 := by rfl
    simp only [Lit.wf, h1, h2]
    simp
    omega
  have h2' : (Lit.int .i64 n).wf = true := h2
  have h3' : (Lit.int .i64 m).wf = true := h3
  have h4' : s.size ≤ maxLen := h4
  have h5' : o.size ≤ maxLen := h5
  have hlit : ∃ ls, Try.prog.keyLits (Try.prog.types.size + 1) 66 (hdV ⟨k, n, m, s, o⟩).cells.toList = some ls := by
    rw [hz]
    unfold Program.keyLits
    rw [Try.underlying66]
    simp only [hdV, Value.cells]
    simp [Program.keyLits, c2, c5, c3, c9, c66, hk, h2', h3', h4', h5']
  obtain ⟨ls, hls⟩ := hlit
  refine ⟨.string (keyBytes ls), ?_⟩
  unfold keyOf
  rw [Try.underlying66]
  simp only
  rw [keyType66, formed66, hls]
  rfl
end Go.Proofs.Ythjecikdkdjlaaa
