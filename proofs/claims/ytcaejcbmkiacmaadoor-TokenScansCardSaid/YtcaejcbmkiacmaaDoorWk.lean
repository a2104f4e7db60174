/- The document's Word; bytes of a string. -/
import Derived.Test.YtcaejcbmkiacmaaDoorWj
namespace Go.Proofs.YtcaejcbmkiacmaaDoor
open Go.RowKit

def strV (l : List Bs) : List Value := l.map fun x => Value.string (mk x)
theorem strs_new (w : World) (l : List Bs) (t : TypeId) (z : Nat × Nat) : ∀ (i : Nat) (y : Bs), l[i]? = some y → (w.alloc (.cells (strV l).toArray t z)).cell? ⟨w.heap.size, 0 + i, none⟩ = some (.string (mk y)) := by
  intro i y hi
  have hb := last_block w (.cells (strV l).toArray t z)
  rw [Nat.zero_add]
  simp only [World.cell?, hb]
  simp [strV, hi]
theorem words_new (w : World) : Calls Tryd.prog 28 #[] w fun e w' => e = .returned (.slice (some ⟨w.heap.size, 0, none⟩) 22 22) ∧ w' = w.alloc (.cells (strV words).toArray 9) := by
  go_enter Tryd.func28, Tryd.ntmps28
  go_wp2_with fail
  go_ret
  exact ⟨rfl, rfl⟩
theorem refWord_any (x : Bs) (w : World) : Calls Tryd.prog 16 #[.string (mk x)] w (Said w (decide (x ∈ words))) := by
  go_enter Tryd.func16, Tryd.ntmps16
  go_wp2_with fail
  refine (words_new w).mono ?_
  rintro e w1 ⟨rfl, rfl⟩
  go_wp2_with fail
  refine (in_any words x _ (Lib.hid rfl) w.heap.size 0 22 22 _ (by decide) (Lib.hid rfl) (Lib.hid (strs_new w words 9 (0, 0)))).mono ?_
  rintro e w2 ⟨rfl, rfl⟩
  go_wp2_with fail
  go_ret
  exact ⟨rfl, below_alloc w _⟩
theorem srcAt_bytes (w : World) (l : Bs) (t : TypeId) (c : Nat) (z : Nat × Nat) : SrcAt (w.drew.alloc (.cells (bytesRow (mk l) c) t z)) (some ⟨w.heap.size, 0, none⟩) l := by
  intro i x hi
  refine ⟨w.heap.size, 0, rfl, ?_⟩
  have hb : (w.drew.alloc (.cells (bytesRow (mk l) c) t z)).heap[w.heap.size]? = some (.cells (bytesRow (mk l) c) t z) := last_block w.drew _
  rw [Nat.zero_add]
  simp only [World.cell?, hb]
  have hl : i < l.length := (List.getElem?_eq_some_iff.1 hi).1
  simp [bytesRow, mk, Array.getElem?_append, hl, List.getElem?_eq_getElem hl] at hi ⊢
  rw [hi]
theorem below_bytes (w : World) (o : Obj) : Below w.heap.size w (w.drew.alloc o) := ((Below.refl _ w).drew).alloc (Nat.le_refl _) o
end Go.Proofs.YtcaejcbmkiacmaaDoor
