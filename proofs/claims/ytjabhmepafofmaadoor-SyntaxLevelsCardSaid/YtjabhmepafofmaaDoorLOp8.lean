/- What comes in: a row of bytes. -/
import Derived.Test.YtjabhmepafofmaaDoorLOd
import Derived.Test.YtjabhmepafofmaaDoorLLu
set_option linter.unusedVariables false
set_option linter.unusedSimpArgs false
namespace Go.Proofs.YtjabhmepafofmaaDoor
open Go.ChangeShapes Go.WideShapes Go.ChangeAt Go.RowKit Go.Deep

set_option maxRecDepth 100000 in
theorem open_picks {H : Type} {enc : TypeId × Value → H} {W : World} {sp : Nat → Bool} {held : Bool} {v : Value} {d : DataW H} {p : List MemPlace} {r : Reach} {b0 : Nat} (hv : Value.okWide Tryd.prog W r b0 52 v) (h : DataW.Trod enc Tryd.prog W 0 sp held 52 v d p) :
  ∃ (a : Option Addr) (cap : Nat) (l : List Nat), v = .slice a l.length cap ∧ PicksAt W a l := by
 obtain ⟨a0, len, cap, rfl⟩ := okWide_slice Tryd.underlying52 hv
 obtain ⟨fuel, hf⟩ := h
 obtain ⟨a, l, cap', e, hx, _⟩ := open_rowX (x := fun k : Fin 256 => [xk k.val]) (n := fun _ => 0) (ns := fun _ => 0) rfl (fun _ _ => rfl) Tryd.underlying52 cofK (by decide) (fun m _ cs y h => by
  obtain ⟨k, e, _, hw⟩ := DataW.trod_int Tryd.underlying5 h
  have h1 : IntKind.u8.min ≤ k ∧ k ≤ IntKind.u8.max := by simpa [Lit.wf] using hw
  have e1 : IntKind.u8.min = 0 := rfl
  have e2 : IntKind.u8.max = 255 := rfl
  obtain ⟨q, rfl⟩ : ∃ q : Nat, k = (q : Int) := ⟨k.toNat, by omega⟩
  refine ⟨⟨q, by omega⟩, ?_, Nat.zero_le _⟩
  rw [e]
  exact hc_cons (hx_lit _) hc_end) hf
 simp only [Value.cells, List.cons.injEq, and_true] at e
 rw [e]
 refine ⟨a, cap', l.map fun k => k.val, by rw [List.length_map], fun j k hj => ?_⟩
 rw [List.getElem?_map] at hj
 obtain ⟨f, hf, rfl⟩ := Option.map_eq_some_iff.1 hj
 obtain ⟨g, o, cs, e2, _, _, hc, hx2⟩ := hx_at hx (j := j) (x := [xk f.val]) (by rw [List.getElem?_map, hf]; rfl)
 obtain ⟨_, rfl, h1⟩ := hc_lit hx2
 obtain rfl := hc_nil h1
 exact ⟨Nat.le_of_lt_succ f.isLt, g, o, e2, by have := hc 0 _ rfl; rwa [Nat.mul_one, Nat.add_zero] at this⟩
end Go.Proofs.YtjabhmepafofmaaDoor
