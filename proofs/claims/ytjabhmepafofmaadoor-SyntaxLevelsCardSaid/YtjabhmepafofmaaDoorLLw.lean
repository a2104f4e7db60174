/- SyntaxLevels: the operators, and how tight they are. -/
import Derived.Test.YtjabhmepafofmaaDoorLLq
import Derived.Test.YtjabhmepafofmaaDoorLSe
import Derived.Test.YtjabhmepafofmaaDoorG24
set_option linter.unusedVariables false
set_option linter.unusedSimpArgs false
namespace Go.Proofs.YtjabhmepafofmaaDoor
open Go.RowKit

abbrev opB (i : Nat) : ByteArray := Sc.mk (opS i)
abbrev nmB (j : Nat) : ByteArray := Sc.mk (nmS j)
def opCells : Array Value := #[.string ⟨#[58, 61]⟩, .string ⟨#[61]⟩, .string ⟨#[60]⟩, .string ⟨#[94]⟩, .string ⟨#[43]⟩, .string ⟨#[45]⟩, .string ⟨#[42]⟩, .string ⟨#[100, 105, 118]⟩, .string ⟨#[109, 111, 100]⟩]
theorem opCells_at : ∀ i, i < 9 → opCells[i]? = some (.string (opB i)) := by
 intro i hi
 have hi : i = 0 ∨ i = 1 ∨ i = 2 ∨ i = 3 ∨ i = 4 ∨ i = 5 ∨ i = 6 ∨ i = 7 ∨ i = 8 := by omega
 rcases hi with rfl | rfl | rfl | rfl | rfl | rfl | rfl | rfl | rfl <;> rfl
theorem ops_any (w : World) : Calls Tryd.prog 16 #[] w fun e w' => Fr No w w' ∧ ∃ g, e = .returned (.slice (some ⟨g, 0, none⟩) 9 9) ∧ w.heap.size ≤ g ∧ w'.heap[g]? = some (.cells opCells 9 (0, 0)) := by
 go_enter Tryd.func16, Tryd.ntmps16
 go_wp2_with fail
 go_ret
 exact ⟨Fr.alloc _ _, _, rfl, Nat.le_refl _, new_block _ _⟩
theorem tight_lit (s : ByteArray) (n : Nat) (h : (s, n) = (⟨#[58, 61]⟩, 0) ∨ (s, n) = (⟨#[61]⟩, 1) ∨ (s, n) = (⟨#[60]⟩, 1) ∨ (s, n) = (⟨#[94]⟩, 2) ∨ (s, n) = (⟨#[43]⟩, 3) ∨ (s, n) = (⟨#[45]⟩, 3) ∨ (s, n) = (⟨#[42]⟩, 4) ∨ (s, n) = (⟨#[100, 105, 118]⟩, 4) ∨ (s, n) = (⟨#[109, 111, 100]⟩, 4)) (w : World) :
  Calls Tryd.prog 17 #[.string s] w fun e w' => e = .returned (.int .i64 (n : Nat)) ∧ w = w' := by
 rcases h with h | h | h | h | h | h | h | h | h
 all_goals
  cases h
  go_enter Tryd.func17, Tryd.ntmps17
  go_wp2_with fail
  go_ret
  exact ⟨rfl, rfl⟩
theorem tight_any {i : Nat} (hi : i < 9) (w : World) : Calls Tryd.prog 17 #[.string (opB i)] w fun e w' => e = .returned (.int .i64 (tt i : Nat)) ∧ w = w' := by
 refine tight_lit _ _ ?_ w
 have hi : i = 0 ∨ i = 1 ∨ i = 2 ∨ i = 3 ∨ i = 4 ∨ i = 5 ∨ i = 6 ∨ i = 7 ∨ i = 8 := by omega
 rcases hi with rfl | rfl | rfl | rfl | rfl | rfl | rfl | rfl | rfl
 ·
  exact .inl rfl
 ·
  exact .inr (.inl rfl)
 ·
  exact .inr (.inr (.inl rfl))
 ·
  exact .inr (.inr (.inr (.inl rfl)))
 ·
  exact .inr (.inr (.inr (.inr (.inl rfl))))
 ·
  exact .inr (.inr (.inr (.inr (.inr (.inl rfl)))))
 ·
  exact .inr (.inr (.inr (.inr (.inr (.inr (.inl rfl))))))
 ·
  exact .inr (.inr (.inr (.inr (.inr (.inr (.inr (.inl rfl)))))))
 ·
  exact .inr (.inr (.inr (.inr (.inr (.inr (.inr (.inr rfl)))))))
/-- a part of a row -/
theorem hx_sub {ok : Nat → Prop} {w : World} {k n cp : Nat} {a : Option Addr} {ls : List (List X)} (h : Hx ok w (.row k ls) (.slice a n cp)) (hk : 0 < k) (lo hi : Nat) (h1 : lo ≤ hi) (h2 : hi ≤ n) (cp2 : Nat) (hc : hi - lo ≤ cp2) (hc2 : cp2 ≤ maxLen) {g off : Nat} (ha : a = some ⟨g, off, none⟩) :
  Hx ok w (.row k ((ls.take hi).drop lo)) (.slice (some ⟨g, off + lo * k, none⟩) (hi - lo) cp2) := by
 have hn : ls.length = n := by
  obtain ⟨_, _, e⟩ := hx_slice h
  cases e
  rfl
 simp only [Hx]
 refine ⟨some ⟨g, off + lo * k, none⟩, cp2, by simp; omega, (fun e => by cases e), ⟨by simp; omega, hc2⟩, Hrow.of_at hk 0 _ fun j x hj => ?_⟩
 have hj2 : ls[lo + j]? = some x := by
  rw [List.getElem?_drop, List.getElem?_take] at hj
  split at hj
  ·
   exact hj
  ·
   cases hj
 obtain ⟨g', off', c, e, ho, hl, hcell, hx⟩ := hx_at h hj2
 rw [ha] at e
 cases e
 refine ⟨g, off + lo * k, c, rfl, ho, hl, fun m u hu => ?_, hx⟩
 have := hcell m u hu
 rw [Nat.add_mul] at this
 rw [Nat.zero_add, show off + lo * k + j * k + m = off + (lo * k + j * k) + m by omega]
 exact this
end Go.Proofs.YtjabhmepafofmaaDoor
