/- SyntaxJoins: what a call of Parse hands back, as three values. -/
import Derived.Test.YtjabhmepafofmaaDoorLJq
import Derived.Test.YtjabhmepafofmaaDoorLJm
import Derived.Test.YtjabhmepafofmaaDoorG24
set_option linter.unusedVariables false
set_option linter.unusedSimpArgs false
namespace Go.Proofs.YtjabhmepafofmaaDoor
open Go.RowKit

/-- the declarations, the place and the error of a program -/
def PR (w : World) : Re (List D) → Value → Int → Int → Prop
  | .fail q, v, p, e => v = .slice none 0 0 ∧ p = (q : Nat) ∧ e = 11
  | .ok ds _, v, p, e => p = 0 ∧ ((100 < dProg ds ∧ v = .slice none 0 0 ∧ e = 16) ∨ (¬ 100 < dProg ds ∧ e = 0 ∧ Hx (fun b => b < w.heap.size) w (.row 16 (ds.map xD)) v))
  | .out, _, _, _ => False
theorem hx_below {ok : Nat → Prop} {w : World} {x : X} {v : Value} (h : Hx ok w x v) : Hx (fun b => b < w.heap.size) w x v := Hx.mono h fun _ hb _ => hb
theorem parse_pr {w w' : World} {R : Re (List D)} {e : Ending} (h : ParseR w R e w') : ∃ v p x, e = .returned (.tuple #[v, .int .i64 p, .int .i64 x]) ∧ Fr No w w' ∧ PR w' R v p x := by
  cases R with
  | out => exact h.elim
  | fail q => exact ⟨_, _, _, h.1, h.2, rfl, rfl, rfl⟩
  | ok ds q =>
    simp only [ParseR] at h
    obtain ⟨hf, h⟩ := h
    by_cases hd : 100 < dProg ds
    · rw [if_pos hd] at h
      exact ⟨_, _, _, h, hf, rfl, .inl ⟨hd, rfl, rfl⟩⟩
    · rw [if_neg hd] at h
      obtain ⟨v, e, hx⟩ := h
      exact ⟨_, _, _, e, hf, rfl, .inr ⟨hd, rfl, hx_below hx⟩⟩
theorem hx_up {w w' : World} {x : X} {v : Value} (h : Hx (fun b => b < w.heap.size) w x v) (hf : Fr No w w') : Hx (fun b => b < w'.heap.size) w' x v := hx_below (h.no hf)
theorem PR.no {w w' : World} {R : Re (List D)} {v : Value} {p x : Int} (h : PR w R v p x) (hf : Fr No w w') : PR w' R v p x := by
  cases R with
  | out => exact h
  | fail q => exact h
  | ok ds q =>
    obtain ⟨h0, h⟩ := h
    exact ⟨h0, h.imp id fun h => ⟨h.1, h.2.1, hx_up h.2.2 hf⟩⟩
/-- a program has no more declarations than tokens -/
theorem progR_len {l : List Tok} {g : Gr} : ∀ (N : Nat) (acc ds : List D) (p q : Nat), progR l g N acc p = .ok ds q → ds.length + p ≤ acc.length + q
  | 0, acc, ds, p, q, h => by cases h
  | N + 1, acc, ds, p, q, h => by
    simp only [progR] at h
    split at h
    · cases hr : (g.dec true).run l p with
      | out => rw [hr] at h; cases h
      | fail r => rw [hr] at h; cases h
      | ok d r =>
        have h1 := run_mono l _ _ _ _ hr
        rw [hr] at h
        simp only [Re.andThen] at h
        rcases must_stop l ⟨#[59]⟩ r with hm | hm
        · rw [hm] at h
          have := progR_len N _ _ _ _ h
          simp at this
          omega
        · rw [hm] at h
          cases h
    · cases h
      exact Nat.le_refl _
end Go.Proofs.YtjabhmepafofmaaDoor
