/- Se -/
import Derived.Test.YtjabhmepafofmaaGreatDoorH26
import Derived.Test.YtjabhmepafofmaaGreatDoorH27
import Derived.Test.YtjabhmepafofmaaGreatDoorH28
set_option linter.unusedVariables false
set_option linter.unusedSimpArgs false
namespace Go.Proofs.YtjabhmepafofmaaGreatDoor
open Go.RowKit
theorem sty_all : ∀ (n : Nat) (t : T), SizeOf.sizeOf t < n → ST t
 | 0, _, h => absurd h (Nat.not_lt_zero _)
 | n + 1, .mk k s m l, h => by
  refine sty_walk k s m l fun t ht => ?_
  have := List.sizeOf_lt_of_mem ht
  simp only [T.mk.sizeOf_spec] at h
  exact sty_all n t (by omega)
theorem same_ty (t : T) : ST t := sty_all _ t (Nat.lt_succ_self _)
theorem spat_all : ∀ (n : Nat) (t : T), SizeOf.sizeOf t < n → SPt t
 | 0, _, h => absurd h (Nat.not_lt_zero _)
 | n + 1, .mk k s m l, h => by
  refine spat_walk k s m l fun t ht => ?_
  have := List.sizeOf_lt_of_mem ht
  simp only [T.mk.sizeOf_spec] at h
  exact spat_all n t (by omega)
theorem same_pat (t : T) : SPt t := spat_all _ t (Nat.lt_succ_self _)
theorem sexp_all : ∀ (n : Nat), (∀ t : E, SizeOf.sizeOf t < n → SEx t) ∧ (∀ t : D, SizeOf.sizeOf t < n → SDe t)
 | 0 => ⟨fun _ h => absurd h (Nat.not_lt_zero _), fun _ h => absurd h (Nat.not_lt_zero _)⟩
 | n + 1 => by
  obtain ⟨h1, h2⟩ := sexp_all n
  refine ⟨fun t h => ?_, fun t h => ?_⟩
  ·
   obtain ⟨k, s, m, u, l, r, d⟩ := t
   simp only [E.mk.sizeOf_spec] at h
   refine sexp_walk k s m u l r d (fun t ht => h1 t (by have := List.sizeOf_lt_of_mem ht; omega)) (fun t ht => ?_) (sdecs_walk d fun t ht => h2 t (by have := List.sizeOf_lt_of_mem ht; omega))
   have := List.sizeOf_lt_of_mem ht
   obtain ⟨p, e⟩ := t
   simp only [R.mk.sizeOf_spec] at this
   exact ⟨same_pat p, h1 e (by omega)⟩
  ·
   obtain ⟨k, s, v, c, f, t, e⟩ := t
   simp only [D.mk.sizeOf_spec] at h
   refine sdec_walk k s v c f t e (fun c _ => same_ty c.ty) (fun t ht => ?_) (same_ty t) (h1 e (by omega))
   have := List.sizeOf_lt_of_mem ht
   obtain ⟨s, a, e⟩ := t
   simp only [F.mk.sizeOf_spec] at this
   exact h1 e (by omega)
theorem same_exp (t : E) : SEx t := (sexp_all _).1 t (Nat.lt_succ_self _)
theorem same_decs (l : List D) : SDs l := sdecs_walk l fun t _ => (sexp_all _).2 t (Nat.lt_succ_self _)
end Go.Proofs.YtjabhmepafofmaaGreatDoor
