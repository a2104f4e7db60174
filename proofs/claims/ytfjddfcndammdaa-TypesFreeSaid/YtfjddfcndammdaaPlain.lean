/- Types in plain Lean: how many parts they have, which may be, which are one, how deep they are. -/
import Derived.Test.YtfjddfcndammdaaBase
namespace Go.Proofs.Ytfjddfcndammdaa

mutual
def parts : T → Nat
  | .mk _ _ _ l => 1 + partsL l
def partsL : List T → Nat
  | [] => 0
  | t :: r => parts t + partsL r
end
theorem parts_pos (t : T) : 1 ≤ parts t := by
  cases t
  simp only [parts]
  omega
theorem partsL_len : ∀ l : List T, l.length ≤ partsL l
  | [] => Nat.le_refl _
  | t :: r => by
    have h1 := partsL_len r
    have h2 := parts_pos t
    simp only [List.length_cons, partsL]
    omega
theorem parts_kid : ∀ (l : List T) (j : Nat) (t : T), l[j]? = some t → parts t ≤ partsL l
  | [], j, t, h => by simp at h
  | x :: r, 0, t, h => by
    simp only [List.getElem?_cons_zero, Option.some.injEq] at h
    subst h
    simp only [partsL]
    omega
  | x :: r, j + 1, t, h => by
    have := parts_kid r j t (by simpa using h)
    simp only [partsL]
    omega
def emptyS (s : ByteArray) : Bool := s.toList.isEmpty
mutual
/-- may a type be? -/
def right : T → Bool
  | .mk k s n l => if k = 1 then decide (0 ≤ n) && (emptyS s && l.isEmpty)
    else if k = 2 then !emptyS s && (decide (n = 0) && rightL l)
    else if k = 3 then emptyS s && (decide (l.length = 2) && (decide (n = 0) && rightL l))
    else if k = 4 then emptyS s && (decide (2 ≤ l.length) && (decide (n = 0) && rightL l))
    else false
def rightL : List T → Bool
  | [] => true
  | t :: r => right t && rightL r
end
theorem rightL_iff : ∀ l : List T, rightL l = true ↔ ∀ (j : Nat) (t : T), l[j]? = some t → right t = true
  | [] => by simp [rightL]
  | x :: r => by
    simp only [rightL, Bool.and_eq_true, rightL_iff r]
    constructor
    · rintro ⟨h1, h2⟩ j t h
      cases j with
      | zero =>
        simp only [List.getElem?_cons_zero, Option.some.injEq] at h
        rw [← h]
        exact h1
      | succ j => exact h2 j t (by simpa using h)
    · intro h
      exact ⟨h 0 x rfl, fun j t hj => h (j + 1) t (by simpa using hj)⟩
mutual
/-- are two types one? -/
def same : T → T → Bool
  | .mk k s n l, .mk k' s' n' l' => decide (k = k') && (decide (s = s') && (decide (n = n') && sameL l l'))
def sameL : List T → List T → Bool
  | [], [] => true
  | a :: r, b :: s => same a b && sameL r s
  | _, _ => false
end
mutual
theorem same_iff : ∀ s t : T, same s t = true ↔ s = t
  | .mk k s n l, .mk k' s' n' l' => by
    simp only [same, Bool.and_eq_true, decide_eq_true_eq, sameL_iff l l', T.mk.injEq]
theorem sameL_iff : ∀ l m : List T, sameL l m = true ↔ l = m
  | [], [] => by simp [sameL]
  | [], _ :: _ => by simp [sameL]
  | _ :: _, [] => by simp [sameL]
  | a :: r, b :: s => by simp only [sameL, Bool.and_eq_true, same_iff a b, sameL_iff r s, List.cons.injEq]
end
mutual
def depthT : T → Nat
  | .mk _ _ _ l => depthL l + 1
def depthL : List T → Nat
  | [] => 0
  | t :: r => max (depthT t) (depthL r)
end
end Go.Proofs.Ytfjddfcndammdaa
