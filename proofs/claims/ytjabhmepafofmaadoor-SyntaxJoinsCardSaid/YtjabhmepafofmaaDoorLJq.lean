/- SyntaxJoins: the plain law: the declarations of two programs. -/
import Derived.Test.YtjabhmepafofmaaDoorLJp
import Derived.Test.YtjabhmepafofmaaDoorG18
set_option linter.unusedVariables false
set_option linter.unusedSimpArgs false
namespace Go.Proofs.YtjabhmepafofmaaDoor
open Go.RowKit

theorem progR_fuel {l : List Tok} {g : Gr} : ∀ (N M : Nat) (acc : List D) (p : Nat), progR l g N acc p ≠ .out → N ≤ M → progR l g M acc p = progR l g N acc p
  | 0, M, acc, p, h, _ => absurd rfl h
  | N + 1, 0, acc, p, h, hM => by omega
  | N + 1, M + 1, acc, p, h, hM => by
    simp only [progR] at h ⊢
    split
    · rename_i hlt
      rw [if_pos hlt] at h
      cases hr : (g.dec true).run l p with
      | out => rfl
      | fail r => rfl
      | ok d r =>
        rw [hr] at h
        simp only [Re.andThen] at h ⊢
        rcases must_stop l ⟨#[59]⟩ r with hm | hm
        · rw [hm] at h ⊢
          exact progR_fuel N M _ _ h (by omega)
        · rw [hm]
    · rfl
/-- some declarations ahead -/
def Re.behind (k : Nat) (acc : List D) : Re (List D) → Re (List D)
  | .ok ds q => .ok (acc ++ ds) (k + q)
  | .fail q => .fail (k + q)
  | .out => .out
theorem progR_moved {l l2 : List Tok} {g : Gr} {k : Nat} (G : NPG g) (hlen : l2.length = k + l.length) (h : ∀ i, ∃ p, l2.getD (k + i) zTok = at0 p (l.getD i zTok)) (pre : List D) : ∀ (N : Nat) (acc : List D) (p : Nat), progR l2 g N (pre ++ acc) (k + p) = (progR l g N acc p).behind k pre
  | 0, acc, p => rfl
  | N + 1, acc, p => by
    simp only [progR]
    by_cases hlt : p < l.length
    · rw [if_pos hlt, if_pos (by omega), run_moved h _ p (G.dec true)]
      cases hr : (g.dec true).run l p with
      | out => rfl
      | fail r => rfl
      | ok d r =>
        simp only [Re.up, Re.andThen]
        rw [run_moved h _ r (np_must _)]
        rcases must_stop l ⟨#[59]⟩ r with hm | hm
        · rw [hm]
          simp only [Re.up]
          rw [List.append_assoc]
          exact progR_moved G hlen h pre N (acc ++ [d]) (r + 1)
        · rw [hm]
          rfl
    · rw [if_neg hlt, if_neg (by omega)]
      rfl
/-- one program behind another -/
theorem progR_first {l m : List Tok} {g : Gr} : ∀ (N : Nat) (acc ds : List D) (p q : Nat), p ≤ l.length → progR l g N acc p = .ok ds q → ∀ N2, ∃ N3, N2 ≤ N3 ∧ progR (l ++ m) g (N + N2) acc p = progR (l ++ m) g N3 ds l.length
  | 0, acc, ds, p, q, hp, h, N2 => by cases h
  | N + 1, acc, ds, p, q, hp, h, N2 => by
    rw [show N + 1 + N2 = N + N2 + 1 by omega]
    simp only [progR] at h
    by_cases hlt : p < l.length
    · rw [if_pos hlt] at h
      cases hr : (g.dec true).run l p with
      | out => rw [hr] at h; cases h
      | fail r => rw [hr] at h; cases h
      | ok d r =>
        have hr2 := run_agree l (l ++ m) (g.dec true) p (by rw [hr]; exact fun e => by cases e)
        rw [hr] at h hr2
        simp only [Re.andThen] at h
        cases hs : seesB (l.getD r zTok) [⟨#[59]⟩] with
        | false =>
          have hm : (must ⟨#[59]⟩).run l r = .fail r := by simp only [must, Pr.run, hs, Bool.false_eq_true, if_false]
          rw [hm] at h
          cases h
        | true =>
          have hm : (must ⟨#[59]⟩).run l r = .ok () (r + 1) := by simp only [must, Pr.run, hs, if_true]
          have h3 := lt_of_sees hs
          rw [hm] at h
          obtain ⟨N3, h4, h5⟩ := progR_first N _ _ _ _ (by omega) h N2
          refine ⟨N3, h4, ?_⟩
          rw [← h5]
          conv => lhs; unfold progR
          have hm2 : (must ⟨#[59]⟩).run (l ++ m) r = .ok () (r + 1) := by simp only [must, Pr.run, getD_left h3, hs, if_true]
          rw [if_pos (by simp; omega), hr2 (fun i hx => (getD_left (by have : i ≤ r := hx; omega)).symm)]
          simp only [Re.andThen]
          rw [hm2]
    · rw [if_neg hlt] at h
      cases h
      exact ⟨N + N2 + 1, by omega, by rw [show p = l.length by omega]⟩
section
variable {a b all : List Tok} {n M : Nat}
theorem getD_past {i : Nat} : (a ++ b).getD (a.length + i) zTok = b.getD i zTok := by
  simp only [List.getD_eq_getElem?_getD, List.getElem?_append_right (Nat.le_add_right _ _), Nat.add_sub_cancel_left]
/-- tokens that stand elsewhere say the same -/
theorem progR_same (hlen : all.length = a.length) (h : ∀ i, ∃ p, all.getD i zTok = at0 p (a.getD i zTok)) : progR all (gram n) M [] 0 = progR a (gram n) M [] 0 := by
  have := progR_moved (k := 0) (l := a) (l2 := all) (np_gram n) (by omega) (fun i => by rw [Nat.zero_add]; exact h i) [] M [] 0
  rw [show ([] : List D) ++ [] = [] from rfl, show 0 + 0 = 0 from rfl] at this
  rw [this]
  cases progR a (gram n) M [] 0 with
  | out => rfl
  | fail q => simp [Re.behind]
  | ok ds q => simp [Re.behind]
/-- of a program the declarations, and of what stands behind it -/
theorem joins_ok {p : List D} {q : Nat} (hn : (a.length + b.length) * 40 + 1 ≤ n) (hM : a.length + b.length + 1 ≤ M) (ha : progR a (gram n) M [] 0 = .ok p q) : progR (a ++ b) (gram n) M [] 0 = (progR b (gram n) M [] 0).behind a.length p := by
  obtain ⟨N3, h1, h2⟩ := progR_first (m := b) M [] p 0 q (Nat.zero_le _) ha M
  have h3 := progR_moved (k := a.length) (l := b) (l2 := a ++ b) (np_gram n) (by simp) (fun i => ⟨(b.getD i zTok).pos, getD_past⟩) p N3 [] 0
  rw [List.append_nil, Nat.add_zero] at h3
  have e1 := progR_end (l := a ++ b) (n := n) (by simp; omega) M [] 0 (Nat.zero_le _) (by simp; omega)
  have o1 : progR (a ++ b) (gram n) M [] 0 ≠ .out := fun e => by rw [e] at e1; exact e1
  have e2 := progR_end (l := b) (n := n) (by omega) M [] 0 (Nat.zero_le _) (by omega)
  have o2 : progR b (gram n) M [] 0 ≠ .out := fun e => by rw [e] at e2; exact e2
  rw [← progR_fuel M (M + M) _ _ o1 (by omega), h2, h3, progR_fuel M N3 _ _ o2 h1]
theorem joins_fail {q r : Nat} {ds : List D} (hn : (a.length + b.length) * 40 + 1 ≤ n) (hM : a.length + b.length + 1 ≤ M) (ha : progR a (gram n) M [] 0 = .fail q) (h : progR (a ++ b) (gram n) M [] 0 = .ok ds r) : ds ≠ [] := by
  have e1 := progR_end (l := a ++ b) (n := n) (by simp; omega) M [] 0 (Nat.zero_le _) (by simp; omega)
  rw [h] at e1
  obtain ⟨_, x, e, hx⟩ := e1
  have hl : 0 < a.length := by
    cases M with
    | zero => cases ha
    | succ M =>
      simp only [progR] at ha
      split at ha
      · assumption
      · cases ha
  rw [e]
  exact hx (by simp; omega)
theorem dProg_join (p q : List D) : dProg (p ++ q) = max (dProg p) (dProg q) := by
  simp only [dProg, List.map_append, mx_append]
end
end Go.Proofs.YtjabhmepafofmaaDoor
