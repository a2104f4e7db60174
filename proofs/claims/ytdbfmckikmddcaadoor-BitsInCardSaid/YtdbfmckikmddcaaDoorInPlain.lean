/- Plain: what is in behind steps is what was set last; how many. -/
import Derived.Test.YtdbfmckikmddcaaDoorWk
namespace Go.Proofs.YtdbfmckikmddcaaDoor
/-- does a number come again? -/
def again (r : List (Bool × Int)) (p : Int) : Bool := r.any fun x => x.2 == p
/-- is a number set by a step, where it may be? -/
def puts (n : Nat) (x : Bool × Int) : Bool := !x.1 && (decide (0 ≤ x.2) && decide (x.2 < n))
def goodAt (n : Nat) (l : List (Bool × Int)) (i : Nat) : Bool := match l[i]? with
  | some x => !again (l.drop (i + 1)) x.2 && puts n x
  | none => false
def G (n : Nat) : List (Bool × Int) → Nat
  | [] => 0
  | x :: r => (!again r x.2 && puts n x).toNat + G n r
theorem cnt_good (n : Nat) (l : List (Bool × Int)) : Plain.cnt (goodAt n l) l.length = G n l := by
  induction l with
  | nil => rfl
  | cons x r ih =>
    rw [List.length_cons, Nat.add_comm, Plain.cnt_add, show (1 : Nat) = 0 + 1 from rfl]
    simp only [Plain.cnt, G, Nat.zero_add]
    rw [← ih]
    congr 1
    exact Plain.cnt_congr fun j hj => by
      unfold goodAt
      rw [show 1 + j = j + 1 by omega]
      simp
theorem cnt_split (g : Nat → Bool) (p n : Nat) : Plain.cnt g n = Plain.cnt (fun j => decide (j ≠ p) && g j) n + (if p < n then (g p).toNat else 0) := by
  induction n with
  | zero => simp [Plain.cnt]
  | succ n ih =>
    simp only [Plain.cnt, ih]
    by_cases h : n = p
    · subst h
      simp
    · by_cases h2 : p < n
      · have : p < n + 1 := by omega
        simp [h, h2, this]; omega
      · have : ¬ p < n + 1 := by omega
        simp [h, h2, this]
theorem step_other {n : Nat} {f : Nat → Bool} {x : Bool × Int} {j : Nat} (h : (j : Int) ≠ x.2) : step1 n f x j = f j := by
  have e : ∀ v, Plain.upd f x.2.toNat v j = if j = x.2.toNat then v else f j := fun _ => rfl
  unfold step1 setF clrF
  by_cases hr : 0 ≤ x.2 ∧ x.2 < n
  · have hne : ¬ j = x.2.toNat := by omega
    cases x.1 <;> simp only [if_pos hr, Bool.false_eq_true, if_false, if_true, e, if_neg hne]
  · cases x.1 <;> simp only [if_neg hr, Bool.false_eq_true, if_false, if_true]
theorem step_self {n : Nat} {f : Nat → Bool} {x : Bool × Int} {j : Nat} (h : (j : Int) = x.2) (hj : j < n) : step1 n f x j = !x.1 := by
  unfold step1 setF clrF Plain.upd
  cases hx : x.1
  · simp only [Bool.false_eq_true, if_false]; rw [if_pos (by omega)]; rw [if_pos (by omega)]; rfl
  · simp only [if_true]; rw [if_pos (by omega)]; rw [if_pos (by omega)]; rfl
theorem count_run (n : Nat) : ∀ (l : List (Bool × Int)) (f : Nat → Bool), Plain.cnt (runF n f l) n = G n l + Plain.cnt (fun j => !again l j && f j) n
  | [], f => by simp [runF, G, again]
  | x :: r, f => by
    have ih := count_run n r (step1 n f x)
    have e : runF n f (x :: r) = runF n (step1 n f x) r := rfl
    rw [e, ih, G]
    by_cases hp : 0 ≤ x.2 ∧ x.2 < n
    · obtain ⟨p, hpe⟩ := Int.eq_ofNat_of_zero_le hp.1
      have hpn : p < n := by omega
      rw [cnt_split (fun j => !again r j && step1 n f x j) p n, if_pos hpn, step_self (by omega) hpn]
      have e1 : Plain.cnt (fun j => decide (j ≠ p) && (!again r j && step1 n f x j)) n = Plain.cnt (fun j => !again (x :: r) j && f j) n := Plain.cnt_congr fun j _ => by
        by_cases hj : j = p
        · subst hj; simp [again, hpe]
        · have : (j : Int) ≠ x.2 := by omega
          rw [step_other this]
          have h3 : (x.2 == (j : Int)) = false := by simp; omega
          simp [again, hj, h3]
      rw [e1, hpe]
      have e2 : puts n x = !x.1 := by simp [puts, hpe, hpn]
      rw [e2]
      omega
    · have e2 : puts n x = false := by
        unfold puts
        have : (decide (0 ≤ x.2) && decide (x.2 < n)) = false := by simp; omega
        rw [this]; simp
      rw [e2]
      have e1 : Plain.cnt (fun j => !again r j && step1 n f x j) n = Plain.cnt (fun j => !again (x :: r) j && f j) n := Plain.cnt_congr fun j hj => by
        have : (j : Int) ≠ x.2 := by omega
        rw [step_other this]
        have h3 : (x.2 == (j : Int)) = false := by simp; omega
        simp [again, h3]
      rw [e1]
      simp
theorem count_in (n : Nat) (l : List (Bool × Int)) : Plain.cnt (goodAt n l) l.length = Plain.cnt (runF n g0 l) n := by
  rw [cnt_good, count_run]
  have : Plain.cnt (fun j => !again l j && g0 j) n = 0 := by
    rw [Plain.cnt_congr (g := fun _ => false) (fun j _ => by simp [g0]), Plain.cnt_none]
  omega
theorem run_other (n : Nat) : ∀ (l : List (Bool × Int)) (f : Nat → Bool) (j : Nat), again l j = false → runF n f l j = f j
  | [], _, _, _ => rfl
  | x :: r, f, j, h => by
    simp only [again, List.any_cons, Bool.or_eq_false_iff, beq_eq_false_iff_ne] at h
    have e : runF n f (x :: r) = runF n (step1 n f x) r := rfl
    rw [e, run_other n r _ j h.2, step_other (by omega)]
/-- the last step on a number decides -/
theorem last_wins (n : Nat) (l : List (Bool × Int)) (i : Nat) (x : Bool × Int) (hx : l[i]? = some x) (h : again (l.drop (i + 1)) x.2 = false) : mem n (runF n g0 l) x.2 = puts n x := by
  by_cases hp : 0 ≤ x.2 ∧ x.2 < n
  · obtain ⟨p, hpe⟩ := Int.eq_ofNat_of_zero_le hp.1
    have hpn : p < n := by omega
    rw [hpe, mem_in hpn]
    have hsp : l = l.take i ++ x :: l.drop (i + 1) := by
      obtain ⟨hi, he⟩ := List.getElem?_eq_some_iff.1 hx
      rw [← he, List.getElem_cons_drop, List.take_append_drop]
    have e : runF n g0 l = runF n (step1 n (runF n g0 (l.take i)) x) (l.drop (i + 1)) := by
      conv => lhs; rw [hsp]
      unfold runF
      rw [List.foldl_append]
      rfl
    rw [hpe] at h
    rw [e, run_other n _ _ p h, step_self (by omega) hpn]
    simp [puts, hpe, hpn]
  · rw [mem_out (by omega)]
    unfold puts
    have : (decide (0 ≤ x.2) && decide (x.2 < n)) = false := by simp; omega
    rw [this]; simp
end Go.Proofs.YtdbfmckikmddcaaDoor
