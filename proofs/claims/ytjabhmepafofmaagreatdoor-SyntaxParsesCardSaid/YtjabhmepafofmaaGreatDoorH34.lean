/- Rn -/
import Derived.Test.YtjabhmepafofmaaGreatDoorH21
set_option linter.unusedVariables false
set_option linter.unusedSimpArgs false
namespace Go.Proofs.YtjabhmepafofmaaGreatDoor
open Go.RowKit
mutual
def nT : T → Nat
  | .mk _ _ _ l => 1 + nTs l
def nTs : List T → Nat
  | [] => 0
  | t :: r => nT t + nTs r
end
def nCs : List C → Nat
  | [] => 0
  | c :: r => nT c.ty + nCs r
mutual
def nE : E → Nat
  | .mk _ _ _ _ l r d => 1 + (nEs l + nRs r + nDs d)
def nEs : List E → Nat
  | [] => 0
  | t :: r => nE t + nEs r
def nR : R → Nat
  | .mk p e => nT p + nE e
def nRs : List R → Nat
  | [] => 0
  | t :: r => nR t + nRs r
def nF : F → Nat
  | .mk _ _ e => nE e
def nFs : List F → Nat
  | [] => 0
  | t :: r => nF t + nFs r
def nD : D → Nat
  | .mk _ _ _ c f t e => 1 + (nE e + nT t + nCs c + nFs f)
def nDs : List D → Nat
  | [] => 0
  | t :: r => nD t + nDs r
end
theorem nTs_mem : ∀ {l : List T} {t : T}, t ∈ l → nT t ≤ nTs l
  | x :: r, t, h => by
    simp only [nTs]
    rcases List.mem_cons.1 h with rfl | h
    · omega
    · have := nTs_mem h
      omega
theorem nEs_mem : ∀ {l : List E} {t : E}, t ∈ l → nE t ≤ nEs l
  | x :: r, t, h => by
    simp only [nEs]
    rcases List.mem_cons.1 h with rfl | h
    · omega
    · have := nEs_mem h
      omega
theorem nRs_mem : ∀ {l : List R} {t : R}, t ∈ l → nR t ≤ nRs l
  | x :: r, t, h => by
    simp only [nRs]
    rcases List.mem_cons.1 h with rfl | h
    · omega
    · have := nRs_mem h
      omega
theorem nFs_mem : ∀ {l : List F} {t : F}, t ∈ l → nF t ≤ nFs l
  | x :: r, t, h => by
    simp only [nFs]
    rcases List.mem_cons.1 h with rfl | h
    · omega
    · have := nFs_mem h
      omega
theorem nDs_mem : ∀ {l : List D} {t : D}, t ∈ l → nD t ≤ nDs l
  | x :: r, t, h => by
    simp only [nDs]
    rcases List.mem_cons.1 h with rfl | h
    · omega
    · have := nDs_mem h
      omega
/-- few enough -/
abbrev Few (n : Nat) : Prop := n < 4611686018427387904
theorem up_small {x : Int} (h0 : 0 ≤ x) (h : x < 4611686018427387904) : up x = 1 + x := by
  unfold up wrap64
  omega
mutual
theorem dT_le : ∀ t : T, Few (nT t) → 0 ≤ dT t ∧ dT t ≤ nT t
  | .mk k s n l, h => by
    simp only [nT] at h
    have h1 := dTs_le l (Nat.lt_of_le_of_lt (by omega) h)
    simp only [dT, nT]
    split
    · omega
    · rw [up_small h1.1 (by omega)]
      omega
theorem dTs_le : ∀ t : List T, Few (nTs t) → 0 ≤ dTs t ∧ dTs t ≤ nTs t
  | [], h => by simp only [dTs, nTs]; omega
  | t :: r, h => by
    simp only [nTs] at h
    have h1 := dT_le t (Nat.lt_of_le_of_lt (by omega) h)
    have h2 := dTs_le r (Nat.lt_of_le_of_lt (by omega) h)
    simp only [dTs, nTs]
    omega
end
mutual
theorem dP_le : ∀ t : T, Few (nT t) → 0 ≤ dP t ∧ dP t ≤ nT t
  | .mk k s n l, h => by
    simp only [nT] at h
    have h1 := dPs_le l (Nat.lt_of_le_of_lt (by omega) h)
    simp only [dP, nT]
    rw [up_small h1.1 (by omega)]
    omega
theorem dPs_le : ∀ t : List T, Few (nTs t) → 0 ≤ dPs t ∧ dPs t ≤ nTs t
  | [], h => by simp only [dPs, nTs]; omega
  | t :: r, h => by
    simp only [nTs] at h
    have h1 := dP_le t (Nat.lt_of_le_of_lt (by omega) h)
    have h2 := dPs_le r (Nat.lt_of_le_of_lt (by omega) h)
    simp only [dPs, nTs]
    omega
end
theorem dCs_le : ∀ c : List C, Few (nCs c) → 0 ≤ mx (c.map fun c => dT c.ty) ∧ mx (c.map fun c => dT c.ty) ≤ nCs c
  | [], h => by simp only [List.map_nil, mx, nCs]; omega
  | t :: r, h => by
    simp only [nCs] at h
    have h1 := dT_le t.ty (Nat.lt_of_le_of_lt (by omega) h)
    have h2 := dCs_le r (Nat.lt_of_le_of_lt (by omega) h)
    simp only [List.map_cons, mx, nCs]
    omega
mutual
theorem dE_le : ∀ t : E, Few (nE t) → 0 ≤ dE t ∧ dE t ≤ nE t
  | .mk k s n u l r d, h => by
    simp only [nE] at h
    have h1 := dEs_le l (Nat.lt_of_le_of_lt (by omega) h)
    have h2 := dRs_le r (Nat.lt_of_le_of_lt (by omega) h)
    have h3 := dDs_le d (Nat.lt_of_le_of_lt (by omega) h)
    simp only [dE, nE]
    split
    · omega
    · rw [up_small (by omega) (by omega)]
      omega
theorem dEs_le : ∀ t : List E, Few (nEs t) → 0 ≤ dEs t ∧ dEs t ≤ nEs t
  | [], h => by simp only [dEs, nEs]; omega
  | t :: r, h => by
    simp only [nEs] at h
    have h1 := dE_le t (Nat.lt_of_le_of_lt (by omega) h)
    have h2 := dEs_le r (Nat.lt_of_le_of_lt (by omega) h)
    simp only [dEs, nEs]
    omega
theorem dR_le : ∀ t : R, Few (nR t) → 0 ≤ dR t ∧ dR t ≤ nR t
  | .mk p e, h => by
    simp only [nR] at h
    have h1 := dP_le p (Nat.lt_of_le_of_lt (by omega) h)
    have h2 := dE_le e (Nat.lt_of_le_of_lt (by omega) h)
    simp only [dR, nR]
    omega
theorem dRs_le : ∀ t : List R, Few (nRs t) → 0 ≤ dRs t ∧ dRs t ≤ nRs t
  | [], h => by simp only [dRs, nRs]; omega
  | t :: r, h => by
    simp only [nRs] at h
    have h1 := dR_le t (Nat.lt_of_le_of_lt (by omega) h)
    have h2 := dRs_le r (Nat.lt_of_le_of_lt (by omega) h)
    simp only [dRs, nRs]
    omega
theorem dF_le : ∀ t : F, Few (nF t) → 0 ≤ dF t ∧ dF t ≤ nF t
  | .mk s a e, h => by
    simp only [nF] at h
    simp only [dF, nF]
    exact dE_le e h
theorem dFs_le : ∀ t : List F, Few (nFs t) → 0 ≤ dFs t ∧ dFs t ≤ nFs t
  | [], h => by simp only [dFs, nFs]; omega
  | t :: r, h => by
    simp only [nFs] at h
    have h1 := dF_le t (Nat.lt_of_le_of_lt (by omega) h)
    have h2 := dFs_le r (Nat.lt_of_le_of_lt (by omega) h)
    simp only [dFs, nFs]
    omega
theorem dD_le : ∀ t : D, Few (nD t) → 0 ≤ dD t ∧ dD t ≤ nD t
  | .mk k s v c f t e, h => by
    simp only [nD] at h
    have h1 := dE_le e (Nat.lt_of_le_of_lt (by omega) h)
    have h2 := dT_le t (Nat.lt_of_le_of_lt (by omega) h)
    have h3 := dCs_le c (Nat.lt_of_le_of_lt (by omega) h)
    have h4 := dFs_le f (Nat.lt_of_le_of_lt (by omega) h)
    simp only [dD, nD]
    rw [up_small (by omega) (by omega)]
    omega
theorem dDs_le : ∀ t : List D, Few (nDs t) → 0 ≤ dDs t ∧ dDs t ≤ nDs t
  | [], h => by simp only [dDs, nDs]; omega
  | t :: r, h => by
    simp only [nDs] at h
    have h1 := dD_le t (Nat.lt_of_le_of_lt (by omega) h)
    have h2 := dDs_le r (Nat.lt_of_le_of_lt (by omega) h)
    simp only [dDs, nDs]
    omega
end
end Go.Proofs.YtjabhmepafofmaaGreatDoor
