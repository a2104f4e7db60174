/- Patterns of unlike sorts, with too much or too little: what Check says. Plain. -/
import Derived.Test.YthjecikdkdjlaaaWw
import Derived.WalkKit
namespace Go.Proofs.Ythjecikdkdjlaaa
open Go.RowKit

def nNone : ByteArray := ⟨#[78, 111, 110, 101]⟩
def nSome : ByteArray := ⟨#[83, 111, 109, 101]⟩
def nCons : ByteArray := ⟨#[67, 111, 110, 115]⟩
def nE : ByteArray := ⟨#[69]⟩
def nZ : ByteArray := ⟨#[90]⟩
def eight : List T := [.mk 3 ⟨#[]⟩ 0 [], .mk 4 ⟨#[]⟩ 0 [], .mk 5 ⟨#[]⟩ 0 [anyP, anyP], .mk 5 ⟨#[]⟩ 0 [anyP, anyP, anyP], conP sTrue [], conP nNone [], conP nE [], conP nCons [anyP]]
def eightAt (i : Nat) : T := eight.getD i anyP
def someN : Nat → T → T
  | 0, p => p
  | n + 1, p => conP nSome [someN n p]
def tupN : Nat → T → T
  | 0, p => p
  | n + 1, p => .mk 5 ⟨#[]⟩ 0 [anyP, tupN n p]
theorem someN_parts : ∀ (n : Nat) (p : T), parts (someN n p) = n + parts p
  | 0, p => by simp [someN]
  | n + 1, p => by
    simp only [someN, conP, parts, partsL, someN_parts n p]
    omega
theorem tupN_parts : ∀ (n : Nat) (p : T), parts (tupN n p) = 2 * n + parts p
  | 0, p => by simp [tupN]
  | n + 1, p => by
    simp only [tupN, anyP, parts, partsL, tupN_parts n p]
    omega
theorem eight_parts : ∀ i, i < 8 → parts (eightAt i) ≤ 4 := by decide
def cOne : T := conP sTrue [anyP]
def dOne : T := conP nSome []
def zOne : T := conP nZ []
theorem fits_e0 : ((List.range 8).all fun i => (List.range 8).all fun j => (List.range 9).all fun d =>
    decide (checkF infos18 100 [someN d (eightAt i), someN d (eightAt j)] false = if i = j then 14 else 13) && decide (unkL infos18 [someN d (eightAt i), someN d (eightAt j), someN d zOne] = true)) = true := by kernel_rfl
theorem fits_c0 : ((List.range 9).all fun d => decide (checkF infos18 100 [tupN d cOne] false = 13) && decide (checkF infos18 100 [someN d dOne] false = 13)) = true := by kernel_rfl
theorem fits_e {i j d : Nat} (hi : i < 8) (hj : j < 8) (hd : d < 9) : checkP infos18 [someN d (eightAt i), someN d (eightAt j)] false = (if i = j then 14 else 13) ∧ checkP infos18 [someN d (eightAt i), someN d (eightAt j), someN d zOne] false = 12 := by
  have h := List.all_eq_true.1 (List.all_eq_true.1 (List.all_eq_true.1 fits_e0 i (List.mem_range.2 hi)) j (List.mem_range.2 hj)) d (List.mem_range.2 hd)
  rw [Bool.and_eq_true] at h
  have p1 := eight_parts i hi
  have p2 := eight_parts j hj
  constructor
  · rw [← checkF_eq infos18 100 _ _ (by simp only [partsL, someN_parts]; omega)]
    exact of_decide_eq_true h.1
  · unfold checkP
    rw [if_neg (by simp only [partsL, someN_parts, zOne, conP, parts]; omega), of_decide_eq_true h.2]
    rfl
theorem fits_c {d : Nat} (hd : d < 9) : checkP infos18 [tupN d cOne] false = 13 ∧ checkP infos18 [someN d dOne] false = 13 := by
  have h := List.all_eq_true.1 fits_c0 d (List.mem_range.2 hd)
  rw [Bool.and_eq_true] at h
  constructor
  · rw [← checkF_eq infos18 100 _ _ (by simp only [partsL, tupN_parts, cOne, conP, anyP, parts]; omega)]
    exact of_decide_eq_true h.1
  · rw [← checkF_eq infos18 100 _ _ (by simp only [partsL, someN_parts, dOne, conP, parts]; omega)]
    exact of_decide_eq_true h.2
theorem fits_k : checkP infos18 [.mk 7 ⟨#[]⟩ 0 []] false = 13 ∧ checkP infos18 [.mk 5 ⟨#[]⟩ 0 [anyP]] false = 13 := by
  constructor
  · rw [← checkF_eq infos18 20 _ _ (by decide)]
    decide
  · rw [← checkF_eq infos18 20 _ _ (by decide)]
    decide
end Go.Proofs.Ythjecikdkdjlaaa
