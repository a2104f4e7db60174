/- Check, so that it can be worked out: by fuel. -/
import Derived.Test.YthjecikdkdjlaaaCk
namespace Go.Proofs.Ythjecikdkdjlaaa
open Go.RowKit

def useF (is : List Inf) : Nat → List (List T) → List T → Bool
  | 0, _, _ => false
  | F + 1, rows, row => match row with
    | [] => rows.isEmpty
    | p :: r => if isWild p then (if whole is (firsts is rows) then (firsts is rows).any fun q => useF is F (allInto is q rows) (List.replicate q.kids.length anyP ++ r) else useF is F (restRows rows) r)
      else useF is F (allInto is p rows) (p.kids ++ r)
theorem useF_eq (is : List Inf) : ∀ (F : Nat) (rows : List (List T)) (row : List T), phi rows row < F → useF is F rows row = useW is rows row
  | 0, _, _, h => absurd h (Nat.not_lt_zero _)
  | F + 1, rows, [], h => by rw [useW_nil]; rfl
  | F + 1, rows, p :: r, h => by
    rw [useW_cons]
    simp only [useF]
    split
    · split
      · rw [Bool.eq_iff_iff, List.any_eq_true, List.any_eq_true]
        constructor <;> rintro ⟨q, hq, h1⟩ <;> refine ⟨q, hq, ?_⟩
        · rw [← useF_eq is F _ _ (Nat.lt_of_lt_of_le (phi_first hq) (Nat.le_of_lt_succ h))]; exact h1
        · rw [useF_eq is F _ _ (Nat.lt_of_lt_of_le (phi_first hq) (Nat.le_of_lt_succ h))]; exact h1
      · exact useF_eq is F _ _ (Nat.lt_of_lt_of_le phi_rest (Nat.le_of_lt_succ h))
    · rename_i hw
      exact useF_eq is F _ _ (Nat.lt_of_lt_of_le (phi_own (by simpa using hw)) (Nat.le_of_lt_succ h))
def fitsF (is : List Inf) : Nat → List T → Bool
  | 0, _ => false
  | F + 1, l => l.all (rightP is) && (sortOk is l && l.all fun q => isWild q || (List.range q.kids.length).all fun k => fitsF is F (colP is l (hdOf is q) k))
theorem fitsF_eq (is : List Inf) : ∀ (F : Nat) (l : List T), partsL l < F → fitsF is F l = fitsL is l
  | 0, _, h => absurd h (Nat.not_lt_zero _)
  | F + 1, l, h => by
    rw [fitsL_eq]
    simp only [fitsF]
    congr 2
    rw [Bool.eq_iff_iff, List.all_eq_true, List.all_eq_true]
    have key : ∀ q ∈ l, ∀ k, fitsF is F (colP is l (hdOf is q) k) = fitsL is (colP is l (hdOf is q) k) := fun q hq k => by
      refine fitsF_eq is F _ ?_
      have h1 := partsL_col is (hdOf is q) k l
      have h2 : 0 < l.length := List.length_pos_of_mem hq
      omega
    constructor <;> intro h1 q hq <;> have h2 := h1 q hq
    · simpa only [key q hq] using h2
    · simpa only [key q hq] using h2
def allUseF (is : List Inf) (F : Nat) : List T → List T → Bool
  | _, [] => true
  | a, p :: r => useF is F (a.map one) [p] && allUseF is F (a ++ [p]) r
theorem allUseF_eq (is : List Inf) (F : Nat) : ∀ (l a : List T), 1 + 2 * partsL a + 2 * partsL l < F → allUseF is F a l = allUse is a l
  | [], a, _ => rfl
  | p :: r, a, h => by
    simp only [partsL] at h
    simp only [allUseF, allUse]
    rw [allUseF_eq is F r (a ++ [p]) (by rw [partsL_append]; simp only [partsL]; omega), useF_eq]
    have h1 := wtL_le a
    have h2 := wt_le p
    simp only [phi, wtR_one, List.length_cons, List.length_nil, wtL]
    omega
def checkF (is : List Inf) (F : Nat) (l : List T) (wh : Bool) : Int :=
  if 200 < partsL l then 16 else if unkL is l then 12 else if fitsF is F l = false then 13 else if allUseF is F [] l = false then 14 else if wh && useF is F (l.map one) [anyP] then 14 else 0
theorem checkF_eq (is : List Inf) (F : Nat) (l : List T) (wh : Bool) (h : 2 * partsL l + 10 < F) : checkF is F l wh = checkP is l wh := by
  unfold checkF checkP
  rw [fitsF_eq is F l (by omega), allUseF_eq is F l [] (by simp only [partsL]; omega), useF_eq]
  have h1 := wtL_le l
  simp only [phi, wtR_one, List.length_cons, List.length_nil, wtL]
  have : wt anyP = 0 := rfl
  omega
def bs (l : List UInt8) : ByteArray := ⟨l.toArray⟩
/-- the infos of the laws -/
def infos18 : List Inf := [
  ⟨⟨#[102, 97, 108, 115, 101]⟩, ⟨#[98, 111, 111, 108]⟩, 0, 2, false⟩, ⟨⟨#[116, 114, 117, 101]⟩, ⟨#[98, 111, 111, 108]⟩, 1, 2, false⟩,
  ⟨⟨#[78, 111, 110, 101]⟩, ⟨#[111, 112, 116, 105, 111, 110]⟩, 0, 2, false⟩, ⟨⟨#[83, 111, 109, 101]⟩, ⟨#[111, 112, 116, 105, 111, 110]⟩, 1, 2, true⟩,
  ⟨⟨#[78, 105, 108]⟩, ⟨#[108, 105, 115, 116]⟩, 0, 2, false⟩, ⟨⟨#[67, 111, 110, 115]⟩, ⟨#[108, 105, 115, 116]⟩, 1, 2, true⟩,
  ⟨⟨#[69]⟩, ⟨#[101, 120, 110]⟩, 3, 5, false⟩, ⟨⟨#[70]⟩, ⟨#[101, 120, 110]⟩, 4, 5, false⟩]
def sTrue : ByteArray := ⟨#[116, 114, 117, 101]⟩
def sFalse : ByteArray := ⟨#[102, 97, 108, 115, 101]⟩
def conP (s : ByteArray) (l : List T) : T := .mk 6 s 0 l
theorem works1 : checkP infos18 [conP sTrue [], conP sFalse []] true = 0 := by
  rw [← checkF_eq infos18 20 _ _ (by decide)]
  decide
theorem works2 : checkP infos18 [conP sTrue []] true = 14 := by
  rw [← checkF_eq infos18 20 _ _ (by decide)]
  decide
theorem works3 : checkP infos18 [anyP, conP sTrue []] false = 14 := by
  rw [← checkF_eq infos18 20 _ _ (by decide)]
  decide
end Go.Proofs.Ythjecikdkdjlaaa
