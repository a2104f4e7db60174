/- SyntaxRows: := and comparisons do not stand in rows. -/
import Derived.Test.YtjabhmepafofmaaDoorG24
set_option linter.unusedVariables false
set_option linter.unusedSimpArgs false
namespace Go.Proofs.YtjabhmepafofmaaDoor
open Go.RowKit

theorem mk_append (l m : List UInt8) : Sc.mk l ++ Sc.mk m = Sc.mk (l ++ m) := by
 apply ByteArray.ext
 simp [Sc.mk]
def rwOps : List (List UInt8) := [[60], [60, 61], [62], [62, 61], [61], [60, 62]]
def rwOp (i : Nat) : List UInt8 := rwOps.getD i []
/-- do x + x .. -/
def rwPre : Nat → List UInt8
 | 0 => [100, 111, 32, 120]
 | k + 1 => rwPre k ++ [32, 43, 32, 120]
def rwA (k i j : Nat) : List UInt8 := rwPre k ++ [32] ++ rwOp i ++ [32, 121, 32] ++ rwOp j ++ [32, 122, 59]
def rwB (k : Nat) : List UInt8 := rwPre k ++ [32, 58, 61, 32, 121, 32, 58, 61, 32, 122, 59]
def rwC (k i : Nat) : List UInt8 := rwPre k ++ [32, 58, 61, 32, 40, 121, 32, 58, 61, 32, 40, 122, 32] ++ rwOp i ++ [32, 121, 41, 41, 59]
def isFail (r : Re (List D)) (q : Nat) : Bool := match r with
 | .fail p => p == q
 | _ => false
theorem isFail_eq {r : Re (List D)} {q : Nat} (h : isFail r q = true) : r = .fail q := by
 cases r with
 | fail p =>
  have : p = q := by simpa [isFail] using h
  rw [this]
 | ok a b => cases h
 | out => cases h
def isOne (r : Re (List D)) : Bool := match r with
 | .ok [.mk k s v c f t (.mk k2 s2 n u l r d)] _ => decide (s2 = ⟨#[58, 61]⟩) && decide (dProg [.mk k s v c f t (.mk k2 s2 n u l r d)] ≤ 100)
 | _ => false
theorem isOne_eq {r : Re (List D)} (h : isOne r = true) : ∃ k s v c f t k2 n u l r' d q, r = .ok [.mk k s v c f t (.mk k2 ⟨#[58, 61]⟩ n u l r' d)] q ∧ ¬ 100 < dProg [.mk k s v c f t (.mk k2 ⟨#[58, 61]⟩ n u l r' d)] := by
 unfold isOne at h
 split at h
 ·
  simp only [Bool.and_eq_true, decide_eq_true_eq] at h
  obtain ⟨rfl, h⟩ := h
  exact ⟨_, _, _, _, _, _, _, _, _, _, _, _, _, rfl, by omega⟩
 ·
  cases h
def small (l : List Tok) : Bool := decide (l.length ≤ 100)
def chkA (k i j : Nat) : Bool := isFail (progR (toks (rwA k i j)) (gram 60) 4 [] 0) (2 * k + 4) && small (toks (rwA k i j))
def chkB (k : Nat) : Bool := isFail (progR (toks (rwB k)) (gram 60) 4 [] 0) (2 * k + 4) && small (toks (rwB k))
def chkC (k i : Nat) : Bool := isOne (progR (toks (rwC k i)) (gram 60) 4 [] 0) && small (toks (rwC k i))
set_option maxRecDepth 100000 in
theorem all_rows : ((List.range 5).all fun k => chkB k && (List.range 6).all fun i => chkC k i && (List.range 6).all fun j => chkA k i j) = true := by kernel_rfl
theorem rows_chk {k i j : Nat} (hk : k < 5) (hi : i < 6) (hj : j < 6) : chkA k i j = true ∧ chkB k = true ∧ chkC k i = true := by
 have h := List.all_eq_true.1 all_rows k (List.mem_range.2 hk)
 simp only [Bool.and_eq_true] at h
 have h2 := List.all_eq_true.1 h.2 i (List.mem_range.2 hi)
 simp only [Bool.and_eq_true] at h2
 exact ⟨List.all_eq_true.1 h2.2 j (List.mem_range.2 hj), h.1, h2.1⟩
theorem rwPre_len : ∀ k, (rwPre k).length = 4 * k + 4
 | 0 => rfl
 | k + 1 => by simp only [rwPre, List.length_append, rwPre_len k, List.length_cons, List.length_nil]; omega
theorem rw_cell : ∀ i, i < 6 → (#[.string ⟨#[60]⟩, .string ⟨#[60, 61]⟩, .string ⟨#[62]⟩, .string ⟨#[62, 61]⟩, .string ⟨#[61]⟩, .string ⟨#[60, 62]⟩] : Array Value)[i]? = some (.string (Sc.mk (rwOp i)))
 | 0, _ => rfl
 | 1, _ => rfl
 | 2, _ => rfl
 | 3, _ => rfl
 | 4, _ => rfl
 | 5, _ => rfl
 | n + 6, h => by omega
theorem rwOp_len : ∀ i, (rwOp i).length ≤ 2
 | 0 => by decide
 | 1 => by decide
 | 2 => by decide
 | 3 => by decide
 | 4 => by decide
 | 5 => by decide
 | n + 6 => by simp [rwOp, rwOps]
end Go.Proofs.YtjabhmepafofmaaDoor
