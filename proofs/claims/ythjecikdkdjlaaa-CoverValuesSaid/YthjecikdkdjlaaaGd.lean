/- Patterns and rows as they may be; the search keeps to them. -/
import Derived.Test.YthjecikdkdjlaaaUs
import Derived.Test.YthjecikdkdjlaaaFi
namespace Go.Proofs.Ythjecikdkdjlaaa
open Go.RowKit

mutual
/-- a pattern that has what it must have, and all in it -/
def okP (is : List Inf) : T → Prop
  | .mk k s n l => ((hdOf is (.mk k s n l)).Wf ∧ l.length ≤ 1048576 ∧ rightP is (.mk k s n l) = true) ∧ okL is l
def okL (is : List Inf) : List T → Prop
  | [] => True
  | t :: r => okP is t ∧ okL is r
end
theorem okP_parts {is : List Inf} {p : T} (h : okP is p) : (hdOf is p).Wf ∧ p.kids.length ≤ 1048576 ∧ rightP is p = true ∧ okL is p.kids := by
  obtain ⟨k, s, n, l⟩ := p
  simp only [okP] at h
  exact ⟨h.1.1, h.1.2.1, h.1.2.2, h.2⟩
theorem okL_mem {is : List Inf} : ∀ {l : List T}, okL is l ↔ ∀ p ∈ l, okP is p
  | [] => by simp [okL]
  | t :: r => by
    simp only [okL, List.mem_cons, forall_eq_or_imp]
    rw [okL_mem (l := r)]
theorem okL_append {is : List Inf} {l m : List T} : okL is (l ++ m) ↔ okL is l ∧ okL is m := by
  simp only [okL_mem, List.mem_append]
  exact ⟨fun h => ⟨fun p hp => h p (.inl hp), fun p hp => h p (.inr hp)⟩, fun h p hp => hp.elim (h.1 p) (h.2 p)⟩
theorem wf_small (k : Nat) (hk : k < 256) : (⟨k, 0, 0, ⟨#[]⟩, ⟨#[]⟩⟩ : Hd).Wf := ⟨hk, (by decide : (Lit.int .i64 0).wf = true), (by decide : (Lit.int .i64 0).wf = true), by unfold maxLen; show 0 ≤ _; omega, by unfold maxLen; show 0 ≤ _; omega⟩
theorem okP_any (is : List Inf) : okP is anyP := by
  simp only [okP, anyP, okL]
  refine ⟨⟨?_, by simp, by simp [rightP, T.kind, T.kids]⟩, trivial⟩
  exact wf_small 1 (by omega)
theorem okL_any (is : List Inf) (n : Nat) : okL is (List.replicate n anyP) := okL_mem.2 fun p hp => by
  rw [List.eq_of_mem_replicate hp]
  exact okP_any is
theorem kids_len {is : List Inf} {p q : T} (hp : rightP is p = true) (hq : rightP is q = true) (h : hdOf is p = hdOf is q) : p.kids.length = q.kids.length := by
  simp only [hdOf, Hd.mk.injEq] at h
  obtain ⟨h1, h2, h3, h4, h5⟩ := h
  simp only [rightP] at hp hq
  rw [← h1] at hq h2 h3 h4 h5
  split at hp
  · rename_i hk
    rw [if_pos hk] at hq
    simp at hp hq
    rw [hp, hq]
  · rename_i hk
    rw [if_neg hk] at hq
    split at hp
    · rename_i hk5
      rw [if_pos hk5, if_pos hk5] at h3
      omega
    · rename_i hk5
      rw [if_neg hk5] at hq
      split at hp
      · rename_i hk6
        rw [if_pos hk6] at hq
        rw [if_pos hk6, if_pos hk6] at h4
        rw [h4] at hp
        cases hh : (infoOf is q.name).has <;> rw [hh] at hp hq <;> simp at hp hq <;> rw [hp, hq]
      · cases hp
/-- rows and a row as they may be -/
structure Good (is : List Inf) (rows : List (List T)) (row : List T) : Prop where
  many : rows.length ≤ 1048576
  each : ∀ r ∈ rows, r.length = row.length ∧ okL is r
  this : okL is row
  small : phi rows row ≤ 1048576
theorem into_good {is : List Inf} {q : T} {r r' : List T} {n : Nat} (hq : okP is q) (hr : okL is r) (hl : r.length = n + 1) (h : into is q r = some r') : r'.length = q.kids.length + n ∧ okL is r' := by
  cases r with
  | nil => cases h
  | cons p r =>
    simp only [okL] at hr
    simp only [List.length_cons] at hl
    simp only [into] at h
    split at h
    · cases h
      exact ⟨by simp; omega, okL_append.2 ⟨okL_any is _, hr.2⟩⟩
    · split at h
      · rename_i hh
        cases h
        have h1 := kids_len (okP_parts hr.1).2.2.1 (okP_parts hq).2.2.1 hh
        exact ⟨by simp; omega, okL_append.2 ⟨(okP_parts hr.1).2.2.2, hr.2⟩⟩
      · cases h
theorem all_good {is : List Inf} {q : T} {rows : List (List T)} {n : Nat} (hq : okP is q) (h : ∀ r ∈ rows, r.length = n + 1 ∧ okL is r) : ∀ r ∈ allInto is q rows, r.length = q.kids.length + n ∧ okL is r := by
  intro r' hr'
  obtain ⟨r, hr, hi⟩ := List.mem_filterMap.1 hr'
  exact into_good hq (h r hr).2 (h r hr).1 hi
theorem allInto_le (is : List Inf) (q : T) (rows : List (List T)) : (allInto is q rows).length ≤ rows.length := List.length_filterMap_le _ _
theorem rest_good {is : List Inf} {rows : List (List T)} {n : Nat} (h : ∀ r ∈ rows, r.length = n + 1 ∧ okL is r) : ∀ r ∈ restRows rows, r.length = n ∧ okL is r := by
  intro r' hr'
  obtain ⟨r, hr, hi⟩ := List.mem_filterMap.1 hr'
  have h1 := h r hr
  cases r with
  | nil => cases hi
  | cons p r =>
    simp only [okL, List.length_cons] at h1
    simp only at hi
    split at hi
    · cases hi
      exact ⟨by omega, h1.2.2⟩
    · cases hi
theorem Good.own {is : List Inf} {rows : List (List T)} {p : T} {r : List T} (h : Good is rows (p :: r)) (hw : isWild p = false) : Good is (allInto is p rows) (p.kids ++ r) := by
  obtain ⟨h1, h2, h3, h4⟩ := h
  simp only [okL] at h3
  refine ⟨Nat.le_trans (allInto_le is p rows) h1, fun r' hr' => ?_, okL_append.2 ⟨(okP_parts h3.1).2.2.2, h3.2⟩, Nat.le_trans (Nat.le_of_lt (phi_own hw)) h4⟩
  have := all_good h3.1 h2 r' hr'
  simpa using this
theorem Good.first_ok {is : List Inf} {rows : List (List T)} {row : List T} (h : Good is rows row) {q : T} (hq : q ∈ firsts is rows) : okP is q := by
  obtain ⟨_, r, hr⟩ := firsts_mem hq
  have := (h.each _ hr).2
  simp only [okL] at this
  exact this.1
theorem Good.first {is : List Inf} {rows : List (List T)} {p q : T} {r : List T} (h : Good is rows (p :: r)) (hq : q ∈ firsts is rows) : Good is (allInto is q rows) (List.replicate q.kids.length anyP ++ r) := by
  have h5 := h.first_ok hq
  obtain ⟨h1, h2, h3, h4⟩ := h
  simp only [okL] at h3
  refine ⟨Nat.le_trans (allInto_le is q rows) h1, fun r' hr' => ?_, okL_append.2 ⟨okL_any is _, h3.2⟩, Nat.le_trans (Nat.le_of_lt (phi_first hq)) h4⟩
  have := all_good h5 h2 r' hr'
  simpa using this
theorem Good.rest {is : List Inf} {rows : List (List T)} {p : T} {r : List T} (h : Good is rows (p :: r)) : Good is (restRows rows) r := by
  obtain ⟨h1, h2, h3, h4⟩ := h
  simp only [okL] at h3
  exact ⟨Nat.le_trans (List.length_filterMap_le _ _) h1, rest_good h2, h3.2, Nat.le_trans (Nat.le_of_lt phi_rest) h4⟩
theorem Good.ok {is : List Inf} {rows : List (List T)} {p : T} {r : List T} (h : Good is rows (p :: r)) : RowsOk rows ∧ r.length + 1 ≤ 1048576 ∧ p.kids.length ≤ 1048576 := by
  obtain ⟨h1, h2, h3, h4⟩ := h
  simp only [phi, List.length_cons] at h4
  simp only [okL] at h3
  refine ⟨⟨h1, fun r' hr' => ?_⟩, by omega, (okP_parts h3.1).2.1⟩
  have := h2 r' hr'
  cases r' with
  | nil => simp at this
  | cons p' r' =>
    simp only [okL, List.length_cons] at this
    exact ⟨p', r', rfl, by omega, (okP_parts this.2.1).2.1⟩
theorem Good.wf {is : List Inf} {rows : List (List T)} {row : List T} (h : Good is rows row) : ∀ r ∈ rows, ∀ p ∈ r, (hdOf is p).Wf := fun r hr p hp => (okP_parts (okL_mem.1 (h.each r hr).2 p hp)).1
theorem restRows_snoc {rows : List (List T)} {k : Nat} {p : T} {r : List T} (h : rows[k]? = some (p :: r)) : restRows (rows.take (k + 1)) = restRows (rows.take k) ++ (if isWild p then [r] else []) := by
  rw [take_snoc h]
  simp only [restRows, List.filterMap_append]
  cases h : isWild p <;> simp [List.filterMap_cons, h]
end Go.Proofs.Ythjecikdkdjlaaa
