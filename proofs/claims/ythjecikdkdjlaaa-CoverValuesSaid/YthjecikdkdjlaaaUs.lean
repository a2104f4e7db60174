/- Is a row of use behind some? Plain: the search comes to an end. -/
import Derived.Test.YthjecikdkdjlaaaPlain
namespace Go.Proofs.Ythjecikdkdjlaaa

mutual
/-- a pattern's weight: what is in it that is not wild -/
def wt : T → Nat
  | .mk k _ _ l => if k = 1 ∨ k = 2 then 0 else 1 + l.length + wtL l
def wtL : List T → Nat
  | [] => 0
  | t :: r => wt t + wtL r
end
def wtR : List (List T) → Nat
  | [] => 0
  | r :: rs => wtL r + wtR rs
def phi (rows : List (List T)) (row : List T) : Nat := row.length + wtL row + wtR rows
theorem wild_kind {p : T} : isWild p = true ↔ p.kind = 1 ∨ p.kind = 2 := by simp [isWild]
theorem wt_wild {p : T} (h : isWild p = true) : wt p = 0 := by
  obtain ⟨k, s, n, l⟩ := p
  have h2 : k = 1 ∨ k = 2 := wild_kind.1 h
  simp [wt, h2]
theorem wt_not {p : T} (h : isWild p = false) : wt p = 1 + p.kids.length + wtL p.kids := by
  obtain ⟨k, s, n, l⟩ := p
  have h2 : ¬ (k = 1 ∨ k = 2) := fun e => by
    have := (wild_kind (p := .mk k s n l)).2 e
    rw [this] at h
    cases h
  simp only [wt, if_neg h2, T.kids]
theorem wtL_append : ∀ l m : List T, wtL (l ++ m) = wtL l + wtL m
  | [], m => by simp [wtL]
  | t :: r, m => by
    simp only [List.cons_append, wtL, wtL_append r m]
    omega
theorem wtL_any : ∀ n : Nat, wtL (List.replicate n anyP) = 0
  | 0 => rfl
  | n + 1 => by
    rw [List.replicate_succ]
    simp only [wtL, wtL_any n]
    rfl
theorem wtL_into {is : List Inf} {q : T} {r r' : List T} (h : into is q r = some r') : wtL r' ≤ wtL r := by
  cases r with
  | nil => cases h
  | cons p r =>
    simp only [into] at h
    split at h
    · cases h
      rw [wtL_append, wtL_any]
      simp only [wtL]
      omega
    · rename_i hw
      split at h
      · cases h
        rw [wtL_append]
        simp only [wtL, wt_not (by simpa using hw)]
        omega
      · cases h
theorem wtL_into_same {is : List Inf} {q p : T} {r r' : List T} (hw : isWild p = false) (h : into is q (p :: r) = some r') : wtL r' + 1 + p.kids.length ≤ wtL (p :: r) := by
  simp only [into, hw, Bool.false_eq_true, if_false] at h
  split at h
  · cases h
    rw [wtL_append]
    simp only [wtL, wt_not hw]
    omega
  · cases h
theorem wtR_all (is : List Inf) (q : T) : ∀ rows : List (List T), wtR (allInto is q rows) ≤ wtR rows
  | [] => Nat.le_refl _
  | r :: rs => by
    have h1 := wtR_all is q rs
    simp only [allInto, List.filterMap_cons] at h1 ⊢
    split
    · simp only [wtR]
      omega
    · rename_i r' hr
      have h2 := wtL_into hr
      simp only [wtR]
      omega
theorem wtR_all_some (is : List Inf) (q p : T) (r : List T) (hw : isWild p = false) (hh : hdOf is p = hdOf is q) : ∀ rows : List (List T), (p :: r) ∈ rows → wtR (allInto is q rows) + 1 + p.kids.length ≤ wtR rows
  | [], h => by cases h
  | r' :: rs, h => by
    rcases List.mem_cons.1 h with rfl | h
    · have h1 := wtR_all is q rs
      have hi : into is q (p :: r) = some (p.kids ++ r) := by simp [into, hw, hh]
      have h2 := wtL_into_same hw hi
      simp only [allInto, List.filterMap_cons, hi, wtR] at h1 ⊢
      omega
    · have h1 := wtR_all_some is q p r hw hh rs h
      simp only [allInto, List.filterMap_cons] at h1 ⊢
      split
      · simp only [wtR]
        omega
      · rename_i r2 hr
        have h2 := wtL_into hr
        simp only [wtR]
        omega
theorem wtR_rest : ∀ rows : List (List T), wtR (restRows rows) ≤ wtR rows
  | [] => Nat.le_refl _
  | [] :: rs => by
    have := wtR_rest rs
    simp only [restRows, List.filterMap_cons, wtR] at this ⊢
    omega
  | (p :: r) :: rs => by
    have := wtR_rest rs
    simp only [restRows, List.filterMap_cons] at this ⊢
    split
    · simp only [wtR]
      omega
    · rename_i r2 hr
      split at hr
      · cases hr
        simp only [wtR, wtL]
        omega
      · cases hr
theorem firstsA_mem (is : List Inf) : ∀ (rows : List (List T)) (acc : List T) (q : T), q ∈ firstsA is rows acc → q ∈ acc ∨ (isWild q = false ∧ ∃ r, (q :: r) ∈ rows)
  | [], acc, q, h => by simp only [firstsA] at h; exact .inl h
  | [] :: rs, acc, q, h => by
    simp only [firstsA] at h
    rcases firstsA_mem is rs acc q h with h | ⟨h1, r, h2⟩
    · exact .inl h
    · exact .inr ⟨h1, r, by simp [h2]⟩
  | (p :: r) :: rs, acc, q, h => by
    simp only [firstsA] at h
    split at h
    · rcases firstsA_mem is rs acc q h with h | ⟨h1, r, h2⟩
      · exact .inl h
      · exact .inr ⟨h1, r, by simp [h2]⟩
    · rename_i hw
      rcases firstsA_mem is rs _ q h with h | ⟨h1, r, h2⟩
      · rcases List.mem_append.1 h with h | h
        · exact .inl h
        · simp only [List.mem_singleton] at h
          subst h
          refine .inr ⟨?_, r, by simp⟩
          cases e : isWild q
          · rfl
          · rw [e] at hw
            simp at hw
      · exact .inr ⟨h1, r, by simp [h2]⟩
theorem firsts_mem {is : List Inf} {rows : List (List T)} {q : T} (h : q ∈ firsts is rows) : isWild q = false ∧ ∃ r, (q :: r) ∈ rows := by
  rcases firstsA_mem is rows [] q h with h | h
  · cases h
  · exact h
theorem phi_own {is : List Inf} {rows : List (List T)} {p : T} {r : List T} (h : isWild p = false) : phi (allInto is p rows) (p.kids ++ r) < phi rows (p :: r) := by
  have h1 := wtR_all is p rows
  simp only [phi, List.length_append, wtL_append, List.length_cons, wtL, wt_not h]
  omega
theorem phi_first {is : List Inf} {rows : List (List T)} {p q : T} {r : List T} (hq : q ∈ firsts is rows) : phi (allInto is q rows) (List.replicate q.kids.length anyP ++ r) < phi rows (p :: r) := by
  obtain ⟨h1, r', h2⟩ := firsts_mem hq
  have h3 := wtR_all_some is q q r' h1 rfl rows h2
  simp only [phi, List.length_append, List.length_replicate, wtL_append, wtL_any, List.length_cons, wtL]
  omega
theorem phi_rest {rows : List (List T)} {p : T} {r : List T} : phi (restRows rows) r < phi rows (p :: r) := by
  have h1 := wtR_rest rows
  simp only [phi, List.length_cons, wtL]
  omega
/-- is a row of use behind some? -/
def useW (is : List Inf) (rows : List (List T)) (row : List T) : Bool :=
  match row with
  | [] => rows.isEmpty
  | p :: r =>
    if hp : isWild p = true then
      if whole is (firsts is rows) then (firsts is rows).attach.any (fun q => useW is (allInto is q.1 rows) (List.replicate q.1.kids.length anyP ++ r))
      else useW is (restRows rows) r
    else useW is (allInto is p rows) (p.kids ++ r)
termination_by phi rows row
decreasing_by
  · exact phi_first q.2
  · exact phi_rest
  · exact phi_own (by simpa using hp)
theorem useW_nil (is : List Inf) (rows : List (List T)) : useW is rows [] = rows.isEmpty := by
  rw [useW]
theorem useW_cons (is : List Inf) (rows : List (List T)) (p : T) (r : List T) : useW is rows (p :: r) =
    if isWild p = true then
      if whole is (firsts is rows) then (firsts is rows).any (fun q => useW is (allInto is q rows) (List.replicate q.kids.length anyP ++ r))
      else useW is (restRows rows) r
    else useW is (allInto is p rows) (p.kids ++ r) := by
  rw [useW]
  split
  · split
    · rw [List.any_subtype (g := fun q => useW is (allInto is q rows) (List.replicate q.kids.length anyP ++ r)) (fun x hx => rfl), List.unattach_attach]
    · rfl
  · rfl
end Go.Proofs.Ythjecikdkdjlaaa
