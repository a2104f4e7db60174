/- Bindings of unknowns in plain Lean: what an unknown is bound to, a type's head, a type applied. -/
import Derived.Test.YtfjddfcndammdaaPlain
namespace Go.Proofs.Ytfjddfcndammdaa

abbrev Bs := List (Int × T)
def look : Bs → Int → Option T
  | [], _ => none
  | (m, t) :: r, n => if m = n then some t else look r n
theorem look_app : ∀ (l : Bs) (m : Int) (t : T) (n : Int), look (l ++ [(m, t)]) n = match look l n with | some x => some x | none => if m = n then some t else none
  | [], m, t, n => by simp [look]
  | (k, u) :: r, m, t, n => by
    simp only [List.cons_append, look]
    by_cases h : k = n
    · simp [h]
    · simp only [if_neg h]
      exact look_app r m t n
theorem look_mem : ∀ (l : Bs) (n : Int) (t : T), look l n = some t → (n, t) ∈ l
  | [], n, t, h => by simp [look] at h
  | (k, u) :: r, n, t, h => by
    simp only [look] at h
    by_cases hk : k = n
    · rw [if_pos hk] at h
      simp only [Option.some.injEq] at h
      simp [hk, h]
    · rw [if_neg hk] at h
      exact List.mem_cons_of_mem _ (look_mem r n t h)
theorem look_none : ∀ (l : Bs) (n : Int), look l n = none ↔ n ∉ l.map (·.1)
  | [], n => by simp [look]
  | (k, u) :: r, n => by
    simp only [look, List.map_cons, List.mem_cons, not_or]
    by_cases hk : k = n
    · simp [hk]
    · rw [if_neg hk, look_none r n]
      simp [Ne.symm hk]
/-- each key once -/
def Once (l : Bs) : Prop := (l.map (·.1)).Nodup
theorem look_of_mem : ∀ (l : Bs), Once l → ∀ (n : Int) (t : T), (n, t) ∈ l → look l n = some t
  | [], _, n, t, h => by simp at h
  | (k, u) :: r, ho, n, t, h => by
    simp only [Once, List.map_cons, List.nodup_cons] at ho
    simp only [look]
    rcases List.mem_cons.1 h with e | h
    · simp only [Prod.mk.injEq] at e
      rw [if_pos e.1.symm, e.2]
    · have hne : k ≠ n := by
        rintro rfl
        exact ho.1 (List.mem_map.2 ⟨_, h, rfl⟩)
      rw [if_neg hne]
      exact look_of_mem r ho.2 n t h
/-- a type's head: unknowns that are bound are followed -/
def hd (l : Bs) : Nat → T → Option T
  | 0, _ => none
  | f + 1, .mk k s n r => if k = 1 then (match look l n with | some x => hd l f x | none => some (.mk k s n r)) else some (.mk k s n r)
def mapO (g : T → Option T) : List T → Option (List T)
  | [] => some []
  | t :: r => match g t, mapO g r with | some x, some y => some (x :: y) | _, _ => none
/-- a type applied -/
def ap (l : Bs) : Nat → T → Option T
  | 0, _ => none
  | f + 1, .mk k s n r => if k = 1 then (match look l n with | some x => ap l f x | none => some (.mk k s n r)) else (mapO (ap l f) r).map (.mk k s n)
theorem mapO_mono {g g' : T → Option T} (h : ∀ t u, g t = some u → g' t = some u) : ∀ (l r : List T), mapO g l = some r → mapO g' l = some r
  | [], r, e => by simpa [mapO] using e
  | t :: l, r, e => by
    simp only [mapO] at e ⊢
    cases ht : g t with
    | none => rw [ht] at e; cases e
    | some x =>
      cases hl : mapO g l with
      | none => rw [ht, hl] at e; cases e
      | some y =>
        rw [ht, hl] at e
        rw [h t x ht, mapO_mono h l y hl]
        exact e
theorem mapO_at {g : T → Option T} : ∀ (l r : List T), mapO g l = some r → l.length = r.length ∧ ∀ (j : Nat) (t : T), l[j]? = some t → ∃ u, r[j]? = some u ∧ g t = some u
  | [], r, h => by
    simp only [mapO, Option.some.injEq] at h
    subst h
    exact ⟨rfl, fun j t hj => by simp at hj⟩
  | x :: l, r, h => by
    simp only [mapO] at h
    cases hx : g x with
    | none => rw [hx] at h; cases h
    | some y =>
      cases hl : mapO g l with
      | none => rw [hx, hl] at h; cases h
      | some z =>
        rw [hx, hl] at h
        simp only [Option.some.injEq] at h
        subst h
        obtain ⟨h1, h2⟩ := mapO_at l z hl
        refine ⟨by simp [h1], fun j t hj => ?_⟩
        cases j with
        | zero =>
          simp only [List.getElem?_cons_zero, Option.some.injEq] at hj
          subst hj
          exact ⟨y, rfl, hx⟩
        | succ j => exact h2 j t (by simpa using hj)
theorem hd_step {l : Bs} : ∀ (f : Nat) (t u : T), hd l f t = some u → hd l (f + 1) t = some u
  | 0, t, u, h => by cases h
  | f + 1, .mk k s n r, u, h => by
    simp only [hd] at h
    rw [hd]
    by_cases hk : k = 1
    · rw [if_pos hk] at h ⊢
      cases hl : look l n with
      | none => rw [hl] at h; exact h
      | some x =>
        rw [hl] at h
        exact hd_step f x u h
    · rw [if_neg hk] at h ⊢
      exact h
theorem ap_step {l : Bs} : ∀ (f : Nat) (t u : T), ap l f t = some u → ap l (f + 1) t = some u
  | 0, t, u, h => by cases h
  | f + 1, .mk k s n r, u, h => by
    simp only [ap] at h
    rw [ap]
    by_cases hk : k = 1
    · rw [if_pos hk] at h ⊢
      cases hl : look l n with
      | none => rw [hl] at h; exact h
      | some x =>
        rw [hl] at h
        exact ap_step f x u h
    · rw [if_neg hk] at h ⊢
      cases hm : mapO (ap l f) r with
      | none => rw [hm] at h; cases h
      | some us =>
        rw [hm] at h
        rw [mapO_mono (fun t u h => ap_step f t u h) r us hm]
        exact h
theorem hd_mono {l : Bs} {f f' : Nat} (hf : f ≤ f') {t u : T} (h : hd l f t = some u) : hd l f' t = some u := by
  induction hf with
  | refl => exact h
  | step _ ih => exact hd_step _ t u ih
theorem ap_mono {l : Bs} {f f' : Nat} (hf : f ≤ f') {t u : T} (h : ap l f t = some u) : ap l f' t = some u := by
  induction hf with
  | refl => exact h
  | step _ ih => exact ap_step _ t u ih
theorem ap_one {l : Bs} {f f' : Nat} {t u u' : T} (h : ap l f t = some u) (h' : ap l f' t = some u') : u = u' := by
  have h1 := ap_mono (Nat.le_max_left f f') h
  have h2 := ap_mono (Nat.le_max_right f f') h'
  rw [h1] at h2
  simpa using h2
/-- what is applied has a head: its kids are the head's, applied -/
def Headed (l : Bs) (f : Nat) (u h : T) : Prop := (h.kind = 1 ∧ look l h.num = none ∧ u = h) ∨ (h.kind ≠ 1 ∧ ∃ us, mapO (ap l f) h.kids = some us ∧ u = .mk h.kind h.name h.num us)
theorem Headed.mono {l : Bs} {f f' : Nat} (hf : f ≤ f') {u h : T} (hh : Headed l f u h) : Headed l f' u h := by
  rcases hh with hh | ⟨h1, us, h2, h3⟩
  · exact .inl hh
  · exact .inr ⟨h1, us, mapO_mono (fun t u h => ap_mono hf h) _ us h2, h3⟩
theorem ap_hd {l : Bs} : ∀ (f : Nat) (t u : T), ap l (f + 1) t = some u → ∃ h, hd l (f + 1) t = some h ∧ Headed l f u h
  | f, .mk k s n r, u, h => by
    simp only [ap] at h
    rw [hd]
    by_cases hk : k = 1
    · rw [if_pos hk] at h ⊢
      cases hl : look l n with
      | none =>
        rw [hl] at h
        simp only [Option.some.injEq] at h
        exact ⟨_, rfl, .inl ⟨hk, hl, h.symm⟩⟩
      | some x =>
        rw [hl] at h
        cases f with
        | zero => cases h
        | succ f =>
          obtain ⟨h', h1, h2⟩ := ap_hd f x u h
          exact ⟨h', h1, h2.mono (Nat.le_succ f)⟩
    · rw [if_neg hk] at h ⊢
      cases hm : mapO (ap l f) r with
      | none => rw [hm] at h; cases h
      | some us =>
        rw [hm] at h
        simp only [Option.map_some, Option.some.injEq] at h
        exact ⟨_, rfl, .inr ⟨hk, us, hm, h.symm⟩⟩
/-- the head, applied, is what the type is, applied -/
theorem hd_ap {l : Bs} : ∀ (f : Nat) (t u h : T), ap l f t = some u → hd l f t = some h → ap l f h = some u
  | 0, t, u, h, hu, _ => by cases hu
  | f + 1, .mk k s n r, u, h, hu, hh => by
    have hu0 := hu
    simp only [ap] at hu
    simp only [hd] at hh
    by_cases hk : k = 1
    · rw [if_pos hk] at hu hh
      cases hl : look l n with
      | none =>
        rw [hl] at hh
        simp only [Option.some.injEq] at hh
        rw [← hh]
        exact hu0
      | some x =>
        rw [hl] at hu hh
        exact ap_step f h u (hd_ap f x u h hu hh)
    · rw [if_neg hk] at hh
      simp only [Option.some.injEq] at hh
      rw [← hh]
      exact hu0
mutual
/-- does an unknown stand in a type? -/
def occ (n : Int) : T → Bool
  | .mk k _ m r => if k = 1 then decide (m = n) else occL n r
def occL (n : Int) : List T → Bool
  | [] => false
  | t :: r => occ n t || occL n r
end
theorem occL_any (n : Int) : ∀ l : List T, occL n l = l.any (occ n)
  | [] => rfl
  | t :: r => by simp [occL, occL_any n r]
mutual
/-- are all unknowns below so many? -/
def own (many : Int) : T → Bool
  | .mk k _ m r => (k != 1 || decide (m < many)) && ownL many r
def ownL (many : Int) : List T → Bool
  | [] => true
  | t :: r => own many t && ownL many r
end
theorem ownL_all (many : Int) : ∀ l : List T, ownL many l = l.all (own many)
  | [] => rfl
  | t :: r => by simp [ownL, ownL_all many r]
end Go.Proofs.Ytfjddfcndammdaa
