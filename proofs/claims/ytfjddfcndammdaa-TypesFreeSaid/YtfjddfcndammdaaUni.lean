/- Types made the same, in plain Lean, as the program does it. -/
import Derived.Test.YtfjddfcndammdaaFits
import Derived.Test.YtfjddfcndammdaaIn
namespace Go.Proofs.Ytfjddfcndammdaa

/-- an unknown is bound; S and T0 are the two types in all; none: so much fuel does not do -/
def bindM (S T0 : T) (F : Nat) (l : Bs) (n : Int) (t : T) : Option (Int × Bs) :=
  match ap l F t with
  | none => none
  | some u => if occ n u then some (13, l) else
    match ap (l ++ [(n, t)]) F S, ap (l ++ [(n, t)]) F T0 with
    | some a, some b => some (if greatT a || greatT b then 16 else 0, l ++ [(n, t)])
    | _, _ => none
def uniL (g : Bs → T → T → Option (Int × Bs)) : Bs → List T → List T → Option (Int × Bs)
  | l, s :: ss, t :: ts => match g l s t with
    | some (e, l') => if e = 0 then uniL g l' ss ts else some (e, l')
    | none => none
  | l, _, _ => some (0, l)
def uni (S T0 : T) : Nat → Bs → T → T → Option (Int × Bs)
  | 0, _, _, _ => none
  | F + 1, l, s, t =>
    match hd l F s, hd l F t with
    | some (.mk k1 s1 n1 r1), some (.mk k2 s2 n2 r2) =>
      if k1 = 1 ∧ k2 = 1 ∧ n1 = n2 then some (0, l)
      else if k1 = 1 ∧ (k2 ≠ 1 ∨ n2 < n1) then bindM S T0 F l n1 (.mk k2 s2 n2 r2)
      else if k2 = 1 then bindM S T0 F l n2 (.mk k1 s1 n1 r1)
      else if k1 ≠ k2 ∨ s1 ≠ s2 ∨ r1.length ≠ r2.length then some (13, l)
      else uniL (uni S T0 F) l r1 r2
    | _, _ => none
/-- bindings that a book may hold -/
structure WfB (many : Nat) (l : Bs) : Prop where
  fine : Fine many l
  once : Once l
  keys : ∀ p ∈ l, 0 ≤ p.1 ∧ p.1 < many
theorem nodup_lt : ∀ (m : Nat) (l : List Int), l.Nodup → (∀ x ∈ l, 0 ≤ x ∧ x < (m : Int)) → l.length ≤ m
  | 0, l, _, h => by
    cases l with
    | nil => exact Nat.le_refl _
    | cons x r =>
      have := h x (by simp)
      omega
  | m + 1, l, hn, h => by
    have h1 := nodup_lt m (l.erase (m : Int)) (hn.erase _) (fun x hx => by
      have h2 := h x (List.mem_of_mem_erase hx)
      have h3 : x ≠ (m : Int) := fun e => by
        rw [e] at hx
        exact absurd hx (List.Nodup.not_mem_erase hn)
      omega)
    by_cases hm : (m : Int) ∈ l
    · have := List.length_erase_of_mem hm
      omega
    · rw [List.erase_of_not_mem hm] at h1
      omega
theorem WfB.len {many : Nat} {l : Bs} (h : WfB many l) : l.length ≤ many := by
  have := nodup_lt many (l.map (fun p : Int × T => p.1)) h.once (fun x hx => by
    obtain ⟨p, hp, rfl⟩ := List.mem_map.1 hx
    exact h.keys p hp)
  simpa using this
theorem WfB.snoc {many : Nat} {l : Bs} (h : WfB many l) {n : Int} {t : T} (hg : Good many t) (hp : parts t ≤ 1048576) (hl : look l n = none) (h0 : 0 ≤ n) (h1 : n < many) : WfB many (l ++ [(n, t)]) := by
  refine ⟨⟨h.fine.small, fun m x hx => ?_⟩, ?_, fun p hp => ?_⟩
  · rw [look_app] at hx
    cases hq : look l m with
    | some y =>
      rw [hq] at hx
      simp only [Option.some.injEq] at hx
      rw [← hx]
      exact h.fine.good m y hq
    | none =>
      rw [hq] at hx
      by_cases e : n = m
      · simp only [if_pos e, Option.some.injEq] at hx
        rw [← hx]
        exact ⟨hg, hp⟩
      · simp [if_neg e] at hx
  · unfold Once
    rw [List.map_append, List.nodup_append]
    refine ⟨h.once, by simp, fun a ha b hb e => ?_⟩
    simp only [List.map_cons, List.map_nil, List.mem_singleton] at hb
    subst e
    subst hb
    exact (look_none l a).1 hl ha
  · rcases List.mem_append.1 hp with hp | hp
    · exact h.keys p hp
    · simp only [List.mem_singleton] at hp
      rw [hp]
      exact ⟨h0, h1⟩
theorem hd_free {l : Bs} : ∀ (f : Nat) (t : T) (k : Nat) (s : ByteArray) (n : Int) (r : List T), hd l f t = some (.mk k s n r) → k = 1 → look l n = none
  | 0, t, _, _, _, _, h, _ => by cases h
  | f + 1, .mk k0 s0 n0 r0, k, s, n, r, h, hk => by
    simp only [hd] at h
    by_cases h0 : k0 = 1
    · rw [if_pos h0] at h
      cases hq : look l n0 with
      | none =>
        rw [hq] at h
        simp only [Option.some.injEq, T.mk.injEq] at h
        rw [← h.2.2.1]
        exact hq
      | some x =>
        rw [hq] at h
        exact hd_free f x k s n r h hk
    · rw [if_neg h0] at h
      simp only [Option.some.injEq, T.mk.injEq] at h
      exact absurd (h.1.trans hk) h0
/-- what a bindM comes to -/
theorem bindM_ext {S T0 : T} {F : Nat} {l l' : Bs} {n : Int} {t : T} {e : Int} (h : bindM S T0 F l n t = some (e, l')) : (e = 13 ∧ l' = l ∧ ∃ u, ap l F t = some u ∧ occ n u = true) ∨
    (l' = l ++ [(n, t)] ∧ ∃ u a b, ap l F t = some u ∧ occ n u = false ∧ ap l' F S = some a ∧ ap l' F T0 = some b ∧ e = if greatT a || greatT b then 16 else 0) := by
  unfold bindM at h
  cases hu : ap l F t with
  | none => rw [hu] at h; cases h
  | some u =>
    rw [hu] at h
    simp only at h
    cases ho : occ n u with
    | true =>
      rw [ho] at h
      simp only [if_true, Option.some.injEq, Prod.mk.injEq] at h
      exact .inl ⟨h.1.symm, h.2.symm, u, rfl, ho⟩
    | false =>
      rw [ho] at h
      simp only [Bool.false_eq_true, if_false] at h
      cases ha : ap (l ++ [(n, t)]) F S with
      | none => rw [ha] at h; cases h
      | some a =>
        cases hb : ap (l ++ [(n, t)]) F T0 with
        | none => rw [ha, hb] at h; cases h
        | some b =>
          rw [ha, hb] at h
          simp only [Option.some.injEq, Prod.mk.injEq] at h
          obtain ⟨h1, h2⟩ := h
          subst h2
          exact .inr ⟨rfl, u, a, b, rfl, ho, ha, hb, h1.symm⟩
theorem uniL_wf {many : Nat} {g : Bs → T → T → Option (Int × Bs)} (hg : ∀ l s t e l', Good many s → parts s ≤ 1048576 → Good many t → parts t ≤ 1048576 → WfB many l → g l s t = some (e, l') → WfB many l') :
    ∀ (ss ts : List T) (l : Bs) (e : Int) (l' : Bs), (∀ s ∈ ss, Good many s ∧ parts s ≤ 1048576) → (∀ t ∈ ts, Good many t ∧ parts t ≤ 1048576) → WfB many l → uniL g l ss ts = some (e, l') → WfB many l'
  | [], ts, l, e, l', _, _, hw, h => by
    simp only [uniL, Option.some.injEq, Prod.mk.injEq] at h
    rw [← h.2]
    exact hw
  | s :: ss, [], l, e, l', _, _, hw, h => by
    simp only [uniL, Option.some.injEq, Prod.mk.injEq] at h
    rw [← h.2]
    exact hw
  | s :: ss, t :: ts, l, e, l', hs, ht, hw, h => by
    simp only [uniL] at h
    cases hq : g l s t with
    | none => rw [hq] at h; cases h
    | some p =>
      obtain ⟨e1, l1⟩ := p
      rw [hq] at h
      simp only at h
      have h1 := hg l s t e1 l1 (hs s (by simp)).1 (hs s (by simp)).2 (ht t (by simp)).1 (ht t (by simp)).2 hw hq
      by_cases he : e1 = 0
      · rw [if_pos he] at h
        exact uniL_wf hg ss ts l1 e l' (fun x hx => hs x (by simp [hx])) (fun x hx => ht x (by simp [hx])) h1 h
      · rw [if_neg he] at h
        simp only [Option.some.injEq, Prod.mk.injEq] at h
        rw [← h.2]
        exact h1
theorem good_kids {many : Nat} {k : Nat} {s : ByteArray} {n : Int} {r : List T} (h : Good many (.mk k s n r)) (hp : parts (.mk k s n r) ≤ 1048576) : ∀ t ∈ r, Good many t ∧ parts t ≤ 1048576 := by
  intro t ht
  obtain ⟨j, hj⟩ := List.getElem?_of_mem ht
  refine ⟨h.kids j t hj, ?_⟩
  have h1 := parts_kid r j t hj
  simp only [parts] at hp
  omega
theorem bindM_wf {many : Nat} {S T0 : T} {F : Nat} {l l' : Bs} {n : Int} {t : T} {e : Int} (hg : Good many t) (hp : parts t ≤ 1048576) (hl : look l n = none) (h0 : 0 ≤ n) (h1 : n < many) (hw : WfB many l) (h : bindM S T0 F l n t = some (e, l')) : WfB many l' := by
  rcases bindM_ext h with ⟨_, rfl, _⟩ | ⟨rfl, _⟩
  · exact hw
  · exact hw.snoc hg hp hl h0 h1
theorem uni_wf {many : Nat} {S T0 : T} : ∀ (F : Nat) (l : Bs) (s t : T) (e : Int) (l' : Bs), Good many s → parts s ≤ 1048576 → Good many t → parts t ≤ 1048576 → WfB many l → uni S T0 F l s t = some (e, l') → WfB many l'
  | 0, _, _, _, _, _, _, _, _, _, _, h => by cases h
  | F + 1, l, s, t, e, l', hs, hps, ht, hpt, hw, h => by
    simp only [uni] at h
    cases h1 : hd l F s with
    | none => rw [h1] at h; cases h
    | some x =>
      cases h2 : hd l F t with
      | none =>
        rw [h1, h2] at h
        obtain ⟨k1, s1, n1, r1⟩ := x
        cases h
      | some y =>
        obtain ⟨k1, s1, n1, r1⟩ := x
        obtain ⟨k2, s2, n2, r2⟩ := y
        rw [h1, h2] at h
        simp only at h
        obtain ⟨g1, p1⟩ := hd_good hw.fine F s _ hs hps h1
        obtain ⟨g2, p2⟩ := hd_good hw.fine F t _ ht hpt h2
        by_cases c1 : k1 = 1 ∧ k2 = 1 ∧ n1 = n2
        · rw [if_pos c1] at h
          simp only [Option.some.injEq, Prod.mk.injEq] at h
          rw [← h.2]
          exact hw
        · rw [if_neg c1] at h
          by_cases c2 : k1 = 1 ∧ (k2 ≠ 1 ∨ n2 < n1)
          · rw [if_pos c2] at h
            have hk := c2.1
            subst hk
            exact bindM_wf g2 p2 (hd_free F s _ _ _ _ h1 rfl) g1.num.1 g1.num.2 hw h
          · rw [if_neg c2] at h
            by_cases c3 : k2 = 1
            · rw [if_pos c3] at h
              subst c3
              exact bindM_wf g1 p1 (hd_free F t _ _ _ _ h2 rfl) g2.num.1 g2.num.2 hw h
            · rw [if_neg c3] at h
              by_cases c4 : k1 ≠ k2 ∨ s1 ≠ s2 ∨ r1.length ≠ r2.length
              · rw [if_pos c4] at h
                simp only [Option.some.injEq, Prod.mk.injEq] at h
                rw [← h.2]
                exact hw
              · rw [if_neg c4] at h
                exact uniL_wf (fun l s t e l' a b c d hw h => uni_wf F l s t e l' a b c d hw h) r1 r2 l e l' (good_kids g1 p1) (good_kids g2 p2) hw h
end Go.Proofs.Ytfjddfcndammdaa
