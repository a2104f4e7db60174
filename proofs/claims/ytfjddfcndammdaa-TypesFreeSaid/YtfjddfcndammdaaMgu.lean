/- Bindings that are made one behind the other: a type applied always comes to an end; types made the same are the same; what makes two types the same makes so what is bound. -/
import Derived.Test.YtfjddfcndammdaaUni
import Derived.Test.YtfjddfcndammdaaWh
namespace Go.Proofs.Ytfjddfcndammdaa

mutual
/-- a type in the place of an unknown -/
def subst (n : Int) (u : T) : T → T
  | .mk k s m r => if k = 1 then (if m = n then u else .mk k s m r) else .mk k s m (substL n u r)
def substL (n : Int) (u : T) : List T → List T
  | [] => []
  | t :: r => subst n u t :: substL n u r
end
theorem mapO_occ {g g' : T → Option T} {n : Int} (h : ∀ t u, g t = some u → occ n u = false → g' t = some u) : ∀ (l r : List T), mapO g l = some r → occL n r = false → mapO g' l = some r
  | [], r, e, _ => by simpa [mapO] using e
  | t :: l, r, e, ho => by
    simp only [mapO] at e ⊢
    cases ht : g t with
    | none => rw [ht] at e; cases e
    | some x =>
      cases hl : mapO g l with
      | none => rw [ht, hl] at e; cases e
      | some y =>
        rw [ht, hl] at e
        simp only [Option.some.injEq] at e
        subst e
        simp only [occL, Bool.or_eq_false_iff] at ho
        rw [h t x ht ho.1, mapO_occ h l y hl ho.2]
theorem mapO_subst {g g' : T → Option T} {n : Int} {ux : T} (h : ∀ t u, g t = some u → g' t = some (subst n ux u)) : ∀ (l r : List T), mapO g l = some r → mapO g' l = some (substL n ux r)
  | [], r, e => by
    simp only [mapO, Option.some.injEq] at e
    subst e
    rfl
  | t :: l, r, e => by
    simp only [mapO] at e ⊢
    cases ht : g t with
    | none => rw [ht] at e; cases e
    | some x =>
      cases hl : mapO g l with
      | none => rw [ht, hl] at e; cases e
      | some y =>
        rw [ht, hl] at e
        simp only [Option.some.injEq] at e
        subst e
        rw [h t x ht, mapO_subst h l y hl]
        rfl
/-- what an unknown that is bound does not stand in stays -/
theorem ap_ext_no {l : Bs} {n : Int} {x : T} (hn : look l n = none) : ∀ (F : Nat) (t u : T), ap l F t = some u → occ n u = false → ap (l ++ [(n, x)]) F t = some u
  | 0, t, u, h, _ => by cases h
  | F + 1, .mk k s m r, u, h, ho => by
    simp only [ap] at h ⊢
    by_cases hk : k = 1
    · rw [if_pos hk] at h ⊢
      rw [look_app]
      cases hl : look l m with
      | some y =>
        rw [hl] at h
        exact ap_ext_no hn F y u h ho
      | none =>
        rw [hl] at h
        simp only [Option.some.injEq] at h
        subst h
        simp only [occ, if_pos hk, decide_eq_false_iff_not] at ho
        simp only [if_neg (fun e : n = m => ho e.symm)]
    · rw [if_neg hk] at h ⊢
      cases hm : mapO (ap l F) r with
      | none => rw [hm] at h; cases h
      | some us =>
        rw [hm] at h
        simp only [Option.map_some, Option.some.injEq] at h
        subst h
        simp only [occ, if_neg hk] at ho
        rw [mapO_occ (fun t u h ho => ap_ext_no hn F t u h ho) r us hm ho]
        rfl
/-- a type applied, where one unknown more is bound -/
theorem ap_ext {l : Bs} {n : Int} {x ux : T} {F0 : Nat} (hn : look l n = none) (hx : ap l F0 x = some ux) (ho : occ n ux = false) :
    ∀ (F : Nat) (t u : T), ap l F t = some u → ap (l ++ [(n, x)]) (F + F0) t = some (subst n ux u)
  | 0, t, u, h => by cases h
  | F + 1, .mk k s m r, u, h => by
    rw [show F + 1 + F0 = (F + F0) + 1 by omega]
    simp only [ap] at h ⊢
    by_cases hk : k = 1
    · rw [if_pos hk] at h ⊢
      rw [look_app]
      cases hl : look l m with
      | some y =>
        rw [hl] at h
        exact ap_ext hn hx ho F y u h
      | none =>
        rw [hl] at h
        simp only [Option.some.injEq] at h
        subst h
        simp only [subst, if_pos hk]
        by_cases e : n = m
        · simp only [if_pos e, if_pos e.symm]
          exact ap_mono (by omega) (ap_ext_no hn F0 x ux hx ho)
        · simp only [if_neg e, if_neg (fun h : m = n => e h.symm)]
    · rw [if_neg hk] at h ⊢
      cases hm : mapO (ap l F) r with
      | none => rw [hm] at h; cases h
      | some us =>
        rw [hm] at h
        simp only [Option.map_some, Option.some.injEq] at h
        subst h
        rw [mapO_subst (fun t u h => ap_ext hn hx ho F t u h) r us hm]
        simp only [Option.map_some, subst, if_neg hk]
/-- every type applied comes to an end -/
def Acyc (l : Bs) : Prop := ∀ t, ∃ F u, ap l F t = some u
theorem mapO_nil : ∀ (F : Nat) (r : List T), (∀ t ∈ r, ap [] F t = some t) → mapO (ap [] F) r = some r
  | F, [], _ => rfl
  | F, t :: r, h => by
    simp only [mapO]
    rw [h t (by simp), mapO_nil F r (fun x hx => h x (by simp [hx]))]
theorem ap_nil : ∀ (F : Nat) (t : T), parts t ≤ F → ap [] F t = some t
  | 0, t, h => by have := parts_pos t; omega
  | F + 1, .mk k s m r, h => by
    simp only [ap, look]
    by_cases hk : k = 1
    · rw [if_pos hk]
    · rw [if_neg hk, mapO_nil F r]
      · rfl
      · intro t ht
        obtain ⟨j, hj⟩ := List.getElem?_of_mem ht
        have h1 := parts_kid r j t hj
        simp only [parts] at h
        exact ap_nil F t (by omega)
theorem acyc_nil : Acyc [] := fun t => ⟨parts t, t, ap_nil _ t (Nat.le_refl _)⟩
/-- bindings that stand behind others, each of an unknown that does not stand in its type -/
inductive Ext (l : Bs) : Bs → Prop
  | refl : Ext l l
  | step {l1 : Bs} {n : Int} {x u : T} {F : Nat} : Ext l l1 → look l1 n = none → ap l1 F x = some u → occ n u = false → Ext l (l1 ++ [(n, x)])
theorem Ext.trans {a b c : Bs} (h : Ext a b) (k : Ext b c) : Ext a c := by
  induction k with
  | refl => exact h
  | step _ h1 h2 h3 ih => exact ih.step h1 h2 h3
theorem Acyc.ext {l l' : Bs} (h : Acyc l) (k : Ext l l') : Acyc l' := by
  induction k with
  | refl => exact h
  | step _ h1 h2 h3 ih =>
    intro t
    obtain ⟨F, u, hu⟩ := ih t
    exact ⟨_, _, ap_ext h1 h2 h3 F t u hu⟩
theorem Ext.len {l l' : Bs} (k : Ext l l') : l' = l ∨ l.length < l'.length := by
  induction k with
  | refl => exact .inl rfl
  | step _ h1 h2 h3 ih =>
    right
    rw [List.length_append]
    rcases ih with ih | ih
    · rw [ih]; simp
    · simp; omega
/-- two types are the same when applied -/
def EqA (l : Bs) (s t : T) : Prop := ∃ F u, ap l F s = some u ∧ ap l F t = some u
theorem EqA.symm {l : Bs} {s t : T} (h : EqA l s t) : EqA l t s := by
  obtain ⟨F, u, h1, h2⟩ := h
  exact ⟨F, u, h2, h1⟩
theorem EqA.trans {l : Bs} {s t x : T} (h : EqA l s t) (k : EqA l t x) : EqA l s x := by
  obtain ⟨F, u, h1, h2⟩ := h
  obtain ⟨G, v, k1, k2⟩ := k
  have := ap_one h2 k1
  subst this
  exact ⟨max F G, u, ap_mono (Nat.le_max_left _ _) h1, ap_mono (Nat.le_max_right _ _) k2⟩
theorem EqA.refl {l : Bs} (h : Acyc l) (t : T) : EqA l t t := by
  obtain ⟨F, u, hu⟩ := h t
  exact ⟨F, u, hu, hu⟩
theorem EqA.ext {l l' : Bs} {s t : T} (h : EqA l s t) (k : Ext l l') : EqA l' s t := by
  induction k with
  | refl => exact h
  | step _ h1 h2 h3 ih =>
    obtain ⟨F, u, k1, k2⟩ := ih
    exact ⟨_, _, ap_ext h1 h2 h3 F s u k1, ap_ext h1 h2 h3 F t u k2⟩
theorem EqA.hd {l : Bs} (h : Acyc l) {F : Nat} {t x : T} (hx : hd l F t = some x) : EqA l t x := by
  obtain ⟨G, u, hu⟩ := h t
  have h1 := ap_mono (Nat.le_max_left G F) hu
  exact ⟨max G F, u, h1, hd_ap _ t u x h1 (hd_mono (Nat.le_max_right G F) hx)⟩
theorem EqA.is {l : Bs} {s t u v : T} {F G : Nat} (h : EqA l s t) (hu : ap l F s = some u) (hv : ap l G t = some v) : u = v := by
  obtain ⟨K, x, h1, h2⟩ := h
  exact (ap_one hu h1).trans (ap_one hv h2).symm
theorem mapO_pairs {g : T → Option T} : ∀ (r1 r2 : List T), r1.length = r2.length → (∀ (j : Nat) (a b : T), r1[j]? = some a → r2[j]? = some b → ∃ u, g a = some u ∧ g b = some u) → ∃ us, mapO g r1 = some us ∧ mapO g r2 = some us
  | [], [], _, _ => ⟨[], rfl, rfl⟩
  | [], _ :: _, h, _ => by simp at h
  | _ :: _, [], h, _ => by simp at h
  | a :: r1, b :: r2, h, hp => by
    obtain ⟨u, h1, h2⟩ := hp 0 a b rfl rfl
    obtain ⟨us, h3, h4⟩ := mapO_pairs r1 r2 (by simpa using h) (fun j a b ha hb => hp (j + 1) a b (by simpa using ha) (by simpa using hb))
    exact ⟨u :: us, by simp only [mapO]; rw [h1, h3], by simp only [mapO]; rw [h2, h4]⟩
/-- fuel that does for all -/
theorem fuel_all {l : Bs} : ∀ (r1 r2 : List T), (∀ (j : Nat) (a b : T), r1[j]? = some a → r2[j]? = some b → EqA l a b) → ∃ F, ∀ (j : Nat) (a b : T), r1[j]? = some a → r2[j]? = some b → ∃ u, ap l F a = some u ∧ ap l F b = some u
  | [], r2, _ => ⟨0, fun j a b h => by simp at h⟩
  | _ :: _, [], _ => ⟨0, fun j a b _ h => by simp at h⟩
  | a :: r1, b :: r2, hp => by
    obtain ⟨F, hF⟩ := fuel_all r1 r2 (fun j a b ha hb => hp (j + 1) a b (by simpa using ha) (by simpa using hb))
    obtain ⟨G, u, h1, h2⟩ := hp 0 a b rfl rfl
    refine ⟨max F G, fun j c d hc hd => ?_⟩
    cases j with
    | zero =>
      simp only [List.getElem?_cons_zero, Option.some.injEq] at hc hd
      subst hc hd
      exact ⟨u, ap_mono (Nat.le_max_right _ _) h1, ap_mono (Nat.le_max_right _ _) h2⟩
    | succ j =>
      obtain ⟨v, h3, h4⟩ := hF j c d (by simpa using hc) (by simpa using hd)
      exact ⟨v, ap_mono (Nat.le_max_left _ _) h3, ap_mono (Nat.le_max_left _ _) h4⟩
theorem EqA.mk {l : Bs} {k : Nat} {s : ByteArray} {n : Int} {r1 r2 : List T} (hk : k ≠ 1) (hl : r1.length = r2.length) (h : ∀ (j : Nat) (a b : T), r1[j]? = some a → r2[j]? = some b → EqA l a b) : EqA l (.mk k s n r1) (.mk k s n r2) := by
  obtain ⟨F, hF⟩ := fuel_all r1 r2 h
  obtain ⟨us, h1, h2⟩ := mapO_pairs (g := ap l F) r1 r2 hl hF
  exact ⟨F + 1, .mk k s n us, by simp only [ap, if_neg hk]; rw [h1]; rfl, by simp only [ap, if_neg hk]; rw [h2]; rfl⟩
theorem EqA.kids {l : Bs} {k1 k2 : Nat} {s1 s2 : ByteArray} {n1 n2 : Int} {r1 r2 : List T} (hk1 : k1 ≠ 1) (hk2 : k2 ≠ 1) (h : EqA l (.mk k1 s1 n1 r1) (.mk k2 s2 n2 r2)) :
    k1 = k2 ∧ s1 = s2 ∧ r1.length = r2.length ∧ ∀ (j : Nat) (a b : T), r1[j]? = some a → r2[j]? = some b → EqA l a b := by
  obtain ⟨F, u, h1, h2⟩ := h
  cases F with
  | zero => cases h1
  | succ F =>
    simp only [ap, if_neg hk1] at h1
    simp only [ap, if_neg hk2] at h2
    cases hm1 : mapO (ap l F) r1 with
    | none => rw [hm1] at h1; cases h1
    | some us =>
      cases hm2 : mapO (ap l F) r2 with
      | none => rw [hm2] at h2; cases h2
      | some vs =>
        rw [hm1] at h1
        rw [hm2] at h2
        simp only [Option.map_some, Option.some.injEq] at h1 h2
        rw [← h1] at h2
        simp only [T.mk.injEq] at h2
        obtain ⟨e1, e2, _, e4⟩ := h2
        subst e4
        obtain ⟨q1, q2⟩ := mapO_at r1 vs hm1
        obtain ⟨q3, q4⟩ := mapO_at r2 vs hm2
        refine ⟨e1.symm, e2.symm, by omega, fun j a b ha hb => ?_⟩
        obtain ⟨x, hx1, hx2⟩ := q2 j a ha
        obtain ⟨y, hy1, hy2⟩ := q4 j b hb
        rw [hx1] at hy1
        simp only [Option.some.injEq] at hy1
        subst hy1
        exact ⟨F, x, hx2, hy2⟩
/-- a good type that is an unknown has nothing but its number -/
theorem Good.var {many : Nat} {s : ByteArray} {n : Int} {r : List T} (h : Good many (.mk 1 s n r)) : emptyS s = true ∧ r = [] := by
  have h1 := h.1
  simp only [right, if_true, Bool.and_eq_true] at h1
  exact ⟨h1.2.1, by simpa using h1.2.2⟩
theorem Good.num0 {many k : Nat} {s : ByteArray} {n : Int} {r : List T} (h : Good many (.mk k s n r)) (hk : k ≠ 1) : n = 0 := by
  have h1 := h.1
  simp only [right, if_neg hk] at h1
  by_cases k2 : k = 2
  · simp only [if_pos k2, Bool.and_eq_true, decide_eq_true_eq] at h1
    exact h1.2.1
  · by_cases k3 : k = 3
    · simp only [if_neg k2, if_pos k3, Bool.and_eq_true, decide_eq_true_eq] at h1
      exact h1.2.2.1
    · by_cases k4 : k = 4
      · simp only [if_neg k2, if_neg k3, if_pos k4, Bool.and_eq_true, decide_eq_true_eq] at h1
        exact h1.2.2.1
      · simp [if_neg k2, if_neg k3, if_neg k4] at h1
theorem emptyS_eq {s s' : ByteArray} (h : emptyS s = true) (h' : emptyS s' = true) : s = s' := by
  simp only [emptyS, List.isEmpty_iff, ByteArray.toList_eq] at h h'
  obtain ⟨d⟩ := s
  obtain ⟨d'⟩ := s'
  simp only at h h'
  rw [Array.toList_inj.1 (show d.toList = (#[] : Array UInt8).toList from h), Array.toList_inj.1 (show d'.toList = (#[] : Array UInt8).toList from h')]
theorem good_vars {many : Nat} {s s' : ByteArray} {n : Int} {r r' : List T} (h : Good many (.mk 1 s n r)) (h' : Good many (.mk 1 s' n r')) : T.mk 1 s n r = .mk 1 s' n r' := by
  rw [emptyS_eq h.var.1 h'.var.1, h.var.2, h'.var.2]
/-- how one step of unify comes out -/
theorem uni_cases {S T0 : T} {F : Nat} {l l' : Bs} {s t : T} {e : Int} (h : uni S T0 (F + 1) l s t = some (e, l')) :
    ∃ k1 s1 n1 r1 k2 s2 n2 r2, hd l F s = some (.mk k1 s1 n1 r1) ∧ hd l F t = some (.mk k2 s2 n2 r2) ∧
      ((k1 = 1 ∧ k2 = 1 ∧ n1 = n2 ∧ e = 0 ∧ l' = l) ∨ (k1 = 1 ∧ ¬ (k2 = 1 ∧ n1 = n2) ∧ bindM S T0 F l n1 (.mk k2 s2 n2 r2) = some (e, l')) ∨ (k2 = 1 ∧ ¬ (k1 = 1 ∧ n1 = n2) ∧ bindM S T0 F l n2 (.mk k1 s1 n1 r1) = some (e, l')) ∨
        (k1 ≠ 1 ∧ k2 ≠ 1 ∧ (k1 ≠ k2 ∨ s1 ≠ s2 ∨ r1.length ≠ r2.length) ∧ e = 13 ∧ l' = l) ∨ (k1 ≠ 1 ∧ k2 = k1 ∧ s2 = s1 ∧ r1.length = r2.length ∧ uniL (uni S T0 F) l r1 r2 = some (e, l'))) := by
  simp only [uni] at h
  cases h1 : hd l F s with
  | none => rw [h1] at h; cases h
  | some x =>
    obtain ⟨k1, s1, n1, r1⟩ := x
    cases h2 : hd l F t with
    | none => rw [h1, h2] at h; cases h
    | some y =>
      obtain ⟨k2, s2, n2, r2⟩ := y
      rw [h1, h2] at h
      simp only at h
      refine ⟨k1, s1, n1, r1, k2, s2, n2, r2, rfl, rfl, ?_⟩
      by_cases c1 : k1 = 1 ∧ k2 = 1 ∧ n1 = n2
      · rw [if_pos c1] at h
        simp only [Option.some.injEq, Prod.mk.injEq] at h
        exact .inl ⟨c1.1, c1.2.1, c1.2.2, h.1.symm, h.2.symm⟩
      · rw [if_neg c1] at h
        by_cases c2 : k1 = 1 ∧ (k2 ≠ 1 ∨ n2 < n1)
        · rw [if_pos c2] at h
          exact .inr (.inl ⟨c2.1, fun q => c1 ⟨c2.1, q.1, q.2⟩, h⟩)
        · rw [if_neg c2] at h
          by_cases c3 : k2 = 1
          · rw [if_pos c3] at h
            exact .inr (.inr (.inl ⟨c3, fun q => c1 ⟨q.1, c3, q.2⟩, h⟩))
          · rw [if_neg c3] at h
            have c5 : k1 ≠ 1 := fun q => c2 ⟨q, .inl c3⟩
            by_cases c4 : k1 ≠ k2 ∨ s1 ≠ s2 ∨ r1.length ≠ r2.length
            · rw [if_pos c4] at h
              simp only [Option.some.injEq, Prod.mk.injEq] at h
              exact .inr (.inr (.inr (.inl ⟨c5, c3, c4, h.1.symm, h.2.symm⟩)))
            · rw [if_neg c4] at h
              simp only [not_or, ne_eq, Decidable.not_not] at c4
              exact .inr (.inr (.inr (.inr ⟨c5, c4.1.symm, c4.2.1.symm, c4.2.2, h⟩)))
theorem bindM_Ext {S T0 : T} {F : Nat} {l l' : Bs} {n : Int} {t : T} {e : Int} (hl : look l n = none) (h : bindM S T0 F l n t = some (e, l')) : Ext l l' := by
  rcases bindM_ext h with ⟨_, rfl, _⟩ | ⟨rfl, u, _, _, h1, h2, _⟩
  · exact .refl
  · exact Ext.refl.step hl h1 h2
theorem uniL_Ext {g : Bs → T → T → Option (Int × Bs)} (hg : ∀ l s t e l', g l s t = some (e, l') → Ext l l') : ∀ (ss ts : List T) (l : Bs) (e : Int) (l' : Bs), uniL g l ss ts = some (e, l') → Ext l l'
  | [], ts, l, e, l', h => by
    simp only [uniL, Option.some.injEq, Prod.mk.injEq] at h
    rw [← h.2]
    exact .refl
  | s :: ss, [], l, e, l', h => by
    simp only [uniL, Option.some.injEq, Prod.mk.injEq] at h
    rw [← h.2]
    exact .refl
  | s :: ss, t :: ts, l, e, l', h => by
    simp only [uniL] at h
    cases hq : g l s t with
    | none => rw [hq] at h; cases h
    | some p =>
      obtain ⟨e1, l1⟩ := p
      rw [hq] at h
      simp only at h
      by_cases he : e1 = 0
      · rw [if_pos he] at h
        exact (hg _ _ _ _ _ hq).trans (uniL_Ext hg ss ts l1 e l' h)
      · rw [if_neg he] at h
        simp only [Option.some.injEq, Prod.mk.injEq] at h
        rw [← h.2]
        exact hg _ _ _ _ _ hq
theorem uni_Ext {S T0 : T} : ∀ (F : Nat) (l : Bs) (s t : T) (e : Int) (l' : Bs), uni S T0 F l s t = some (e, l') → Ext l l'
  | 0, _, _, _, _, _, h => by cases h
  | F + 1, l, s, t, e, l', h => by
    obtain ⟨k1, s1, n1, r1, k2, s2, n2, r2, h1, h2, hc⟩ := uni_cases h
    rcases hc with ⟨_, _, _, _, rfl⟩ | ⟨k, _, hb⟩ | ⟨k, _, hb⟩ | ⟨_, _, _, _, rfl⟩ | ⟨_, _, _, _, hb⟩
    · exact .refl
    · exact bindM_Ext (hd_free F s _ _ _ _ h1 k) hb
    · exact bindM_Ext (hd_free F t _ _ _ _ h2 k) hb
    · exact .refl
    · exact uniL_Ext (fun l s t e l' h => uni_Ext F l s t e l' h) r1 r2 l e l' hb
def Goods (many : Nat) (t : T) : Prop := Good many t ∧ parts t ≤ 1048576
theorem goods_kids {many : Nat} {k : Nat} {s : ByteArray} {n : Int} {r : List T} (h : Goods many (.mk k s n r)) : ∀ t ∈ r, Goods many t := good_kids h.1 h.2
theorem bind_eq {l : Bs} {n : Int} {x : T} (ha : Acyc (l ++ [(n, x)])) (hl : look l n = none) (s : ByteArray) (r : List T) : EqA (l ++ [(n, x)]) (.mk 1 s n r) x := by
  obtain ⟨F, u, hu⟩ := ha x
  refine ⟨F + 1, u, ?_, ap_step F x u hu⟩
  simp only [ap, if_true]
  rw [look_app, hl]
  simp only [if_true]
  exact hu
theorem uniL_sound {many : Nat} {g : Bs → T → T → Option (Int × Bs)} (hx : ∀ l s t e l', g l s t = some (e, l') → Ext l l') (hw : ∀ l s t e l', Good many s → parts s ≤ 1048576 → Good many t → parts t ≤ 1048576 → WfB many l → g l s t = some (e, l') → WfB many l')
    (hg : ∀ l s t l', Goods many s → Goods many t → WfB many l → Acyc l → g l s t = some (0, l') → EqA l' s t) : ∀ (ss ts : List T) (l l' : Bs), (∀ s ∈ ss, Goods many s) → (∀ t ∈ ts, Goods many t) → WfB many l → Acyc l → uniL g l ss ts = some (0, l') →
    ∀ (j : Nat) (a b : T), ss[j]? = some a → ts[j]? = some b → EqA l' a b
  | [], ts, l, l', _, _, _, _, h, j, a, b, ha, _ => by simp at ha
  | s :: ss, [], l, l', _, _, _, _, h, j, a, b, _, hb => by simp at hb
  | s :: ss, t :: ts, l, l', hs, ht, hwl, hac, h, j, a, b, ha, hb => by
    simp only [uniL] at h
    cases hq : g l s t with
    | none => rw [hq] at h; cases h
    | some p =>
      obtain ⟨e1, l1⟩ := p
      rw [hq] at h
      simp only at h
      by_cases he : e1 = 0
      · rw [if_pos he] at h
        subst he
        cases j with
        | zero =>
          simp only [List.getElem?_cons_zero, Option.some.injEq] at ha hb
          subst ha hb
          exact (hg l s t l1 (hs s (by simp)) (ht t (by simp)) hwl hac hq).ext (uniL_Ext hx ss ts l1 0 l' h)
        | succ j =>
          exact uniL_sound hx hw hg ss ts l1 l' (fun x hx => hs x (by simp [hx])) (fun x hx => ht x (by simp [hx])) (hw l s t 0 l1 (hs s (by simp)).1 (hs s (by simp)).2 (ht t (by simp)).1 (ht t (by simp)).2 hwl hq) (hac.ext (hx _ _ _ _ _ hq)) h j a b (by simpa using ha) (by simpa using hb)
      · rw [if_neg he] at h
        simp only [Option.some.injEq, Prod.mk.injEq] at h
        exact absurd h.1 he
/-- behind OK both are the same -/
theorem uni_sound {many : Nat} {S T0 : T} : ∀ (F : Nat) (l : Bs) (s t : T) (l' : Bs), Goods many s → Goods many t → WfB many l → Acyc l → uni S T0 F l s t = some (0, l') → EqA l' s t
  | 0, _, _, _, _, _, _, _, _, h => by cases h
  | F + 1, l, s, t, l', hs, ht, hw, hac, h => by
    have hX := uni_Ext _ _ _ _ _ _ h
    have hac' := hac.ext hX
    obtain ⟨k1, s1, n1, r1, k2, s2, n2, r2, h1, h2, hc⟩ := uni_cases h
    have g1 := hd_good hw.fine F s _ hs.1 hs.2 h1
    have g2 := hd_good hw.fine F t _ ht.1 ht.2 h2
    have e1 := (EqA.hd hac h1).ext hX
    have e2 := (EqA.hd hac h2).ext hX
    refine e1.trans (EqA.trans ?_ e2.symm)
    rcases hc with ⟨rfl, rfl, rfl, _, rfl⟩ | ⟨rfl, _, hb⟩ | ⟨rfl, _, hb⟩ | ⟨_, _, _, h0, _⟩ | ⟨hk, rfl, rfl, hl, hb⟩
    · rw [good_vars g1.1 g2.1]
      exact EqA.refl hac' _
    · rcases bindM_ext hb with ⟨h0, _⟩ | ⟨rfl, _⟩
      · cases h0
      · exact bind_eq hac' (hd_free F s _ _ _ _ h1 rfl) s1 r1
    · rcases bindM_ext hb with ⟨h0, _⟩ | ⟨rfl, _⟩
      · cases h0
      · exact (bind_eq hac' (hd_free F t _ _ _ _ h2 rfl) s2 r2).symm
    · cases h0
    · have hn1 := g1.1.num0 hk
      have hn2 := g2.1.num0 hk
      subst hn1 hn2
      exact EqA.mk hk hl (uniL_sound (fun l s t e l' h => uni_Ext F l s t e l' h) (fun l s t e l' a b c d hw h => uni_wf F l s t e l' a b c d hw h) (fun l s t l' a b c d h => uni_sound F l s t l' a b c d h) r1 r2 l l' (goods_kids g1) (goods_kids g2) hw hac hb)
theorem uniL_again {many : Nat} {g : Bs → T → T → Option (Int × Bs)} {l : Bs} (hg : ∀ s t e l', Goods many s → Goods many t → EqA l s t → g l s t = some (e, l') → e = 0 ∧ l' = l) : ∀ (ss ts : List T) (e : Int) (l' : Bs), (∀ s ∈ ss, Goods many s) → (∀ t ∈ ts, Goods many t) →
    (∀ (j : Nat) (a b : T), ss[j]? = some a → ts[j]? = some b → EqA l a b) → uniL g l ss ts = some (e, l') → e = 0 ∧ l' = l
  | [], ts, e, l', _, _, _, h => by
    simp only [uniL, Option.some.injEq, Prod.mk.injEq] at h
    exact ⟨h.1.symm, h.2.symm⟩
  | s :: ss, [], e, l', _, _, _, h => by
    simp only [uniL, Option.some.injEq, Prod.mk.injEq] at h
    exact ⟨h.1.symm, h.2.symm⟩
  | s :: ss, t :: ts, e, l', hs, ht, hp, h => by
    simp only [uniL] at h
    cases hq : g l s t with
    | none => rw [hq] at h; cases h
    | some p =>
      obtain ⟨e1, l1⟩ := p
      rw [hq] at h
      obtain ⟨rfl, rfl⟩ := hg s t e1 l1 (hs s (by simp)) (ht t (by simp)) (hp 0 s t rfl rfl) hq
      simp only [if_true] at h
      exact uniL_again hg ss ts e l' (fun x hx => hs x (by simp [hx])) (fun x hx => ht x (by simp [hx])) (fun j a b ha hb => hp (j + 1) a b (by simpa using ha) (by simpa using hb)) h
theorem ap_var {l : Bs} {s : ByteArray} {n : Int} {r : List T} (h : look l n = none) (F : Nat) : ap l (F + 1) (.mk 1 s n r) = some (.mk 1 s n r) := by
  simp only [ap, if_true]
  rw [h]
/-- what is the same when applied binds nothing -/
theorem uni_again {many : Nat} {S T0 : T} : ∀ (F : Nat) (l : Bs) (s t : T) (e : Int) (l' : Bs), Goods many s → Goods many t → WfB many l → Acyc l → EqA l s t → uni S T0 F l s t = some (e, l') → e = 0 ∧ l' = l
  | 0, _, _, _, _, _, _, _, _, _, _, h => by cases h
  | F + 1, l, s, t, e, l', hs, ht, hw, hac, heq, h => by
    obtain ⟨k1, s1, n1, r1, k2, s2, n2, r2, h1, h2, hc⟩ := uni_cases h
    have g1 := hd_good hw.fine F s _ hs.1 hs.2 h1
    have g2 := hd_good hw.fine F t _ ht.1 ht.2 h2
    have he : EqA l (.mk k1 s1 n1 r1) (.mk k2 s2 n2 r2) := (EqA.hd hac h1).symm.trans (heq.trans (EqA.hd hac h2))
    have mix : ∀ (sa : ByteArray) (na : Int) (ra : List T) (kb : Nat) (sb : ByteArray) (nb : Int) (rb : List T), look l na = none → (kb = 1 → look l nb = none) → EqA l (.mk 1 sa na ra) (.mk kb sb nb rb) → kb = 1 ∧ na = nb := by
      intro sa na ra kb sb nb rb ha hb heq
      obtain ⟨G, u, k1, k2⟩ := heq
      cases G with
      | zero => cases k1
      | succ G =>
        rw [ap_var ha] at k1
        simp only [Option.some.injEq] at k1
        by_cases hk : kb = 1
        · subst hk
          rw [ap_var (hb rfl)] at k2
          simp only [Option.some.injEq] at k2
          rw [← k1] at k2
          simp only [T.mk.injEq] at k2
          exact ⟨rfl, k2.2.2.1.symm⟩
        · simp only [ap, if_neg hk] at k2
          cases hm : mapO (ap l G) rb with
          | none => rw [hm] at k2; cases k2
          | some us =>
            rw [hm] at k2
            simp only [Option.map_some, Option.some.injEq] at k2
            rw [← k1] at k2
            simp only [T.mk.injEq] at k2
            exact absurd k2.1 hk
    rcases hc with ⟨_, _, _, rfl, rfl⟩ | ⟨rfl, hn, hb⟩ | ⟨rfl, hn, hb⟩ | ⟨q1, q2, hn, _, _⟩ | ⟨hk, rfl, rfl, hl, hb⟩
    · exact ⟨rfl, rfl⟩
    · exact absurd (mix _ _ _ _ _ _ _ (hd_free F s _ _ _ _ h1 rfl) (fun q => hd_free F t _ _ _ _ h2 q) he) hn
    · obtain ⟨q1, q2⟩ := mix _ _ _ _ _ _ _ (hd_free F t _ _ _ _ h2 rfl) (fun q => hd_free F s _ _ _ _ h1 q) he.symm
      exact absurd ⟨q1, q2.symm⟩ hn
    · obtain ⟨c1, c2, c3, _⟩ := EqA.kids q1 q2 he
      rcases hn with q | q | q
      · exact absurd c1 q
      · exact absurd c2 q
      · exact absurd c3 q
    · obtain ⟨_, _, _, c4⟩ := EqA.kids hk hk he
      exact uniL_again (fun s t e l' a b c h => uni_again F l s t e l' a b hw hac c h) r1 r2 e l' (goods_kids g1) (goods_kids g2) c4 hb
/-- both types in all are no greater than may be -/
def Small (l : Bs) (S T0 : T) : Prop := ∃ F a b, ap l F S = some a ∧ ap l F T0 = some b ∧ greatT a = false ∧ greatT b = false
theorem bindM_small {S T0 : T} {F : Nat} {l l' : Bs} {n : Int} {t : T} (h : bindM S T0 F l n t = some (0, l')) : Small l' S T0 := by
  rcases bindM_ext h with ⟨h0, _⟩ | ⟨_, u, a, b, _, _, h3, h4, h5⟩
  · cases h0
  · refine ⟨F, a, b, h3, h4, ?_⟩
    cases ha : greatT a <;> cases hb : greatT b <;> simp [ha, hb] at h5 ⊢
theorem uniL_small {S T0 : T} {g : Bs → T → T → Option (Int × Bs)} (hg : ∀ l s t l', g l s t = some (0, l') → l' = l ∨ Small l' S T0) : ∀ (ss ts : List T) (l l' : Bs), uniL g l ss ts = some (0, l') → l' = l ∨ Small l' S T0
  | [], ts, l, l', h => by
    simp only [uniL, Option.some.injEq, Prod.mk.injEq] at h
    exact .inl h.2.symm
  | s :: ss, [], l, l', h => by
    simp only [uniL, Option.some.injEq, Prod.mk.injEq] at h
    exact .inl h.2.symm
  | s :: ss, t :: ts, l, l', h => by
    simp only [uniL] at h
    cases hq : g l s t with
    | none => rw [hq] at h; cases h
    | some p =>
      obtain ⟨e1, l1⟩ := p
      rw [hq] at h
      simp only at h
      by_cases he : e1 = 0
      · rw [if_pos he] at h
        subst he
        rcases uniL_small hg ss ts l1 l' h with rfl | h2
        · exact hg _ _ _ _ hq
        · exact .inr h2
      · rw [if_neg he] at h
        simp only [Option.some.injEq, Prod.mk.injEq] at h
        exact absurd h.1 he
theorem uni_small {S T0 : T} : ∀ (F : Nat) (l : Bs) (s t : T) (l' : Bs), uni S T0 F l s t = some (0, l') → l' = l ∨ Small l' S T0
  | 0, _, _, _, _, h => by cases h
  | F + 1, l, s, t, l', h => by
    obtain ⟨k1, s1, n1, r1, k2, s2, n2, r2, h1, h2, hc⟩ := uni_cases h
    rcases hc with ⟨_, _, _, _, rfl⟩ | ⟨_, _, hb⟩ | ⟨_, _, hb⟩ | ⟨_, _, _, h0, _⟩ | ⟨_, _, _, _, hb⟩
    · exact .inl rfl
    · exact .inr (bindM_small hb)
    · exact .inr (bindM_small hb)
    · cases h0
    · exact uniL_small (fun l s t l' h => uni_small F l s t l' h) r1 r2 l l' hb
end Go.Proofs.Ytfjddfcndammdaa
