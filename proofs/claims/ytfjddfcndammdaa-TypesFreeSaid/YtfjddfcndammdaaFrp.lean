/- What Free and Apply come to, in plain Lean: the unknowns of a type applied are not bound, each told once. -/
import Derived.Test.YtfjddfcndammdaaMgb
import Derived.Test.YtfjddfcndammdaaFr
namespace Go.Proofs.Ytfjddfcndammdaa

/-- unknowns that stand in a type applied are not bound -/
theorem ap_free {l : Bs} (n : Int) : ∀ (F : Nat) (t u : T), ap l F t = some u → occ n u = true → look l n = none
  | 0, _, _, h, _ => by cases h
  | F + 1, .mk k s m r, u, h, ho => by
    simp only [ap] at h
    by_cases hk : k = 1
    · rw [if_pos hk] at h
      cases hl : look l m with
      | some y =>
        rw [hl] at h
        exact ap_free n F y u h ho
      | none =>
        rw [hl] at h
        simp only [Option.some.injEq] at h
        rw [← h] at ho
        simp only [occ, if_pos hk, decide_eq_true_eq] at ho
        rw [← ho]
        exact hl
    · rw [if_neg hk] at h
      cases hm : mapO (ap l F) r with
      | none => rw [hm] at h; cases h
      | some us =>
        rw [hm] at h
        simp only [Option.map_some, Option.some.injEq] at h
        rw [← h] at ho
        simp only [occ, if_neg hk] at ho
        rw [occL_any] at ho
        obtain ⟨y, hy, hy2⟩ := List.any_eq_true.1 ho
        obtain ⟨j, hj⟩ := List.getElem?_of_mem hy
        obtain ⟨hl, hall⟩ := mapO_at r us hm
        obtain ⟨t, ht⟩ : ∃ t, r[j]? = some t := ⟨_, List.getElem?_eq_getElem (by have := (List.getElem?_eq_some_iff.1 hj).1; omega)⟩
        obtain ⟨v, hv1, hv2⟩ := hall j t ht
        rw [hj] at hv1
        simp only [Option.some.injEq] at hv1
        subst hv1
        exact ap_free n F t y hv2 hy2
theorem mapO_id {g : T → Option T} : ∀ r : List T, (∀ t ∈ r, g t = some t) → mapO g r = some r
  | [], _ => rfl
  | t :: r, h => by
    simp only [mapO]
    rw [h t (by simp), mapO_id r (fun x hx => h x (by simp [hx]))]
/-- where no unknown is bound, a type applied is itself -/
theorem ap_id {l : Bs} : ∀ (F : Nat) (t : T), parts t ≤ F → (∀ n, occ n t = true → look l n = none) → ap l F t = some t
  | 0, t, h, _ => by have := parts_pos t; omega
  | F + 1, .mk k s m r, h, ho => by
    simp only [ap]
    by_cases hk : k = 1
    · rw [if_pos hk, ho m (by simp [occ, hk])]
    · rw [if_neg hk, mapO_id r]
      · rfl
      · intro t ht
        obtain ⟨j, hj⟩ := List.getElem?_of_mem ht
        have h1 := parts_kid r j t hj
        simp only [parts] at h
        refine ap_id F t (by omega) fun n hn => ho n ?_
        simp only [occ, if_neg hk]
        rw [occL_any]
        exact List.any_eq_true.2 ⟨t, ht, hn⟩
theorem right_kids {k : Nat} {s : ByteArray} {n : Int} {r us : List T} (hk : k ≠ 1) (hl : r.length = us.length) (hu : rightL us = true) (h : right (.mk k s n r) = true) : right (.mk k s n us) = true := by
  simp only [right, if_neg hk] at h ⊢
  by_cases k2 : k = 2
  · simp only [if_pos k2, Bool.and_eq_true, hu, and_true] at h ⊢
    exact ⟨h.1, h.2.1⟩
  · by_cases k3 : k = 3
    · simp only [if_neg k2, if_pos k3, Bool.and_eq_true, hu, and_true, hl] at h ⊢
      exact ⟨h.1, h.2.1, h.2.2.1⟩
    · by_cases k4 : k = 4
      · simp only [if_neg k2, if_neg k3, if_pos k4, Bool.and_eq_true, hu, and_true, hl] at h ⊢
        exact ⟨h.1, h.2.1, h.2.2.1⟩
      · simp [if_neg k2, if_neg k3, if_neg k4] at h
/-- a good type applied is good -/
theorem ap_good {many : Nat} {l : Bs} (hfine : Fine many l) : ∀ (F : Nat) (t u : T), Good many t → ap l F t = some u → Good many u
  | 0, _, _, _, h => by cases h
  | F + 1, .mk k s m r, u, hg, h => by
    simp only [ap] at h
    by_cases hk : k = 1
    · rw [if_pos hk] at h
      cases hl : look l m with
      | some y =>
        rw [hl] at h
        exact ap_good hfine F y u (hfine.good m y hl).1 h
      | none =>
        rw [hl] at h
        simp only [Option.some.injEq] at h
        rw [← h]
        exact hg
    · rw [if_neg hk] at h
      cases hm : mapO (ap l F) r with
      | none => rw [hm] at h; cases h
      | some us =>
        rw [hm] at h
        simp only [Option.map_some, Option.some.injEq] at h
        rw [← h]
        obtain ⟨hl, hall⟩ := mapO_at r us hm
        have hus : ∀ (j : Nat) (y : T), us[j]? = some y → Good many y := by
          intro j y hj
          obtain ⟨t, ht⟩ : ∃ t, r[j]? = some t := ⟨_, List.getElem?_eq_getElem (by have := (List.getElem?_eq_some_iff.1 hj).1; omega)⟩
          obtain ⟨v, hv1, hv2⟩ := hall j t ht
          rw [hj] at hv1
          simp only [Option.some.injEq] at hv1
          subst hv1
          exact ap_good hfine F t y (hg.kids j t ht) hv2
        refine ⟨right_kids hk hl ((rightL_iff us).2 fun j t hj => (hus j t hj).1) hg.1, ?_⟩
        simp only [own, Bool.and_eq_true, ownL_all, List.all_eq_true]
        refine ⟨by simp [hk], fun t ht => ?_⟩
        obtain ⟨j, hj⟩ := List.getElem?_of_mem ht
        exact (hus j t hj).2
theorem right_kind {t : T} (h : right t = true) : t.kind ≠ 0 := by
  obtain ⟨k, s, n, r⟩ := t
  intro hk
  have : k = 0 := hk
  subst this
  simp [right] at h
mutual
theorem unkT_mem (x : Int) : ∀ (t : T) (l : List Int), right t = true → x ∈ unkT t l → x ∈ l ∨ occ x t = true
  | .mk k s n r, l, h, hx => by
    simp only [unkT] at hx
    by_cases hk : k = 1
    · subst hk
      have hr : r = [] := by
        simp only [right, if_true, Bool.and_eq_true] at h
        simpa using h.2.2
      subst hr
      simp only [unkL] at hx
      split at hx
      · simp only [List.mem_append, List.mem_singleton] at hx
        rcases hx with hx | hx
        · exact .inl hx
        · right
          simp [occ, hx]
      · exact .inl hx
    · rw [if_neg (fun q => hk q.1)] at hx
      have hrl : rightL r = true := by
        simp only [right, if_neg hk] at h
        by_cases k2 : k = 2
        · simp only [if_pos k2, Bool.and_eq_true] at h
          exact h.2.2
        · by_cases k3 : k = 3
          · simp only [if_neg k2, if_pos k3, Bool.and_eq_true] at h
            exact h.2.2.2
          · by_cases k4 : k = 4
            · simp only [if_neg k2, if_neg k3, if_pos k4, Bool.and_eq_true] at h
              exact h.2.2.2
            · simp [if_neg k2, if_neg k3, if_neg k4] at h
      simp only [occ, if_neg hk]
      exact unkL_mem x r l hrl hx
theorem unkL_mem (x : Int) : ∀ (r : List T) (l : List Int), rightL r = true → x ∈ unkL r l → x ∈ l ∨ occL x r = true
  | [], l, _, hx => .inl hx
  | t :: r, l, h, hx => by
    simp only [rightL, Bool.and_eq_true] at h
    simp only [unkL] at hx
    simp only [occL, Bool.or_eq_true]
    rcases unkL_mem x r _ h.2 hx with h1 | h1
    · rcases unkT_mem x t l h.1 h1 with h2 | h2
      · exact .inl h2
      · exact .inr (.inl h2)
    · exact .inr (.inr h1)
end
mutual
theorem unkT_nodup : ∀ (t : T) (l : List Int), l.Nodup → (unkT t l).Nodup
  | .mk k s n r, l, h => by
    simp only [unkT]
    refine unkL_nodup r _ ?_
    by_cases hc : k = 1 ∧ n ∉ l
    · rw [if_pos hc, List.nodup_append]
      refine ⟨h, by simp, fun a ha b hb e => ?_⟩
      simp only [List.mem_singleton] at hb
      subst e
      subst hb
      exact hc.2 ha
    · rw [if_neg hc]
      exact h
theorem unkL_nodup : ∀ (r : List T) (l : List Int), l.Nodup → (unkL r l).Nodup
  | [], _, h => h
  | t :: r, l, h => by
    simp only [unkL]
    exact unkL_nodup r _ (unkT_nodup t l h)
end
theorem good_var {many : Nat} {n : Int} (h0 : 0 ≤ n) (h1 : n < many) : Good many (varT n) := by
  constructor
  · simp [varT, right, h0, emptyS, ByteArray.toList_eq]
  · simp [varT, own, ownL, h1]
theorem great_var (n : Int) : greatT (varT n) = false := not_great (by simp [varT, parts, partsL]) (by simp [varT, depthT, depthL])
/-- an unknown that the law asks for -/
structure UnkOk (many : Nat) (l : Bs) (x : T) (n : Int) : Prop where
  lo : 0 ≤ n
  hi : n < many
  stands : occ n x = true
  self : Applied many l (varT n) (varT n)
theorem occ_range {many : Nat} (n : Int) : ∀ (f : Nat) (y : T), parts y ≤ f → Good many y → occ n y = true → 0 ≤ n ∧ n < many
  | 0, y, h, _, _ => by have := parts_pos y; omega
  | f + 1, .mk k s m r, h, hg, ho => by
    by_cases hk : k = 1
    · subst hk
      simp only [occ, if_true, decide_eq_true_eq] at ho
      subst ho
      exact hg.num
    · simp only [occ, if_neg hk] at ho
      rw [occL_any] at ho
      obtain ⟨y, hy, hy2⟩ := List.any_eq_true.1 ho
      obtain ⟨j, hj⟩ := List.getElem?_of_mem hy
      have h1 := parts_kid r j y hj
      simp only [parts] at h
      exact occ_range n f y (by omega) (hg.kids j y hj) hy2
/-- the law Free, plainly -/
theorem free_ok {many : Nat} {l : Bs} (hb : Bd many l) {t : T} (hp : parts t ≤ 1048576) (hr : right t = true) :
    ∃ x ns, Applied many l t x ∧ Freed many l t ns ∧ parts x ≤ 1048576 ∧ ((x.kind = 0 ∧ ns = []) ∨ (x.kind ≠ 0 ∧ Applied many l x x ∧ ns.Nodup ∧ ∀ n ∈ ns, UnkOk many l x n)) := by
  cases hm : may many t with
  | false => exact ⟨t, [], .inl ⟨hm, rfl⟩, .inl ⟨hm, rfl⟩, hp, .inr ⟨right_kind hr, .inl ⟨hm, rfl⟩, List.nodup_nil, fun n hn => by cases hn⟩⟩
  | true =>
    have hg := may_good.1 hm
    obtain ⟨F, y, hy⟩ := hb.acyc t
    cases hgr : greatT y with
    | true => exact ⟨zeroT, [], .inr ⟨hg, F, y, hy, .inl ⟨hgr, rfl⟩⟩, .inr ⟨hg, F, y, hy, .inl ⟨hgr, rfl⟩⟩, by simp [zeroT, parts, partsL], .inl ⟨rfl, rfl⟩⟩
    | false =>
      have hyg := ap_good hb.wf.fine F t y hg hy
      have hyp := great_parts hgr
      refine ⟨y, unkT y [], .inr ⟨hg, F, y, hy, .inr ⟨hgr, rfl⟩⟩, .inr ⟨hg, F, y, hy, .inr ⟨hgr, hyp, rfl⟩⟩, hyp, .inr ⟨right_kind hyg.1, ?_, unkT_nodup y [] List.nodup_nil, fun n hn => ?_⟩⟩
      · exact .inr ⟨hyg, parts y, y, ap_id _ y (Nat.le_refl _) (fun n hn => ap_free n F t y hy hn), .inr ⟨hgr, rfl⟩⟩
      · rcases unkT_mem n y [] hyg.1 hn with h | h
        · cases h
        · have hrange := occ_range n (parts y) y (Nat.le_refl _) hyg h
          refine ⟨hrange.1, hrange.2, h, .inr ⟨good_var hrange.1 hrange.2, 1, varT n, ?_, .inr ⟨great_var n, rfl⟩⟩⟩
          exact ap_var (ap_free n F t y hy h) 0
theorem free_not {many : Nat} {l : Bs} {t : T} (hr : right t = false) : Freed many l t [] ∧ Applied many l t t := by
  have hm : may many t = false := by simp [may, hr]
  exact ⟨.inl ⟨hm, rfl⟩, .inl ⟨hm, rfl⟩⟩
end Go.Proofs.Ytfjddfcndammdaa
