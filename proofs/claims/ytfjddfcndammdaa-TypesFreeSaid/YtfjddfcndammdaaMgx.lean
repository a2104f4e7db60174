/- Types are made the same in so many steps; what makes two types the same makes so what is bound. -/
import Derived.Test.YtfjddfcndammdaaMgu
namespace Go.Proofs.Ytfjddfcndammdaa

theorem bindM_mono {S T0 : T} {F F' : Nat} (hf : F ≤ F') {l : Bs} {n : Int} {t : T} {x : Int × Bs} (h : bindM S T0 F l n t = some x) : bindM S T0 F' l n t = some x := by
  unfold bindM at h ⊢
  cases hu : ap l F t with
  | none => rw [hu] at h; cases h
  | some u =>
    rw [hu] at h
    rw [ap_mono hf hu]
    simp only at h ⊢
    cases ho : occ n u with
    | true =>
      rw [ho] at h
      simpa using h
    | false =>
      rw [ho] at h
      simp only [Bool.false_eq_true, if_false] at h ⊢
      cases ha : ap (l ++ [(n, t)]) F S with
      | none => rw [ha] at h; cases h
      | some a =>
        cases hb : ap (l ++ [(n, t)]) F T0 with
        | none => rw [ha, hb] at h; cases h
        | some b =>
          rw [ha, hb] at h
          rw [ap_mono hf ha, ap_mono hf hb]
          exact h
theorem uniL_mono {g g' : Bs → T → T → Option (Int × Bs)} (hg : ∀ l s t x, g l s t = some x → g' l s t = some x) : ∀ (ss ts : List T) (l : Bs) (x : Int × Bs), uniL g l ss ts = some x → uniL g' l ss ts = some x
  | [], ts, l, x, h => by simpa [uniL] using h
  | s :: ss, [], l, x, h => by simpa [uniL] using h
  | s :: ss, t :: ts, l, x, h => by
    simp only [uniL] at h ⊢
    cases hq : g l s t with
    | none => rw [hq] at h; cases h
    | some p =>
      obtain ⟨e1, l1⟩ := p
      rw [hq] at h
      rw [hg l s t _ hq]
      simp only at h ⊢
      by_cases he : e1 = 0
      · rw [if_pos he] at h ⊢
        exact uniL_mono hg ss ts l1 x h
      · rw [if_neg he] at h ⊢
        exact h
theorem uni_step {S T0 : T} : ∀ (F : Nat) (l : Bs) (s t : T) (x : Int × Bs), uni S T0 F l s t = some x → uni S T0 (F + 1) l s t = some x
  | 0, _, _, _, _, h => by cases h
  | F + 1, l, s, t, x, h => by
    rw [uni] at h ⊢
    cases h1 : hd l F s with
    | none => rw [h1] at h; cases h
    | some y =>
      obtain ⟨k1, s1, n1, r1⟩ := y
      cases h2 : hd l F t with
      | none => rw [h1, h2] at h; cases h
      | some z =>
        obtain ⟨k2, s2, n2, r2⟩ := z
        rw [h1, h2] at h
        rw [hd_step F s _ h1, hd_step F t _ h2]
        simp only at h ⊢
        split at h
        · rename_i c; rw [if_pos c]; exact h
        · rename_i c; rw [if_neg c]
          split at h
          · rename_i c; rw [if_pos c]; exact bindM_mono (Nat.le_succ F) h
          · rename_i c; rw [if_neg c]
            split at h
            · rename_i c; rw [if_pos c]; exact bindM_mono (Nat.le_succ F) h
            · rename_i c; rw [if_neg c]
              split at h
              · rename_i c; rw [if_pos c]; exact h
              · rename_i c; rw [if_neg c]; exact uniL_mono (fun l s t x h => uni_step F l s t x h) r1 r2 l x h
theorem uni_mono {S T0 : T} {F F' : Nat} (hf : F ≤ F') {l : Bs} {s t : T} {x : Int × Bs} (h : uni S T0 F l s t = some x) : uni S T0 F' l s t = some x := by
  induction hf with
  | refl => exact h
  | step _ ih => exact uni_step _ _ _ _ _ ih
theorem bindM_ex {S T0 : T} {l : Bs} (hac : Acyc l) {n : Int} (hl : look l n = none) (t : T) : ∃ F x, bindM S T0 F l n t = some x := by
  obtain ⟨F, u, hu⟩ := hac t
  cases ho : occ n u with
  | true => exact ⟨F, (13, l), by unfold bindM; rw [hu]; simp [ho]⟩
  | false =>
    have hac' := hac.ext (Ext.refl.step hl hu ho)
    obtain ⟨F1, a, ha⟩ := hac' S
    obtain ⟨F2, b, hb⟩ := hac' T0
    refine ⟨max F (max F1 F2), (if greatT a || greatT b then 16 else 0, l ++ [(n, t)]), ?_⟩
    unfold bindM
    rw [ap_mono (Nat.le_max_left F (max F1 F2)) hu]
    simp only [ho, Bool.false_eq_true, if_false]
    rw [ap_mono (by omega) ha, ap_mono (by omega) hb]
/-- fuel for a row, when each pair has some: as long as nothing is bound by the pairs themselves, and behind it by what holds of longer bindings -/
theorem uniL_ex {many : Nat} {S T0 : T} {l : Bs} (hlong : ∀ l2, l.length < l2.length → WfB many l2 → Acyc l2 → ∀ s t, Goods many s → Goods many t → ∃ F x, uni S T0 F l2 s t = some x) :
    ∀ (ss ts : List T), (∀ s ∈ ss, Goods many s) → (∀ t ∈ ts, Goods many t) → (∀ (j : Nat) (a b : T), ss[j]? = some a → ts[j]? = some b → ∃ F x, uni S T0 F l a b = some x) → ∀ l1, (l1 = l ∨ l.length < l1.length) → WfB many l1 → Acyc l1 → ∃ F x, uniL (uni S T0 F) l1 ss ts = some x
  | [], ts, _, _, _, l1, _, _, _ => ⟨0, (0, l1), rfl⟩
  | s :: ss, [], _, _, _, l1, _, _, _ => ⟨0, (0, l1), rfl⟩
  | s :: ss, t :: ts, hs, ht, hp, l1, h1, hw, hac => by
    have h2 : ∃ F x, uni S T0 F l1 s t = some x := by
      rcases h1 with rfl | h1
      · exact hp 0 s t rfl rfl
      · exact hlong l1 h1 hw hac s t (hs s (by simp)) (ht t (by simp))
    obtain ⟨F, ⟨e, l2⟩, hx⟩ := h2
    by_cases he : e = 0
    · subst he
      have hX := uni_Ext _ _ _ _ _ _ hx
      have hl2 : l2 = l ∨ l.length < l2.length := by
        rcases hX.len with rfl | h
        · exact h1
        · rcases h1 with rfl | h1
          · exact .inr h
          · exact .inr (by omega)
      have hw2 := uni_wf _ _ _ _ _ _ (hs s (by simp)).1 (hs s (by simp)).2 (ht t (by simp)).1 (ht t (by simp)).2 hw hx
      obtain ⟨G, x, hy⟩ := uniL_ex hlong ss ts (fun x hx => hs x (by simp [hx])) (fun x hx => ht x (by simp [hx])) (fun j a b ha hb => hp (j + 1) a b (by simpa using ha) (by simpa using hb)) l2 hl2 hw2 (hac.ext hX)
      refine ⟨max F G, x, ?_⟩
      simp only [uniL]
      rw [uni_mono (Nat.le_max_left F G) hx]
      simp only [if_true]
      exact uniL_mono (fun l s t x h => uni_mono (Nat.le_max_right F G) h) ss ts l2 x hy
    · refine ⟨F, (e, l2), ?_⟩
      simp only [uniL]
      rw [hx]
      simp only [if_neg he]
theorem parts_us {l : Bs} {F : Nat} : ∀ (r us : List T) (j : Nat) (t : T), mapO (ap l F) r = some us → r[j]? = some t → ∃ u, ap l F t = some u ∧ parts u ≤ partsL us := by
  intro r us j t hm hj
  obtain ⟨_, h2⟩ := mapO_at r us hm
  obtain ⟨u, hu, hg⟩ := h2 j t hj
  exact ⟨u, hg, parts_kid us j u hu⟩
/-- so much fuel does -/
theorem uni_ex {many : Nat} {S T0 : T} : ∀ (d p : Nat) (l : Bs) (s t : T), many - l.length ≤ d → WfB many l → Acyc l → Goods many s → Goods many t → (∃ F u, ap l F s = some u ∧ parts u ≤ p) → ∃ F x, uni S T0 F l s t = some x
  | d, 0, l, s, t, _, _, _, _, _, hp => by
    obtain ⟨_, u, _, h⟩ := hp
    have := parts_pos u
    omega
  | d, p + 1, l, s, t, hd0, hw, hac, hs, ht, hp => by
    obtain ⟨F, u, hu, hpu⟩ := hp
    obtain ⟨G, v, hv⟩ := hac t
    obtain ⟨h1, hh1, hd1⟩ := ap_hd F s u (ap_step _ _ _ hu)
    obtain ⟨h2, hh2, hd2⟩ := ap_hd G t v (ap_step _ _ _ hv)
    obtain ⟨k1, s1, n1, r1⟩ := h1
    obtain ⟨k2, s2, n2, r2⟩ := h2
    have g1 := hd_good hw.fine _ s _ hs.1 hs.2 hh1
    have g2 := hd_good hw.fine _ t _ ht.1 ht.2 hh2
    have fin : ∀ K x, (∀ F', K ≤ F' → uni S T0 (F' + 1) l s t = some x) → ∃ F x, uni S T0 F l s t = some x := fun K x h => ⟨K + 1, x, h K (Nat.le_refl _)⟩
    have both : ∀ F', F + 1 + (G + 1) ≤ F' → hd l F' s = some (.mk k1 s1 n1 r1) ∧ hd l F' t = some (.mk k2 s2 n2 r2) := fun F' hF => ⟨hd_mono (by omega) hh1, hd_mono (by omega) hh2⟩
    by_cases c1 : k1 = 1 ∧ k2 = 1 ∧ n1 = n2
    · refine fin (F + 1 + (G + 1)) (0, l) fun F' hF => ?_
      rw [uni, (both F' hF).1, (both F' hF).2]
      simp only [if_pos c1]
    · by_cases c2 : k1 = 1 ∧ (k2 ≠ 1 ∨ n2 < n1)
      · obtain ⟨K, x, hx⟩ := bindM_ex (S := S) (T0 := T0) hac (hd_free _ s _ _ _ _ hh1 c2.1) (.mk k2 s2 n2 r2)
        refine fin (F + 1 + (G + 1) + K) x fun F' hF => ?_
        rw [uni, (both F' (by omega)).1, (both F' (by omega)).2]
        simp only [if_neg c1, if_pos c2]
        exact bindM_mono (by omega) hx
      · by_cases c3 : k2 = 1
        · obtain ⟨K, x, hx⟩ := bindM_ex (S := S) (T0 := T0) hac (hd_free _ t _ _ _ _ hh2 c3) (.mk k1 s1 n1 r1)
          refine fin (F + 1 + (G + 1) + K) x fun F' hF => ?_
          rw [uni, (both F' (by omega)).1, (both F' (by omega)).2]
          simp only [if_neg c1, if_neg c2, if_pos c3]
          exact bindM_mono (by omega) hx
        · by_cases c4 : k1 ≠ k2 ∨ s1 ≠ s2 ∨ r1.length ≠ r2.length
          · refine fin (F + 1 + (G + 1)) (13, l) fun F' hF => ?_
            rw [uni, (both F' hF).1, (both F' hF).2]
            simp only [if_neg c1, if_neg c2, if_neg c3, if_pos c4]
          · have hk1 : k1 ≠ 1 := fun q => c2 ⟨q, .inl c3⟩
            rcases hd1 with ⟨q, _⟩ | ⟨_, us, hus, rfl⟩
            · exact absurd q hk1
            · have hlong : ∀ l2, l.length < l2.length → WfB many l2 → Acyc l2 → ∀ s t, Goods many s → Goods many t → ∃ F x, uni S T0 F l2 s t = some x := by
                intro l2 hlt hw2 hac2 s t hs ht
                obtain ⟨K, w, hwk⟩ := hac2 s
                have hlen := hw2.len
                exact uni_ex (d - 1) (parts w) l2 s t (by omega) hw2 hac2 hs ht ⟨K, w, hwk, Nat.le_refl _⟩
              have hkid : ∀ (j : Nat) (a b : T), r1[j]? = some a → r2[j]? = some b → ∃ F x, uni S T0 F l a b = some x := by
                intro j a b ha hb
                obtain ⟨w, hw1, hw2⟩ := parts_us r1 us j a hus ha
                simp only [parts] at hpu
                exact uni_ex d p l a b hd0 hw hac (goods_kids g1 a (List.mem_of_getElem? ha)) (goods_kids g2 b (List.mem_of_getElem? hb)) ⟨F, w, hw1, by omega⟩
              obtain ⟨K, x, hx⟩ := uniL_ex hlong r1 r2 (goods_kids g1) (goods_kids g2) hkid l (.inl rfl) hw hac
              refine fin (F + 1 + (G + 1) + K) x fun F' hF => ?_
              rw [uni, (both F' (by omega)).1, (both F' (by omega)).2]
              simp only [if_neg c1, if_neg c2, if_neg c3, if_neg c4]
              exact uniL_mono (fun l s t x h => uni_mono (by omega) h) r1 r2 l x hx
  termination_by d p l => (many - l.length, p)
  decreasing_by
    · have hlen := hw2.len
      exact Prod.Lex.left _ _ (by omega)
    · exact Prod.Lex.right _ (by omega)
theorem uni_any {many : Nat} {S T0 : T} {l : Bs} (hw : WfB many l) (hac : Acyc l) {s t : T} (hs : Goods many s) (ht : Goods many t) : ∃ F e l', uni S T0 F l s t = some (e, l') := by
  obtain ⟨F, u, hu⟩ := hac s
  obtain ⟨G, ⟨e, l'⟩, h⟩ := uni_ex (S := S) (T0 := T0) (many - l.length) (parts u) l s t (Nat.le_refl _) hw hac hs ht ⟨F, u, hu, Nat.le_refl _⟩
  exact ⟨G, e, l', h⟩
end Go.Proofs.Ytfjddfcndammdaa
