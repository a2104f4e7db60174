/- The law TokenAhead in plain Lean: where a source has no token, it has none there whatever stands behind it, unless it may still come to an end. -/
import Derived.Test.YtcaejcbmkiacmaaDoorStab
namespace Go.Proofs.YtcaejcbmkiacmaaDoor

/-- where Scan stands still -/
def Stuck (l : Bs) : Prop := l ≠ [] ∧ (blank l = none ∨ (blank l = some 0 ∧ tokT l = none))
theorem sep_same {x l : Bs} {k n : Nat} (hk : k < (l.drop n).length) (hx : x = [] ∨ ∃ c r r', x = c :: r ∧ (l.drop n).drop k = c :: r') : Sep ((l.drop n).take k ++ x) (l.drop n) := by
  cases hl : l.drop n with
  | nil => rw [hl] at hk; simp at hk
  | cons c r =>
    cases k with
    | zero =>
      rw [hl] at hx
      simp only [List.drop_zero, List.take_zero, List.nil_append] at hx ⊢
      rcases hx with rfl | ⟨d, q, q', rfl, h2⟩
      · exact .inl rfl
      · exact .inr (.inl ⟨d, q, q', rfl, h2⟩)
    | succ k => exact .inr (.inl ⟨c, r.take k ++ x, r, rfl, rfl⟩)
theorem ahead_of (pos : Nat) (l : Bs) : ∀ p, scanL pos l = .error p → ∃ k ts, p = pos + k ∧ k < l.length ∧ Stuck (l.drop k) ∧
    ∀ x, (x = [] ∨ ∃ c r r', x = c :: r ∧ l.drop k = c :: r') → scanL pos (l.take k ++ x) = (scanL p x).map (ts ++ ·) := by
  refine scanL_rec (fun pos l R => ∀ p, R = .error p → ∃ k ts, p = pos + k ∧ k < l.length ∧ Stuck (l.drop k) ∧
    ∀ x, (x = [] ∨ ∃ c r r', x = c :: r ∧ l.drop k = c :: r') → scanL pos (l.take k ++ x) = (scanL p x).map (ts ++ ·)) ?_ ?_ ?_ ?_ ?_ pos l
  · intro pos p h
    cases h
  · intro pos l h0 hb p h
    cases h
    refine ⟨0, [], rfl, List.length_pos_iff.2 h0, ⟨by simpa using h0, .inl (by simpa using hb)⟩, fun x _ => ?_⟩
    simp only [List.take_zero, List.nil_append]
    cases scanL pos x <;> rfl
  · intro pos l h0 hb ht p h
    cases h
    refine ⟨0, [], rfl, List.length_pos_iff.2 h0, ⟨by simpa using h0, .inr ⟨by simpa using hb, by simpa using ht⟩⟩, fun x _ => ?_⟩
    simp only [List.take_zero, List.nil_append]
    cases scanL pos x <;> rfl
  · intro pos l n hb hn ih p h
    obtain ⟨k, ts, hp, hk, hs, hx⟩ := ih p h
    rw [List.length_drop] at hk
    rw [List.drop_drop] at hs
    refine ⟨n + 1 + k, ts, by omega, by omega, hs, fun x hxx => ?_⟩
    rw [← List.drop_drop] at hxx
    have e : l.take (n + 1 + k) ++ x = l.take (n + 1) ++ ((l.drop (n + 1)).take k ++ x) := by rw [List.take_add, List.append_assoc]
    have hbs := blank_stab hb ((l.drop (n + 1)).take k ++ x)
    rw [e, scanL_blank hbs, List.drop_append_of_le_length (by rw [List.length_take]; omega), List.drop_eq_nil_of_le (by rw [List.length_take]; omega), List.nil_append]
    exact hx x hxx
  · intro pos l t n hb ht ih p h
    have hn := tokT_le ht
    cases hR : scanL (pos + n) (l.drop n) with
    | ok r => rw [hR] at h; cases h
    | error q =>
      rw [hR] at h
      simp only [Except.map, Except.error.injEq] at h
      subst h
      obtain ⟨k, ts, hp, hk, hs, hx⟩ := ih q hR
      have hk' := hk
      rw [List.length_drop] at hk
      rw [List.drop_drop] at hs
      refine ⟨n + k, { t with pos := pos } :: ts, by omega, by omega, hs, fun x hxx => ?_⟩
      rw [← List.drop_drop] at hxx
      have e : l.take (n + k) ++ x = l.take n ++ ((l.drop n).take k ++ x) := by rw [List.take_add, List.append_assoc]
      have hsep := sep_same hk' hxx
      have hb' := blank0_stab hb ht hsep
      have ht' := tokT_stab ht hsep
      rw [e, scanL_tok hb' ht', List.drop_append_of_le_length (by rw [List.length_take]; omega), List.drop_eq_nil_of_le (by rw [List.length_take]; omega), List.nil_append, hx x hxx]
      cases scanL q x <;> simp [Except.map]
theorem numF_app : ∀ (a b : Bs) (acc : Nat), numF acc (a ++ b) = (numF acc a).bind fun v => numF v b
  | [], b, acc => by simp [numF]
  | c :: r, b, acc => by
    simp only [List.cons_append, numF]
    split
    · rfl
    · exact numF_app r b _
theorem takeWhile_app (p : UInt8 → Bool) : ∀ (a b : Bs), ∃ z, (a ++ b).takeWhile p = a.takeWhile p ++ z
  | [], b => ⟨b.takeWhile p, by simp⟩
  | c :: r, b => by
    cases hp : p c
    · exact ⟨[], by simp [hp]⟩
    · obtain ⟨z, hz⟩ := takeWhile_app p r b
      exact ⟨z, by simp [hp, hz]⟩
theorem signFrom_head (c : UInt8) (r : Bs) : ∀ (ss : List Bs), (∀ y ∈ ss, y ≠ [] ∧ y.headD 0 ≠ c) → signFrom (c :: r) ss = none
  | [], _ => rfl
  | y :: s, h => by
    rw [signFrom, if_neg, signFrom_head c r s fun z hz => h z (by simp [hz])]
    obtain ⟨h1, h2⟩ := h y (by simp)
    cases y with
    | nil => exact absurd rfl h1
    | cons a b =>
      intro hc
      rw [List.isPrefixOf_iff_prefix] at hc
      obtain ⟨z, hz⟩ := hc
      simp only [List.cons_append, List.cons.injEq] at hz
      exact h2 hz.1
theorem signFrom_has (l : Bs) : ∀ (ss : List Bs) (y : Bs), y ∈ ss → y <+: l → signFrom l ss ≠ none
  | [], y, h, _ => by simp at h
  | z :: s, y, h, hp => by
    rw [signFrom]
    split
    · simp
    · rename_i hz
      rcases List.mem_cons.1 h with rfl | h
      · exact absurd (List.isPrefixOf_iff_prefix.2 hp) hz
      · exact signFrom_has l s y h hp
theorem signs_heads : ∀ y ∈ signs, y ≠ [] ∧ [y.headD 0] ∈ signs := by decide
theorem sign_none (c : UInt8) (r r' : Bs) (h : signT (c :: r) = none) : signT (c :: r') = none := by
  refine signFrom_head c r' signs fun y hy => ?_
  obtain ⟨h1, h2⟩ := signs_heads y hy
  refine ⟨h1, fun hc => ?_⟩
  rw [hc] at h2
  exact signFrom_has (c :: r) signs [c] h2 ⟨r, rfl⟩ h
theorem stuck_more {l more : Bs} (hs : Stuck l) : (∃ r, l = 34 :: r) ∨ (∃ r, l = 40 :: r) ∨ (∃ r, l = 39 :: r) ∨ ∀ pos, scanL pos (l ++ more) = .error pos := by
  obtain ⟨h0, h | ⟨hb, ht⟩⟩ := hs
  · cases l with
    | nil => exact absurd rfl h0
    | cons c r =>
      cases ho : opens (c :: r)
      · rw [blank_no ho] at h
        split at h <;> cases h
      · obtain ⟨r', hr⟩ := opens_head ho
        exact .inr (.inl ⟨_, hr⟩)
  · cases l with
    | nil => exact absurd rfl h0
    | cons c r =>
      by_cases h34 : c = 34
      · exact .inl ⟨r, by rw [h34]⟩
      · by_cases h40 : c = 40
        · exact .inr (.inl ⟨r, by rw [h40]⟩)
        · by_cases h39 : c = 39
          · exact .inr (.inr (.inl ⟨r, by rw [h39]⟩))
          · refine .inr (.inr (.inr fun pos => ?_))
            obtain ⟨hw, ho⟩ := blank_zero hb
            have ho' : opens (c :: (r ++ more)) = false := by
              cases h2 : opens (c :: (r ++ more)) with
              | false => rfl
              | true =>
                obtain ⟨r', hr⟩ := opens_head h2
                simp only [List.cons.injEq] at hr
                exact absurd hr.1 h40
            refine scanL_no (l := c :: (r ++ more)) (blank_zero_of hw ho') (by simp) ?_
            unfold tokT at ht ⊢
            simp only at ht ⊢
            split at ht
            · rename_i hc
              rw [if_pos hc]
              unfold nameT at ht ⊢
              split at ht
              · rename_i hlen
                obtain ⟨z, hz⟩ := takeWhile_app part (c :: r) more
                rw [if_pos]
                show 32 < ((c :: r ++ more).takeWhile part).length
                rw [hz, List.length_append]
                omega
              · cases ht
            · rename_i hc
              rw [if_neg hc]
              split at ht
              · rename_i hd
                rw [if_pos hd]
                unfold numT at ht ⊢
                rw [Option.map_eq_none_iff] at ht ⊢
                obtain ⟨z, hz⟩ := takeWhile_app digit (c :: r) more
                show numF 0 ((c :: r ++ more).takeWhile digit) = none
                rw [hz, numF_app, ht]
                rfl
              · rename_i hd
                rw [if_neg hd, if_neg h39, if_neg h34]
                exact sign_none c r _ ht
/-- what the law asks -/
theorem ahead_src (src : Bs) (p : Nat) (h : scanL 0 src = .error p) : ∃ ts, p < src.length ∧ scanL 0 (src.take p) = .ok ts ∧ ∀ more, (∃ k, p ≤ k ∧ scanL 0 (src ++ more) = .error k) ∨
    ∃ z c, scanL 0 (src ++ more) = .ok (ts ++ z) ∧ src[p]? = some c ∧ (c = 34 ∨ c = 40 ∨ c = 39) := by
  obtain ⟨k, ts, hp, hk, hs, hx⟩ := ahead_of 0 src p h
  obtain rfl : p = k := by omega
  refine ⟨ts, hk, ?_, fun more => ?_⟩
  · have := hx [] (.inl rfl)
    rw [List.append_nil, scanL_nil] at this
    rw [this]
    simp [Except.map]
  · have hne := hs.1
    obtain ⟨c, r, hcr⟩ : ∃ c r, src.drop p = c :: r := by
      cases hd : src.drop p with
      | nil => exact absurd hd hne
      | cons c r => exact ⟨c, r, rfl⟩
    have hget : src[p]? = some c := by
      have : (src.drop p)[0]? = some c := by rw [hcr]; rfl
      rwa [List.getElem?_drop, Nat.add_zero] at this
    have h2 := hx (src.drop p ++ more) (.inr ⟨c, r ++ more, r, by rw [hcr]; rfl, hcr⟩)
    rw [← List.append_assoc, List.take_append_drop] at h2
    cases hR : scanL p (src.drop p ++ more) with
    | error q =>
      rw [hR] at h2
      exact .inl ⟨q, (error_of p _ q hR).1, h2⟩
    | ok z =>
      rw [hR] at h2
      refine .inr ⟨z, c, h2, hget, ?_⟩
      rcases stuck_more (more := more) hs with ⟨r', e⟩ | ⟨r', e⟩ | ⟨r', e⟩ | e
      · rw [hcr] at e
        simp only [List.cons.injEq] at e
        exact .inl e.1
      · rw [hcr] at e
        simp only [List.cons.injEq] at e
        exact .inr (.inl e.1)
      · rw [hcr] at e
        simp only [List.cons.injEq] at e
        exact .inr (.inr e.1)
      · rw [e p] at hR
        cases hR
end Go.Proofs.YtcaejcbmkiacmaaDoor
