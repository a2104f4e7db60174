/- Where a token or a blank ends, it ends there whatever stands behind it, if that begins alike, or with a blank or a comment. -/
import Derived.Test.YtcaejcbmkiacmaaDoorPlacesPlain
namespace Go.Proofs.YtcaejcbmkiacmaaDoor

def Sep (x l : Bs) : Prop := x = [] ∨ (∃ c r r', x = c :: r ∧ l = c :: r') ∨ ∃ c r, x = c :: r ∧ (c = 32 ∨ c = 10 ∨ c = 9 ∨ c = 40)
def Seps (p : UInt8 → Bool) : Prop := p 32 = false ∧ p 10 = false ∧ p 9 = false ∧ p 40 = false
theorem part_seps : Seps part := ⟨by decide, by decide, by decide, by decide⟩
theorem digit_seps : Seps digit := ⟨by decide, by decide, by decide, by decide⟩
theorem takeWhile_next (p : UInt8 → Bool) : ∀ (l : Bs) (c : UInt8) (r : Bs), l.drop (l.takeWhile p).length = c :: r → p c = false
  | [], c, r, h => by simp at h
  | a :: s, c, r, h => by
    cases hp : p a
    · simp only [List.takeWhile_cons, hp, Bool.false_eq_true, if_false, List.length_nil, List.drop_zero, List.cons.injEq] at h
      rw [← h.1, hp]
    · rw [List.takeWhile_cons_of_pos hp] at h
      simp only [List.length_cons, List.drop_succ_cons] at h
      exact takeWhile_next p s c r h
theorem takeWhile_stab (p : UInt8 → Bool) (hp : Seps p) (l x : Bs) (hx : Sep x (l.drop (l.takeWhile p).length)) : ((l.take (l.takeWhile p).length) ++ x).takeWhile p = l.takeWhile p := by
  rw [← takeWhile_take p l]
  rw [List.takeWhile_append_of_pos (fun c hc => takeWhile_mem p l c hc)]
  have h0 : x.takeWhile p = [] := by
    rcases hx with rfl | ⟨c, r, r', rfl, hl⟩ | ⟨c, r, rfl, hc⟩
    · rfl
    · have := takeWhile_next p l c r' hl
      simp [this]
    · have : p c = false := by
        rcases hc with rfl | rfl | rfl | rfl
        · exact hp.1
        · exact hp.2.1
        · exact hp.2.2.1
        · exact hp.2.2.2
      simp [this]
  rw [h0, List.append_nil]
theorem textF_stab : ∀ (l : Bs) (o : Bs) (k : Nat) (x : Bs), textF l = some (o, k) → textF (l.take k ++ x) = some (o, k)
  | [], o, k, x, h => by simp [textF] at h
  | [c], o, k, x, h => by
    rw [textF] at h
    split at h
    · rename_i hc
      simp only [Option.some.injEq, Prod.mk.injEq] at h
      obtain ⟨rfl, rfl⟩ := h
      subst hc
      exact textF_quote x
    · cases h
  | c :: d :: r, o, k, x, h => by
    by_cases hq : c = 34
    · subst hq
      rw [textF_quote] at h
      simp only [Option.some.injEq, Prod.mk.injEq] at h
      obtain ⟨rfl, rfl⟩ := h
      exact textF_quote _
    · by_cases hb : c.toNat < 32 ∨ 126 < c.toNat
      · rw [textF_bad c _ hq hb] at h
        cases h
      · by_cases hs : c = 92
        · subst hs
          rw [textF_slash] at h
          cases he : escaped d with
          | none => rw [he] at h; cases h
          | some y =>
            rw [he] at h
            obtain ⟨p, h1, h2⟩ := Option.map_eq_some_iff.1 h
            simp only [Prod.mk.injEq] at h2
            obtain ⟨rfl, rfl⟩ := h2
            have ih := textF_stab r p.1 p.2 x h1
            show textF (92 :: d :: (r.take p.2 ++ x)) = _
            rw [textF_slash, he]
            simp [ih]
        · rw [textF_plain c _ hq hb hs] at h
          obtain ⟨p, h1, h2⟩ := Option.map_eq_some_iff.1 h
          simp only [Prod.mk.injEq] at h2
          obtain ⟨rfl, rfl⟩ := h2
          have ih := textF_stab (d :: r) p.1 p.2 x h1
          show textF (c :: ((d :: r).take p.2 ++ x)) = _
          rw [textF_plain c _ hq hb hs, ih]
          rfl
theorem signFrom_stab (l x : Bs) (n : Nat) (hn : 1 ≤ n) (hnl : n ≤ l.length) (hx : Sep x (l.drop n)) : ∀ (ss : List Bs) (t : Tok),
    (∀ y ∈ ss, y.length ≤ 2 ∧ ∀ a b, y = [a, b] → b ≠ 32 ∧ b ≠ 10 ∧ b ≠ 9 ∧ b ≠ 40) → signFrom l ss = some (t, n) → signFrom (l.take n ++ x) ss = some (t, n)
  | [], t, _, h => by simp [signFrom] at h
  | y :: r, t, h0, h => by
    rw [signFrom] at h ⊢
    by_cases hy : y.isPrefixOf l = true
    · rw [if_pos hy] at h
      simp only [Option.some.injEq, Prod.mk.injEq] at h
      obtain ⟨rfl, hyn⟩ := h
      have hp := List.isPrefixOf_iff_prefix.1 hy
      have : y.isPrefixOf (l.take n ++ x) = true := by
        rw [List.isPrefixOf_iff_prefix]
        have e : y = l.take n := by rw [← hyn]; exact List.prefix_iff_eq_take.1 hp
        rw [e]
        exact List.prefix_append _ _
      rw [if_pos this, hyn]
    · rw [if_neg hy] at h
      have hno : ¬ y.isPrefixOf (l.take n ++ x) = true := by
        intro hc
        apply hy
        rw [List.isPrefixOf_iff_prefix] at hc ⊢
        by_cases hl : y.length ≤ n
        · have e1 : y = (l.take n ++ x).take y.length := List.prefix_iff_eq_take.1 hc
          rw [List.take_append_of_le_length (by rw [List.length_take]; omega), List.take_take, Nat.min_eq_left hl] at e1
          rw [e1]
          exact List.take_prefix _ _
        · obtain ⟨h1, h2⟩ := h0 y (by simp)
          have hn1 : n = 1 := by omega
          subst hn1
          match y, hl, h1, h2, hc with
          | [a, b], _, _, h2, hc =>
            cases l with
            | nil => simp at hnl
            | cons c s =>
              simp only [List.take_succ_cons, List.take_zero, List.cons_append, List.nil_append, List.drop_succ_cons, List.drop_zero] at hc hx
              obtain ⟨z, hz⟩ := hc
              simp only [List.cons_append, List.nil_append, List.cons.injEq] at hz
              obtain ⟨rfl, hz⟩ := hz
              rcases hx with rfl | ⟨d, q, q', rfl, rfl⟩ | ⟨d, q, rfl, hd⟩
              · cases hz
              · simp only [List.cons.injEq] at hz
                obtain ⟨rfl, _⟩ := hz
                exact ⟨q', rfl⟩
              · simp only [List.cons.injEq] at hz
                obtain ⟨rfl, _⟩ := hz
                have := h2 a b rfl
                rcases hd with rfl | rfl | rfl | rfl
                · exact absurd rfl this.1
                · exact absurd rfl this.2.1
                · exact absurd rfl this.2.2.1
                · exact absurd rfl this.2.2.2
          | [], hl, _, _, _ => simp at hl
          | [_], hl, _, _, _ => simp at hl
          | _ :: _ :: _ :: _, _, h1, _, _ => simp at h1
      rw [if_neg hno]
      exact signFrom_stab l x n hn hnl hx r t (fun y hy => h0 y (by simp [hy])) h
theorem signs_two : ∀ y ∈ signs, y.length ≤ 2 ∧ ∀ a b, y = [a, b] → b ≠ 32 ∧ b ≠ 10 ∧ b ≠ 9 ∧ b ≠ 40 := by
  have h : ∀ y ∈ signs, y.length ≤ 2 ∧ y[1]? ≠ some 32 ∧ y[1]? ≠ some 10 ∧ y[1]? ≠ some 9 ∧ y[1]? ≠ some 40 := by decide
  intro y hy
  refine ⟨(h y hy).1, ?_⟩
  rintro a b rfl
  simpa using (h _ hy).2
theorem headD_stab (l x : Bs) (n : Nat) (hn : 1 ≤ n) (hl : n ≤ l.length) : (l.take n ++ x).headD 0 = l.headD 0 := by
  obtain ⟨k, rfl⟩ : ∃ k, n = k + 1 := ⟨n - 1, by omega⟩
  cases l with
  | nil => simp at hl
  | cons c r => rfl
theorem nameT_stab (l x : Bs) (t : Tok) (n : Nat) (h : nameT l = some (t, n)) (hn : 1 ≤ n) (hnl : n ≤ l.length) (hx : Sep x (l.drop n)) : nameT (l.take n ++ x) = some (t, n) := by
  unfold nameT at h ⊢
  split at h
  · cases h
  · rename_i hlen
    simp only [Option.some.injEq, Prod.mk.injEq] at h
    obtain ⟨rfl, rfl⟩ := h
    rw [takeWhile_stab part part_seps l x hx, headD_stab l x _ hn hnl, if_neg hlen]
theorem numT_stab (l x : Bs) (t : Tok) (n : Nat) (h : numT l = some (t, n)) (hx : Sep x (l.drop n)) : numT (l.take n ++ x) = some (t, n) := by
  unfold numT at h ⊢
  obtain ⟨v, h1, h2⟩ := Option.map_eq_some_iff.1 h
  simp only [Prod.mk.injEq] at h2
  obtain ⟨rfl, rfl⟩ := h2
  rw [takeWhile_stab digit digit_seps l x hx, h1]
  rfl
theorem tickT_stab (c : UInt8) (r x : Bs) (t : Tok) (n : Nat) (h : tickT (c :: r) = some (t, n)) (hx : Sep x ((c :: r).drop n)) : tickT ((c :: r).take n ++ x) = some (t, n) := by
  unfold tickT at h ⊢
  split at h
  · cases h
  · rename_i hno
    simp only [Option.some.injEq, Prod.mk.injEq] at h
    obtain ⟨rfl, rfl⟩ := h
    simp only [List.drop_succ_cons, List.drop_zero] at hno ⊢
    have hm : 1 ≤ (r.takeWhile part).length := by
      rcases Nat.eq_zero_or_pos (r.takeWhile part).length with h | h
      · exact absurd (List.eq_nil_of_length_eq_zero h) (fun e => hno (.inl e))
      · exact h
    have hml : (r.takeWhile part).length ≤ r.length := takeWhile_le part r
    have hx2 : Sep x (r.drop (r.takeWhile part).length) := by
      rw [Nat.add_comm 1, List.drop_succ_cons] at hx
      exact hx
    have e : (c :: r).take (1 + (r.takeWhile part).length) ++ x = c :: (r.take (r.takeWhile part).length ++ x) := by
      rw [Nat.add_comm 1, List.take_succ_cons]
      rfl
    rw [e]
    simp only [List.drop_succ_cons, List.drop_zero]
    rw [takeWhile_stab part part_seps r x hx2, headD_stab r x _ hm hml, if_neg hno]
    congr 2
    congr 1
    rw [Nat.add_comm 1, List.take_succ_cons, List.take_succ_cons]
    congr 1
    rw [List.take_append_of_le_length (by rw [List.length_take]; omega), List.take_take, Nat.min_self]
theorem tokT_stab {l x : Bs} {t : Tok} {n : Nat} (h : tokT l = some (t, n)) (hx : Sep x (l.drop n)) : tokT (l.take n ++ x) = some (t, n) := by
  have hle := tokT_le h
  cases l with
  | nil => simp [tokT] at h
  | cons c r =>
    obtain ⟨k, rfl⟩ : ∃ k, n = k + 1 := ⟨n - 1, by omega⟩
    have e : (c :: r).take (k + 1) ++ x = c :: (r.take k ++ x) := by rw [List.take_succ_cons]; rfl
    have h' := h
    unfold tokT at h
    simp only at h
    rw [e]
    unfold tokT
    simp only
    rw [← e]
    split at h
    · rename_i hc
      rw [if_pos hc]
      exact nameT_stab _ x t _ h hle.1 hle.2 hx
    · rename_i hc
      rw [if_neg hc]
      split at h
      · rename_i hd
        rw [if_pos hd]
        exact numT_stab _ x t _ h hx
      · rename_i hd
        rw [if_neg hd]
        split at h
        · rename_i h39
          rw [if_pos h39]
          exact tickT_stab c r x t _ h hx
        · rename_i h39
          rw [if_neg h39]
          split at h
          · rename_i h34
            rw [if_pos h34]
            unfold textT at h ⊢
            obtain ⟨p, h1, h2⟩ := Option.map_eq_some_iff.1 h
            simp only [Prod.mk.injEq] at h2
            obtain ⟨rfl, h2⟩ := h2
            obtain rfl : k = p.2 := by omega
            rw [e]
            simp only [List.drop_succ_cons, List.drop_zero] at h1 ⊢
            rw [textF_stab r p.1 p.2 x h1]
            simp
            omega
          · rename_i h34
            rw [if_neg h34]
            exact signFrom_stab _ x _ hle.1 hle.2 hx signs t signs_two h
theorem cm_two : ∀ (l : Bs) (o k : Nat), cm o l = some k → 2 ≤ k
  | [], o, k, h => by simp [cm] at h
  | [_], o, k, h => by simp [cm] at h
  | a :: b :: r, o, k, h => by
    unfold cm at h
    split at h
    · obtain ⟨j, h1, h2⟩ := Option.map_eq_some_iff.1 h
      omega
    · split at h
      · split at h
        · simp at h; omega
        · obtain ⟨j, h1, h2⟩ := Option.map_eq_some_iff.1 h
          omega
      · obtain ⟨j, h1, h2⟩ := Option.map_eq_some_iff.1 h
        have := cm_two (b :: r) _ _ h1
        omega
theorem cm_stab : ∀ (l : Bs) (o k : Nat) (x : Bs), cm o l = some k → cm o (l.take k ++ x) = some k
  | [], o, k, x, h => by simp [cm] at h
  | [_], o, k, x, h => by simp [cm] at h
  | a :: b :: r, o, k, x, h => by
    have hk := cm_two _ _ _ h
    unfold cm at h
    obtain ⟨j, rfl⟩ : ∃ j, k = j + 2 := ⟨k - 2, by omega⟩
    have e : (a :: b :: r).take (j + 2) ++ x = a :: b :: (r.take j ++ x) := rfl
    rw [e]
    unfold cm
    split at h
    · rename_i hc
      rw [if_pos hc]
      obtain ⟨i, h1, h2⟩ := Option.map_eq_some_iff.1 h
      obtain rfl : i = j := by omega
      rw [cm_stab r _ _ x h1]
      rfl
    · rename_i hc
      rw [if_neg hc]
      split at h
      · rename_i hd
        rw [if_pos hd]
        split at h
        · rename_i ho
          rw [if_pos ho]
          exact h
        · rename_i ho
          rw [if_neg ho]
          obtain ⟨i, h1, h2⟩ := Option.map_eq_some_iff.1 h
          obtain rfl : i = j := by omega
          rw [cm_stab r _ _ x h1]
          rfl
      · rename_i hd
        rw [if_neg hd]
        obtain ⟨i, h1, h2⟩ := Option.map_eq_some_iff.1 h
        obtain rfl : i = j + 1 := by omega
        have ih := cm_stab (b :: r) _ _ x h1
        have e2 : (b :: r).take (j + 1) ++ x = b :: (r.take j ++ x) := rfl
        rw [e2] at ih
        rw [ih]
        rfl
theorem opens_head {l : Bs} (h : opens l = true) : ∃ r, l = 40 :: 42 :: r := by
  match l, h with
  | a :: b :: r, h =>
    simp [opens] at h
    exact ⟨r, by rw [h.1, h.2]⟩
theorem blank_stab {l : Bs} {n : Nat} (h : blank l = some (n + 1)) (x : Bs) : blank (l.take (n + 1) ++ x) = some (n + 1) := by
  cases l with
  | nil => simp [blank] at h
  | cons c r =>
    cases ho : opens (c :: r)
    · rw [blank_no ho] at h
      split at h
      · rename_i hw
        simp at h
        subst h
        show blank (c :: x) = _
        simp [blank, hw]
      · simp at h
    · obtain ⟨r', hr⟩ := opens_head ho
      simp only [List.cons.injEq] at hr
      obtain ⟨rfl, rfl⟩ := hr
      rw [blank_cmt ho] at h
      unfold cmt at h
      obtain ⟨j, h1, h2⟩ := Option.map_eq_some_iff.1 h
      simp only [List.drop_succ_cons, List.drop_zero] at h1
      obtain rfl : n = j + 1 := by omega
      have e : (40 :: 42 :: r').take (j + 1 + 1) ++ x = 40 :: 42 :: (r'.take j ++ x) := rfl
      rw [e, blank_cmt (by simp [opens]), cmt]
      simp only [List.drop_succ_cons, List.drop_zero]
      rw [cm_stab r' 1 j x h1]
      rfl
theorem tokT_paren (r : Bs) : tokT (40 :: r) = some (⟨7, [40], 0, 0⟩, 1) := by rfl
theorem blank_zero {c : UInt8} {r : Bs} (h : blank (c :: r) = some 0) : white c = false ∧ opens (c :: r) = false := by
  cases ho : opens (c :: r)
  · rw [blank_no ho] at h
    split at h
    · simp at h
    · rename_i hw
      exact ⟨by simpa using hw, rfl⟩
  · rw [blank_cmt ho] at h
    have := cmt_le h ho
    omega
theorem blank_zero_of {c : UInt8} {r : Bs} (hw : white c = false) (ho : opens (c :: r) = false) : blank (c :: r) = some 0 := by
  rw [blank_no ho, hw]
  rfl
theorem blank0_stab {l x : Bs} {t : Tok} {n : Nat} (hb : blank l = some 0) (h : tokT l = some (t, n)) (hx : Sep x (l.drop n)) : blank (l.take n ++ x) = some 0 := by
  have hle := tokT_le h
  cases l with
  | nil => simp [tokT] at h
  | cons c r =>
    obtain ⟨k, rfl⟩ : ∃ k, n = k + 1 := ⟨n - 1, by omega⟩
    obtain ⟨hw, ho⟩ := blank_zero hb
    have e : (c :: r).take (k + 1) ++ x = c :: (r.take k ++ x) := by rw [List.take_succ_cons]; rfl
    rw [e]
    refine blank_zero_of hw ?_
    cases h2 : opens (c :: (r.take k ++ x)) with
    | false => rfl
    | true =>
      obtain ⟨r', hr⟩ := opens_head h2
      simp only [List.cons.injEq] at hr
      obtain ⟨rfl, hr⟩ := hr
      rw [tokT_paren] at h
      simp only [Option.some.injEq, Prod.mk.injEq] at h
      obtain rfl : k = 0 := by omega
      simp only [List.take_zero, List.nil_append] at hr
      subst hr
      simp only [List.drop_succ_cons, List.drop_zero, Nat.zero_add] at hx
      rcases hx with hx | ⟨d, q, q', h5, rfl⟩ | ⟨d, q, h5, hd⟩
      · cases hx
      · simp only [List.cons.injEq] at h5
        obtain ⟨rfl, _⟩ := h5
        simp [opens] at ho
      · simp only [List.cons.injEq] at h5
        obtain ⟨rfl, _⟩ := h5
        exact absurd hd (by decide)
theorem toks_len (pos : Nat) (l : Bs) : ∀ ts, scanL pos l = .ok ts → ts.length ≤ l.length := by
  refine scanL_rec (fun pos l R => ∀ ts, R = .ok ts → ts.length ≤ l.length) ?_ ?_ ?_ ?_ ?_ pos l
  · intro pos ts h
    cases h
    exact Nat.le_refl _
  · intro pos l _ _ ts h
    cases h
  · intro pos l _ _ _ ts h
    cases h
  · intro pos l n hb hn ih ts h
    have := ih ts h
    rw [List.length_drop] at this
    omega
  · intro pos l t n hb ht ih ts h
    have hn := tokT_le ht
    cases hR : scanL (pos + n) (l.drop n) with
    | error p => rw [hR] at h; cases h
    | ok r =>
      rw [hR] at h
      simp only [Except.map, Except.ok.injEq] at h
      subst h
      have := ih r hR
      rw [List.length_drop] at this
      simp only [List.length_cons]
      omega
end Go.Proofs.YtcaejcbmkiacmaaDoor
