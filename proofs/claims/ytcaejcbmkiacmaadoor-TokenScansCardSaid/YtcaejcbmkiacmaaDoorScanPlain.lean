/- Scan in plain Lean: each token takes some bytes; what Scan answers, from one token to the next. -/
import Derived.Test.YtcaejcbmkiacmaaDoorPlain
namespace Go.Proofs.YtcaejcbmkiacmaaDoor

theorem textF_le : ∀ (l : Bs) (o : Bs) (k : Nat), textF l = some (o, k) → 1 ≤ k ∧ k ≤ l.length
  | [], o, k, h => by simp [textF] at h
  | [c], o, k, h => by
    rw [textF] at h
    split at h
    · simp only [Option.some.injEq, Prod.mk.injEq] at h
      simp [← h.2]
    · cases h
  | c :: d :: r, o, k, h => by
    rw [textF] at h
    split at h
    · simp only [Option.some.injEq, Prod.mk.injEq] at h
      simp [← h.2]
    · split at h
      · cases h
      · split at h
        · cases he : escaped d with
          | none => rw [he] at h; cases h
          | some x =>
            rw [he] at h
            obtain ⟨p, h1, h2⟩ := Option.map_eq_some_iff.1 h
            simp only [Prod.mk.injEq] at h2
            have := textF_le r p.1 p.2 h1
            simp only [List.length_cons]
            omega
        · obtain ⟨p, h1, h2⟩ := Option.map_eq_some_iff.1 h
          simp only [Prod.mk.injEq] at h2
          have := textF_le (d :: r) p.1 p.2 h1
          simp only [List.length_cons] at this ⊢
          omega
theorem takeWhile_le (p : UInt8 → Bool) (l : Bs) : (l.takeWhile p).length ≤ l.length := (List.takeWhile_sublist p).length_le
theorem signFrom_le (l : Bs) : ∀ (ss : List Bs) (t : Tok) (k : Nat), (∀ x ∈ ss, x ≠ []) → signFrom l ss = some (t, k) → 1 ≤ k ∧ k ≤ l.length
  | [], t, k, _, h => by simp [signFrom] at h
  | x :: r, t, k, h0, h => by
    rw [signFrom] at h
    split at h
    · rename_i hp
      simp only [Option.some.injEq, Prod.mk.injEq] at h
      have h1 := (List.isPrefixOf_iff_prefix.1 hp).length_le
      have h2 := List.length_pos_iff.2 (h0 x (by simp))
      omega
    · exact signFrom_le l r t k (fun y hy => h0 y (by simp [hy])) h
theorem tokT_le {l : Bs} {t : Tok} {k : Nat} (h : tokT l = some (t, k)) : 1 ≤ k ∧ k ≤ l.length := by
  cases l with
  | nil => simp [tokT] at h
  | cons c r =>
    unfold tokT at h
    simp only at h
    split at h
    · rename_i hc
      unfold nameT at h
      split at h
      · cases h
      · simp only [Option.some.injEq, Prod.mk.injEq] at h
        have h1 := takeWhile_le part (c :: r)
        have hp : part c = true := by
          unfold part
          rcases Bool.or_eq_true _ _ ▸ hc with h | h <;> simp [h]
        have h2 : 1 ≤ ((c :: r).takeWhile part).length := by simp [hp]
        omega
    · split at h
      · rename_i hd
        unfold numT at h
        obtain ⟨v, _, h2⟩ := Option.map_eq_some_iff.1 h
        simp only [Prod.mk.injEq] at h2
        have h1 := takeWhile_le digit (c :: r)
        have h3 : 1 ≤ ((c :: r).takeWhile digit).length := by simp [hd]
        omega
      · split at h
        · unfold tickT at h
          split at h
          · cases h
          · simp only [Option.some.injEq, Prod.mk.injEq] at h
            have h1 := takeWhile_le part ((c :: r).drop 1)
            simp only [List.length_drop, List.length_cons] at h1 ⊢
            omega
        · split at h
          · unfold textT at h
            obtain ⟨p, h1, h2⟩ := Option.map_eq_some_iff.1 h
            simp only [Prod.mk.injEq] at h2
            have := textF_le _ p.1 p.2 h1
            simp only [List.length_drop, List.length_cons] at this ⊢
            omega
          · exact signFrom_le _ signs t k (by decide) h
theorem blank_le {l : Bs} {n : Nat} (hb : blank l = some n) : n ≤ l.length := by
  cases l with
  | nil => simp [blank] at hb; omega
  | cons c r =>
    cases ho : opens (c :: r)
    · rw [blank_no ho] at hb
      split at hb <;> simp at hb <;> subst hb <;> simp
    · rw [blank_cmt ho] at hb
      exact (cmt_le hb ho).2
theorem scanF_fuel : ∀ (f g : Nat) (pos : Nat) (l : Bs), l.length < f → l.length < g → scanF f pos l = scanF g pos l
  | 0, _, _, _, h, _ => by omega
  | _, 0, _, _, _, h => by omega
  | f + 1, g + 1, pos, l, hf, hg => by
    simp only [scanF]
    cases hb : blank l with
    | none => rfl
    | some n =>
      cases n with
      | succ n =>
        have h1 := blank_le hb
        exact scanF_fuel f g _ _ (by simp; omega) (by simp; omega)
      | zero =>
        cases l with
        | nil => rfl
        | cons c r =>
          simp only
          cases ht : tokT (c :: r) with
          | none => rfl
          | some p =>
            have h1 := tokT_le (show tokT (c :: r) = some (p.1, p.2) from ht)
            simp only
            rw [scanF_fuel f g _ _ (by simp only [List.length_drop, List.length_cons] at *; omega) (by simp only [List.length_drop, List.length_cons] at *; omega)]
theorem scanL_none {pos : Nat} {l : Bs} (hb : blank l = none) : scanL pos l = .error pos := by
  simp [scanL, scanF, hb]
theorem scanL_blank {pos : Nat} {l : Bs} {n : Nat} (hb : blank l = some (n + 1)) : scanL pos l = scanL (pos + (n + 1)) (l.drop (n + 1)) := by
  have h1 := blank_le hb
  cases l with
  | nil => simp [blank] at hb
  | cons c r =>
    have e : scanL pos (c :: r) = scanF (c :: r).length (pos + (n + 1)) ((c :: r).drop (n + 1)) := by
      show scanF ((c :: r).length + 1) pos (c :: r) = _
      conv => lhs; unfold scanF
      rw [hb]
    rw [e]
    exact scanF_fuel _ _ _ _ (by simp only [List.length_drop, List.length_cons] at *; omega) (by simp)
theorem scanL_nil (pos : Nat) : scanL pos [] = .ok [] := by simp [scanL, scanF, blank]
theorem scanL_no {pos : Nat} {l : Bs} (hb : blank l = some 0) (h0 : l ≠ []) (ht : tokT l = none) : scanL pos l = .error pos := by
  cases l with
  | nil => exact absurd rfl h0
  | cons c r => simp [scanL, scanF, hb, ht]
theorem scanL_tok {pos : Nat} {l : Bs} {t : Tok} {n : Nat} (hb : blank l = some 0) (ht : tokT l = some (t, n)) : scanL pos l = (scanL (pos + n) (l.drop n)).map ({ t with pos := pos } :: ·) := by
  cases l with
  | nil => simp [tokT] at ht
  | cons c r =>
    have h1 := tokT_le ht
    have e : scanL pos (c :: r) = (scanF (c :: r).length (pos + n) ((c :: r).drop n)).map ({ t with pos := pos } :: ·) := by
      show scanF ((c :: r).length + 1) pos (c :: r) = _
      conv => lhs; unfold scanF
      rw [hb]
      simp only [ht]
    rw [e, scanL]
    rw [scanF_fuel _ (((c :: r).drop n).length + 1) _ _ (by simp only [List.length_drop]; omega) (by omega)]
theorem skipF_blank : ∀ (f : Nat) (l : Bs), l.length ≤ f → (skipF f l).2 = true → blank (l.drop (skipF f l).1) = some 0
  | 0, l, h, _ => by
    have : l = [] := List.eq_nil_of_length_eq_zero (by omega)
    subst this
    simp [skipF, blank]
  | f + 1, l, h, h2 => by
    simp only [skipF] at h2 ⊢
    cases hb : blank l with
    | none => rw [hb] at h2; simp at h2
    | some n =>
      cases n with
      | zero => simp [hb]
      | succ n =>
        rw [hb] at h2
        simp only at h2 ⊢
        have h1 := blank_le hb
        have := skipF_blank f (l.drop (n + 1)) (by simp; omega) h2
        rw [List.drop_drop] at this
        rw [Nat.add_comm]
        exact this
theorem skip_scan : ∀ (f : Nat) (pos : Nat) (l : Bs), l.length ≤ f → scanL pos l = if (skipF f l).2 then scanL (pos + (skipF f l).1) (l.drop (skipF f l).1) else .error (pos + (skipF f l).1)
  | 0, pos, l, h => by simp [skipF]
  | f + 1, pos, l, h => by
    cases hb : blank l with
    | none =>
      have e : skipF (f + 1) l = (0, false) := by simp [skipF, hb]
      rw [e]
      simp [scanL_none hb]
    | some n =>
      cases n with
      | zero =>
        have e : skipF (f + 1) l = (0, true) := by simp [skipF, hb]
        rw [e]
        simp
      | succ n =>
        have e : skipF (f + 1) l = ((skipF f (l.drop (n + 1))).1 + (n + 1), (skipF f (l.drop (n + 1))).2) := by simp [skipF, hb]
        have h1 := blank_le hb
        rw [e]
        simp only
        rw [scanL_blank hb, skip_scan f _ _ (by simp; omega), List.drop_drop]
        rw [show pos + (n + 1) + (skipF f (l.drop (n + 1))).1 = pos + ((skipF f (l.drop (n + 1))).1 + (n + 1)) by omega, show n + 1 + (skipF f (l.drop (n + 1))).1 = (skipF f (l.drop (n + 1))).1 + (n + 1) by omega]
theorem skipL_scan (pos : Nat) (l : Bs) : scanL pos l = if (skipL l).2 then scanL (pos + (skipL l).1) (l.drop (skipL l).1) else .error (pos + (skipL l).1) := skip_scan _ pos l (Nat.le_refl _)
theorem skipL_blank (l : Bs) (h : (skipL l).2 = true) : blank (l.drop (skipL l).1) = some 0 := skipF_blank _ l (Nat.le_refl _) h
theorem skipL_le (l : Bs) : (skipL l).1 ≤ l.length := skipL_fst_le _ l

/-- what Scan answers -/
def scanR (l : Bs) : Except Nat (List Tok) := if 16384 < l.length then .error 16384 else scanL 0 l
/-- so far Scan has come -/
def ScInv (l : Bs) (q : Nat) (done : List Tok) : Prop := scanL 0 l = (scanL q (l.drop q)).map (done ++ ·)
theorem scInv_zero (l : Bs) : ScInv l 0 [] := by
  unfold ScInv
  rw [List.drop_zero]
  cases scanL 0 l <;> simp [Except.map]
theorem scInv_bad {l : Bs} {q : Nat} {done : List Tok} (h : ScInv l q done) (hk : (skipL (l.drop q)).2 = false) : scanL 0 l = .error (q + (skipL (l.drop q)).1) := by
  unfold ScInv at h
  rw [h, skipL_scan q, if_neg (by rw [hk]; decide)]
  rfl
theorem scInv_end {l : Bs} {q : Nat} {done : List Tok} (h : ScInv l q done) (hk : (skipL (l.drop q)).2 = true) (he : l.length ≤ q + (skipL (l.drop q)).1) : scanL 0 l = .ok done := by
  unfold ScInv at h
  rw [h, skipL_scan q, if_pos hk, List.drop_drop, List.drop_eq_nil_of_le he, scanL_nil]
  simp [Except.map]
theorem scInv_no {l : Bs} {q : Nat} {done : List Tok} (h : ScInv l q done) (hk : (skipL (l.drop q)).2 = true) (he : q + (skipL (l.drop q)).1 < l.length) (ht : tokT (l.drop (q + (skipL (l.drop q)).1)) = none) :
    scanL 0 l = .error (q + (skipL (l.drop q)).1) := by
  unfold ScInv at h
  have hb := skipL_blank _ hk
  rw [List.drop_drop] at hb
  rw [h, skipL_scan q, if_pos hk, List.drop_drop, scanL_no hb _ ht]
  · rfl
  · intro e
    have := congrArg List.length e
    simp at this
    omega
theorem scInv_tok {l : Bs} {q : Nat} {done : List Tok} {t : Tok} {n : Nat} (h : ScInv l q done) (hk : (skipL (l.drop q)).2 = true) (ht : tokT (l.drop (q + (skipL (l.drop q)).1)) = some (t, n)) :
    ScInv l (q + (skipL (l.drop q)).1 + n) (done ++ [{ t with pos := q + (skipL (l.drop q)).1 }]) := by
  unfold ScInv at h ⊢
  have hb := skipL_blank _ hk
  rw [List.drop_drop] at hb
  rw [h, skipL_scan q, if_pos hk, List.drop_drop, scanL_tok hb ht, List.drop_drop]
  cases scanL (q + (skipL (l.drop q)).1 + n) (l.drop (q + (skipL (l.drop q)).1 + n)) <;> simp [Except.map]
end Go.Proofs.YtcaejcbmkiacmaaDoor
