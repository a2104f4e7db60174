/- The law TokenPlaces in plain Lean: tokens stand one behind the other, each where it says. -/
import Derived.Test.YtcaejcbmkiacmaaDoorScanPlain
namespace Go.Proofs.YtcaejcbmkiacmaaDoor

theorem scan_rec (P : Nat → Bs → Except Nat (List Tok) → Prop) (h0 : ∀ pos, P pos [] (.ok [])) (h1 : ∀ pos l, l ≠ [] → blank l = none → P pos l (.error pos))
    (h2 : ∀ pos l, l ≠ [] → blank l = some 0 → tokT l = none → P pos l (.error pos))
    (h3 : ∀ pos l n, blank l = some (n + 1) → n + 1 ≤ l.length → P (pos + (n + 1)) (l.drop (n + 1)) (scanL (pos + (n + 1)) (l.drop (n + 1))) → P pos l (scanL (pos + (n + 1)) (l.drop (n + 1))))
    (h4 : ∀ pos l t n, blank l = some 0 → tokT l = some (t, n) → P (pos + n) (l.drop n) (scanL (pos + n) (l.drop n)) → P pos l ((scanL (pos + n) (l.drop n)).map ({ t with pos := pos } :: ·))) :
    ∀ (k : Nat) (pos : Nat) (l : Bs), l.length ≤ k → P pos l (scanL pos l)
  | k, pos, [], _ => by
    rw [scanL_nil]
    exact h0 pos
  | 0, pos, c :: r, h => by simp at h
  | k + 1, pos, c :: r, h => by
    simp only [List.length_cons] at h
    cases hb : blank (c :: r) with
    | none =>
      rw [scanL_none hb]
      exact h1 pos _ (by simp) hb
    | some n =>
      cases n with
      | succ n =>
        rw [scanL_blank hb]
        exact h3 pos _ n hb (blank_le hb) (scan_rec P h0 h1 h2 h3 h4 k _ _ (by simp only [List.length_drop, List.length_cons]; omega))
      | zero =>
        cases ht : tokT (c :: r) with
        | none =>
          rw [scanL_no hb (by simp) ht]
          exact h2 pos _ (by simp) hb ht
        | some p =>
          have hl := tokT_le (show tokT (c :: r) = some (p.1, p.2) from ht)
          rw [scanL_tok hb ht]
          exact h4 pos _ p.1 p.2 hb ht (scan_rec P h0 h1 h2 h3 h4 k _ _ (by simp only [List.length_drop, List.length_cons] at *; omega))
theorem scanL_rec (P : Nat → Bs → Except Nat (List Tok) → Prop) (h0 : ∀ pos, P pos [] (.ok [])) (h1 : ∀ pos l, l ≠ [] → blank l = none → P pos l (.error pos))
    (h2 : ∀ pos l, l ≠ [] → blank l = some 0 → tokT l = none → P pos l (.error pos))
    (h3 : ∀ pos l n, blank l = some (n + 1) → n + 1 ≤ l.length → P (pos + (n + 1)) (l.drop (n + 1)) (scanL (pos + (n + 1)) (l.drop (n + 1))) → P pos l (scanL (pos + (n + 1)) (l.drop (n + 1))))
    (h4 : ∀ pos l t n, blank l = some 0 → tokT l = some (t, n) → P (pos + n) (l.drop n) (scanL (pos + n) (l.drop n)) → P pos l ((scanL (pos + n) (l.drop n)).map ({ t with pos := pos } :: ·)))
    (pos : Nat) (l : Bs) : P pos l (scanL pos l) := scan_rec P h0 h1 h2 h3 h4 l.length pos l (Nat.le_refl _)

theorem numF_le : ∀ (l : Bs) (acc v : Nat), acc ≤ 4611686018427387903 → numF acc l = some v → v ≤ 4611686018427387903
  | [], acc, v, ha, h => by
    simp only [numF, Option.some.injEq] at h
    omega
  | c :: r, acc, v, ha, h => by
    rw [numF] at h
    split at h
    · cases h
    · have hc := c.toNat_lt
      exact numF_le r _ v (by omega) h
theorem takeWhile_take (p : UInt8 → Bool) : ∀ (l : Bs), l.takeWhile p = l.take (l.takeWhile p).length
  | [] => rfl
  | a :: r => by
    cases hp : p a
    · simp [hp]
    · simp only [List.takeWhile_cons_of_pos hp, List.length_cons, List.take_succ_cons]
      rw [← takeWhile_take p r]
theorem signFrom_good (l : Bs) : ∀ (ss : List Bs) (t : Tok) (k : Nat), signFrom l ss = some (t, k) → t.kind = 7 ∧ t.num = 0 ∧ t.text.length = k ∧ t.text = l.take k ∧ t.text ∈ ss
  | [], t, k, h => by simp [signFrom] at h
  | x :: r, t, k, h => by
    rw [signFrom] at h
    split at h
    · rename_i hp
      simp only [Option.some.injEq, Prod.mk.injEq] at h
      obtain ⟨rfl, rfl⟩ := h
      exact ⟨rfl, rfl, rfl, List.prefix_iff_eq_take.1 (List.isPrefixOf_iff_prefix.1 hp), by simp⟩
    · obtain ⟨a, b, c, d, e⟩ := signFrom_good l r t k h
      exact ⟨a, b, c, d, by simp [e]⟩
theorem textF_two : ∀ (l : Bs) (o : Bs) (k : Nat), textF l = some (o, k) → 1 + o.length ≤ k
  | [], o, k, h => by simp [textF] at h
  | [c], o, k, h => by
    rw [textF] at h
    split at h
    · simp only [Option.some.injEq, Prod.mk.injEq] at h
      simp [← h.1, ← h.2]
    · cases h
  | c :: d :: r, o, k, h => by
    rw [textF] at h
    split at h
    · simp only [Option.some.injEq, Prod.mk.injEq] at h
      simp [← h.1, ← h.2]
    · split at h
      · cases h
      · split at h
        · cases he : escaped d with
          | none => rw [he] at h; cases h
          | some x =>
            rw [he] at h
            obtain ⟨p, h1, h2⟩ := Option.map_eq_some_iff.1 h
            simp only [Prod.mk.injEq] at h2
            have := textF_two r p.1 p.2 h1
            rw [← h2.1, ← h2.2, List.length_cons]
            omega
        · obtain ⟨p, h1, h2⟩ := Option.map_eq_some_iff.1 h
          simp only [Prod.mk.injEq] at h2
          have := textF_two (d :: r) p.1 p.2 h1
          rw [← h2.1, ← h2.2, List.length_cons]
          omega
/-- what a token with which a text begins says -/
def Good (l : Bs) (t : Tok) (n : Nat) : Prop :=
  ((t.kind = 1 ∨ t.kind = 2 ∨ t.kind = 3 ∨ t.kind = 6 ∨ t.kind = 7) ∧ t.num = 0 ∧ t.text.length = n ∧ t.text = l.take n) ∨
  (t.kind = 4 ∧ t.text = [] ∧ t.num ≤ 4611686018427387903 ∧ ∃ c, l[0]? = some c ∧ digit c = true) ∨
  (t.kind = 5 ∧ t.num = 0 ∧ 2 + t.text.length ≤ n ∧ l[0]? = some 34)
theorem tokT_good {l : Bs} {t : Tok} {k : Nat} (h : tokT l = some (t, k)) : Good l t k := by
  cases l with
  | nil => simp [tokT] at h
  | cons c r =>
    unfold tokT at h
    simp only at h
    split at h
    · unfold nameT at h
      split at h
      · cases h
      · simp only [Option.some.injEq, Prod.mk.injEq] at h
        obtain ⟨rfl, rfl⟩ := h
        refine .inl ⟨?_, rfl, rfl, takeWhile_take part _⟩
        dsimp only
        split
        · simp
        · split <;> simp
    · split at h
      · rename_i hd
        unfold numT at h
        obtain ⟨v, h1, h2⟩ := Option.map_eq_some_iff.1 h
        simp only [Prod.mk.injEq] at h2
        obtain ⟨rfl, rfl⟩ := h2
        exact .inr (.inl ⟨rfl, rfl, numF_le _ 0 v (by omega) h1, c, rfl, hd⟩)
      · split at h
        · unfold tickT at h
          split at h
          · cases h
          · simp only [Option.some.injEq, Prod.mk.injEq] at h
            obtain ⟨rfl, rfl⟩ := h
            refine .inl ⟨by simp, rfl, ?_, rfl⟩
            have := takeWhile_le part ((c :: r).drop 1)
            simp only [List.length_take, List.length_drop, List.length_cons] at *
            omega
        · split at h
          · rename_i hq
            unfold textT at h
            obtain ⟨p, h1, h2⟩ := Option.map_eq_some_iff.1 h
            simp only [Prod.mk.injEq] at h2
            obtain ⟨rfl, rfl⟩ := h2
            have := textF_two _ p.1 p.2 h1
            refine .inr (.inr ⟨rfl, rfl, by dsimp only; omega, by rw [hq]; rfl⟩)
          · obtain ⟨h1, h2, h3, h4, _⟩ := signFrom_good _ signs t k h
            exact .inl ⟨by simp [h1], h2, h3, h4⟩
/-- how many bytes a token takes at the least -/
def extent (t : Tok) : Nat := if t.kind = 4 then 1 else if t.kind = 5 then 2 + t.text.length else t.text.length
def GoodAt (src : Bs) (t : Tok) : Prop :=
  ((t.kind = 1 ∨ t.kind = 2 ∨ t.kind = 3 ∨ t.kind = 6 ∨ t.kind = 7) ∧ t.num = 0 ∧ 1 ≤ t.text.length ∧ t.pos + t.text.length ≤ src.length ∧ t.text = (src.drop t.pos).take t.text.length) ∨
  (t.kind = 4 ∧ t.text = [] ∧ t.num ≤ 4611686018427387903 ∧ ∃ c, src[t.pos]? = some c ∧ digit c = true) ∨
  (t.kind = 5 ∧ t.num = 0 ∧ t.text.length ≤ src.length ∧ src[t.pos]? = some 34)
def Chain (src : Bs) : Nat → List Tok → Prop
  | last, [] => last ≤ src.length
  | last, t :: r => last ≤ t.pos ∧ t.pos < src.length ∧ GoodAt src t ∧ Chain src (t.pos + extent t) r
theorem chain_of (pos : Nat) (l : Bs) : ∀ ts, scanL pos l = .ok ts → ∀ src last, l = src.drop pos → pos ≤ src.length → last ≤ pos → Chain src last ts := by
  refine scanL_rec (fun pos l R => ∀ ts, R = .ok ts → ∀ src last, l = src.drop pos → pos ≤ src.length → last ≤ pos → Chain src last ts) ?_ ?_ ?_ ?_ ?_ pos l
  · intro pos ts h src last hl hp hle
    cases h
    exact Nat.le_trans hle hp
  · intro pos l _ _ ts h
    cases h
  · intro pos l _ _ _ ts h
    cases h
  · intro pos l n hb hn ih ts h src last hl hp hle
    subst hl
    rw [List.length_drop] at hn
    exact ih ts h src last (by rw [List.drop_drop]) (by omega) (by omega)
  · intro pos l t n hb ht ih ts h src last hl hp hle
    subst hl
    have hn := tokT_le ht
    rw [List.length_drop] at hn
    have hg := tokT_good ht
    cases hR : scanL (pos + n) ((src.drop pos).drop n) with
    | error p => rw [hR] at h; cases h
    | ok r =>
      rw [hR] at h
      simp only [Except.map, Except.ok.injEq] at h
      subst h
      have e0 : (src.drop pos)[0]? = src[pos]? := by rw [List.getElem?_drop, Nat.add_zero]
      have hge : GoodAt src { t with pos := pos } := by
        rcases hg with ⟨h1, h2, h3, h4⟩ | ⟨h1, h2, h3, h4⟩ | ⟨h1, h2, h3, h4⟩
        · refine .inl ⟨h1, h2, ?_, ?_, ?_⟩
          · show 1 ≤ t.text.length
            omega
          · show pos + t.text.length ≤ _
            omega
          · show t.text = (src.drop pos).take t.text.length
            rw [h3]
            exact h4
        · obtain ⟨c, h5, h6⟩ := h4
          exact .inr (.inl ⟨h1, h2, h3, c, by rw [← e0]; exact h5, h6⟩)
        · exact .inr (.inr ⟨h1, h2, by show t.text.length ≤ _; omega, by rw [← e0]; exact h4⟩)
      refine ⟨hle, by show pos < _; omega, hge, ih r hR src _ (by rw [List.drop_drop]) (by omega) ?_⟩
      show pos + extent { t with pos := pos } ≤ pos + n
      unfold extent
      dsimp only
      rcases hg with ⟨h1, h2, h3, h4⟩ | ⟨h1, h2, h3, h4⟩ | ⟨h1, h2, h3, h4⟩
      · rw [if_neg (by omega), if_neg (by omega)]
        omega
      · rw [if_pos h1]
        omega
      · rw [if_neg (by omega), if_pos h1]
        omega
theorem error_of (pos : Nat) (l : Bs) : ∀ p, scanL pos l = .error p → pos ≤ p ∧ p < pos + l.length := by
  refine scanL_rec (fun pos l R => ∀ p, R = .error p → pos ≤ p ∧ p < pos + l.length) ?_ ?_ ?_ ?_ ?_ pos l
  · intro pos p h
    cases h
  · intro pos l h0 _ p h
    cases h
    have := List.length_pos_iff.2 h0
    omega
  · intro pos l h0 _ _ p h
    cases h
    have := List.length_pos_iff.2 h0
    omega
  · intro pos l n hb hn ih p h
    have := ih p h
    rw [List.length_drop] at this
    omega
  · intro pos l t n hb ht ih p h
    have hn := tokT_le ht
    cases hR : scanL (pos + n) (l.drop n) with
    | ok r => rw [hR] at h; cases h
    | error q =>
      rw [hR] at h
      simp only [Except.map, Except.error.injEq] at h
      subst h
      have := ih q hR
      rw [List.length_drop] at this
      omega
theorem chain_src (src : Bs) (ts : List Tok) (h : scanL 0 src = .ok ts) : Chain src 0 ts := chain_of 0 src ts h src 0 (by simp) (Nat.zero_le _) (Nat.le_refl _)
end Go.Proofs.YtcaejcbmkiacmaaDoor
