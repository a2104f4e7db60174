/- The law TokenBack in plain Lean: tokens that are written with blanks or comments between them are scanned again. -/
import Derived.Test.YtcaejcbmkiacmaaDoorAheadPlain
namespace Go.Proofs.YtcaejcbmkiacmaaDoor

def digitsL (n : Nat) : Bs := if n < 10 then [UInt8.ofNat (48 + n)] else digitsL (n / 10) ++ [UInt8.ofNat (48 + n % 10)]
def escL (l : Bs) : Bs := l.flatMap fun c => if c = 10 then [92, 110] else if c = 34 ∨ c = 92 then [92, c] else [c]
/-- a token, as it is written -/
def wr (t : Tok) : Bs := if t.kind = 4 then digitsL t.num else if t.kind = 5 then 34 :: (escL t.text ++ [34]) else t.text
def betweens : List Bs := [[32], [10], [9, 13], [40, 42, 42, 41], [32, 40, 42, 32, 97, 32, 40, 42, 32, 98, 32, 42, 41, 32, 34, 32, 39, 32, 42, 41, 32]]
def writeL (b : Bs) : List Tok → Bs
  | [] => []
  | t :: r => wr t ++ b ++ writeL b r
def AlikeL : List Tok → List Tok → Prop
  | [], [] => True
  | a :: r, b :: s => a = { b with pos := a.pos } ∧ AlikeL r s
  | _, _ => False
def printable (c : UInt8) : Prop := c = 10 ∨ (32 ≤ c.toNat ∧ c.toNat ≤ 126)
/-- what may be written -/
def Writ (t : Tok) : Prop :=
  (t.kind ≠ 4 ∧ t.kind ≠ 5 ∧ tokT t.text = some ({ t with pos := 0 }, t.text.length) ∧ blank t.text = some 0) ∨
  (t.kind = 4 ∧ t.text = [] ∧ t.num ≤ 4611686018427387903) ∨
  (t.kind = 5 ∧ t.num = 0 ∧ ∀ c ∈ t.text, printable c)

theorem digit_of (n : Nat) (h : n < 10) : digit (UInt8.ofNat (48 + n)) = true ∧ (UInt8.ofNat (48 + n)).toNat - 48 = n := by
  have e : (UInt8.ofNat (48 + n)).toNat = 48 + n := by
    rw [UInt8.toNat_ofNat']
    omega
  unfold digit
  rw [e]
  exact ⟨by simp; omega, by omega⟩
theorem digitsL_all : ∀ (n : Nat), ∀ c ∈ digitsL n, digit c = true := by
  intro n
  induction n using Nat.strongRecOn with
  | ind n ih =>
    intro c hc
    rw [digitsL] at hc
    split at hc
    · rename_i h
      rw [List.mem_singleton] at hc
      rw [hc]
      exact (digit_of n h).1
    · rcases List.mem_append.1 hc with h | h
      · exact ih (n / 10) (by omega) c h
      · rw [List.mem_singleton] at h
        rw [h]
        exact (digit_of (n % 10) (by omega)).1
theorem digitsL_ne (n : Nat) : digitsL n ≠ [] := by
  rw [digitsL]
  split <;> simp
theorem numF_digits : ∀ (n : Nat), n ≤ 4611686018427387903 → numF 0 (digitsL n) = some n := by
  intro n
  induction n using Nat.strongRecOn with
  | ind n ih =>
    intro hn
    rw [digitsL]
    split
    · rename_i h
      have h2 := (digit_of n h).2
      simp only [numF, h2]
      rw [if_neg (by omega)]
      simp
    · rename_i h
      have h2 := (digit_of (n % 10) (by omega)).2
      rw [numF_app, ih (n / 10) (by omega) (by omega)]
      simp only [Option.bind_some, numF, h2]
      rw [if_neg (by omega)]
      congr 1
      omega
theorem textF_esc : ∀ (l : Bs) (r : Bs), (∀ c ∈ l, printable c) → textF (escL l ++ 34 :: r) = some (l, (escL l).length + 1)
  | [], r, _ => by
    show textF (34 :: r) = _
    rw [textF_quote]
    rfl
  | c :: s, r, h => by
    have ih := textF_esc s r fun d hd => h d (by simp [hd])
    have hc := h c (by simp)
    by_cases h10 : c = 10
    · subst h10
      show textF (92 :: 110 :: (escL s ++ 34 :: r)) = _
      rw [textF_slash, show escaped 110 = some 10 from rfl]
      simp only [ih, Option.map_some, Option.some.injEq, Prod.mk.injEq, true_and]
      show _ = (92 :: 110 :: escL s).length + 1
      simp only [List.length_cons]
    · by_cases h34 : c = 34
      · subst h34
        show textF (92 :: 34 :: (escL s ++ 34 :: r)) = _
        rw [textF_slash, show escaped 34 = some 34 from rfl]
        simp only [ih, Option.map_some, Option.some.injEq, Prod.mk.injEq, true_and]
        show _ = (92 :: 34 :: escL s).length + 1
        simp only [List.length_cons]
      · by_cases h92 : c = 92
        · subst h92
          show textF (92 :: 92 :: (escL s ++ 34 :: r)) = _
          rw [textF_slash, show escaped 92 = some 92 from rfl]
          simp only [ih, Option.map_some, Option.some.injEq, Prod.mk.injEq, true_and]
          show _ = (92 :: 92 :: escL s).length + 1
          simp only [List.length_cons]
        · have e : escL (c :: s) = c :: escL s := by simp [escL, h10, h34, h92]
          rw [e]
          have hp : ¬ (c.toNat < 32 ∨ 126 < c.toNat) := by
            rcases hc with h | h
            · exact absurd h h10
            · omega
          show textF (c :: (escL s ++ 34 :: r)) = _
          rw [textF_plain c _ h34 hp h92, ih]
          simp
theorem textF_print : ∀ (l : Bs) (o : Bs) (k : Nat), textF l = some (o, k) → ∀ c ∈ o, printable c
  | [], o, k, h => by simp [textF] at h
  | [c], o, k, h => by
    rw [textF] at h
    split at h
    · simp only [Option.some.injEq, Prod.mk.injEq] at h
      intro d hd
      rw [← h.1] at hd
      cases hd
    · cases h
  | c :: d :: r, o, k, h => by
    rw [textF] at h
    split at h
    · simp only [Option.some.injEq, Prod.mk.injEq] at h
      intro e he
      rw [← h.1] at he
      cases he
    · split at h
      · cases h
      · rename_i hp
        split at h
        · cases he : escaped d with
          | none => rw [he] at h; cases h
          | some x =>
            rw [he] at h
            obtain ⟨p, h1, h2⟩ := Option.map_eq_some_iff.1 h
            simp only [Prod.mk.injEq] at h2
            have ih := textF_print r p.1 p.2 h1
            intro e hm
            rw [← h2.1] at hm
            rcases List.mem_cons.1 hm with rfl | hm
            · unfold escaped at he
              split at he
              · simp only [Option.some.injEq] at he
                exact .inl he.symm
              · split at he
                · simp only [Option.some.injEq] at he
                  rw [← he]
                  exact .inr (by decide)
                · split at he
                  · simp only [Option.some.injEq] at he
                    rw [← he]
                    exact .inr (by decide)
                  · cases he
            · exact ih e hm
        · obtain ⟨p, h1, h2⟩ := Option.map_eq_some_iff.1 h
          simp only [Prod.mk.injEq] at h2
          have ih := textF_print (d :: r) p.1 p.2 h1
          intro e hm
          rw [← h2.1] at hm
          rcases List.mem_cons.1 hm with rfl | hm
          · exact .inr (by omega)
          · exact ih e hm
theorem tokT_writ {l : Bs} {t : Tok} {n : Nat} (hb : blank l = some 0) (h : tokT l = some (t, n)) (pos : Nat) : Writ { t with pos := pos } := by
  have hp0 : t.pos = 0 := by
    cases l with
    | nil => simp [tokT] at h
    | cons c r =>
      unfold tokT at h
      simp only at h
      split at h
      · unfold nameT at h
        split at h
        · cases h
        · simp only [Option.some.injEq, Prod.mk.injEq] at h
          rw [← h.1]
      · split at h
        · unfold numT at h
          obtain ⟨v, h1, h2⟩ := Option.map_eq_some_iff.1 h
          simp only [Prod.mk.injEq] at h2
          rw [← h2.1]
        · split at h
          · unfold tickT at h
            split at h
            · cases h
            · simp only [Option.some.injEq, Prod.mk.injEq] at h
              rw [← h.1]
          · split at h
            · unfold textT at h
              obtain ⟨p, h1, h2⟩ := Option.map_eq_some_iff.1 h
              simp only [Prod.mk.injEq] at h2
              rw [← h2.1]
            · have : ∀ (ss : List Bs) (u : Tok) (k : Nat), signFrom (c :: r) ss = some (u, k) → u.pos = 0 := by
                intro ss
                induction ss with
                | nil => intro u k h; simp [signFrom] at h
                | cons y s ih =>
                  intro u k h
                  rw [signFrom] at h
                  split at h
                  · simp only [Option.some.injEq, Prod.mk.injEq] at h
                    rw [← h.1]
                  · exact ih u k h
              exact this signs t n h
  have hs := tokT_stab (x := []) h (.inl rfl)
  have hb2 := blank0_stab (x := []) hb h (.inl rfl)
  rw [List.append_nil] at hs hb2
  rcases tokT_good h with ⟨h1, h2, h3, h4⟩ | ⟨h1, h2, h3, h4⟩ | ⟨h1, h2, h3, h4⟩
  · refine .inl ⟨by show t.kind ≠ 4; omega, by show t.kind ≠ 5; omega, ?_, ?_⟩
    · show tokT t.text = some ({ t with pos := 0 }, t.text.length)
      rw [← h4, ← h3] at hs
      rw [hs]
      congr 2
      cases t
      simp only at hp0
      subst hp0
      rfl
    · show blank t.text = some 0
      rw [h4]
      exact hb2
  · exact .inr (.inl ⟨h1, h2, h3⟩)
  · refine .inr (.inr ⟨h1, h2, ?_⟩)
    cases l with
    | nil => simp [tokT] at h
    | cons c r =>
      simp only [List.getElem?_cons_zero, Option.some.injEq] at h4
      subst h4
      have e : tokT (34 :: r) = textT (34 :: r) := rfl
      rw [e] at h
      unfold textT at h
      obtain ⟨p, h5, h6⟩ := Option.map_eq_some_iff.1 h
      simp only [Prod.mk.injEq] at h6
      show ∀ c ∈ t.text, printable c
      rw [← h6.1]
      exact textF_print _ p.1 p.2 h5
theorem scanL_writ (pos : Nat) (l : Bs) : ∀ ts, scanL pos l = .ok ts → ∀ t ∈ ts, Writ t := by
  refine scanL_rec (fun pos l R => ∀ ts, R = .ok ts → ∀ t ∈ ts, Writ t) ?_ ?_ ?_ ?_ ?_ pos l
  · intro pos ts h t ht
    cases h
    cases ht
  · intro pos l _ _ ts h
    cases h
  · intro pos l _ _ _ ts h
    cases h
  · intro pos l n hb hn ih ts h
    exact ih ts h
  · intro pos l t n hb ht ih ts h
    cases hR : scanL (pos + n) (l.drop n) with
    | error p => rw [hR] at h; cases h
    | ok r =>
      rw [hR] at h
      simp only [Except.map, Except.ok.injEq] at h
      subst h
      intro u hu
      rcases List.mem_cons.1 hu with rfl | hu
      · exact tokT_writ hb ht pos
      · exact ih r hR u hu
theorem wr_ne {t : Tok} (h : Writ t) : wr t ≠ [] := by
  unfold wr
  rcases h with ⟨h1, h2, h3, h4⟩ | ⟨h1, h2, h3⟩ | ⟨h1, h2, h3⟩
  · rw [if_neg h1, if_neg h2]
    intro e
    rw [e] at h3
    simp [tokT] at h3
  · rw [if_pos h1]
    exact digitsL_ne _
  · rw [if_neg (by omega), if_pos h1]
    simp
/-- a token that is written, and a blank behind it -/
theorem wr_scan {t : Tok} (h : Writ t) (c : UInt8) (r : Bs) (hc : c = 32 ∨ c = 10 ∨ c = 9 ∨ c = 40) : blank (wr t ++ c :: r) = some 0 ∧ tokT (wr t ++ c :: r) = some ({ t with pos := 0 }, (wr t).length) := by
  have hsep : ∀ l' : Bs, Sep (c :: r) l' := fun l' => .inr (.inr ⟨c, r, rfl, hc⟩)
  unfold wr
  rcases h with ⟨h1, h2, h3, h4⟩ | ⟨h1, h2, h3⟩ | ⟨h1, h2, h3⟩
  · rw [if_neg h1, if_neg h2]
    have a := tokT_stab h3 (hsep _)
    have b := blank0_stab h4 h3 (hsep _)
    rw [List.take_length] at a b
    exact ⟨b, a⟩
  · rw [if_pos h1]
    have hd := digitsL_all t.num
    have hz : digit c = false := by rcases hc with rfl | rfl | rfl | rfl <;> decide
    obtain ⟨d, s, hds⟩ : ∃ d s, digitsL t.num = d :: s := by
      cases hx : digitsL t.num with
      | nil => exact absurd hx (digitsL_ne _)
      | cons d s => exact ⟨d, s, rfl⟩
    have htw : (digitsL t.num ++ c :: r).takeWhile digit = digitsL t.num := by
      rw [List.takeWhile_append_of_pos hd]
      simp [hz]
    have hdd : digit d = true := hd d (by rw [hds]; simp)
    have hnum : numT (digitsL t.num ++ c :: r) = some (⟨4, [], t.num, 0⟩, (digitsL t.num).length) := by
      unfold numT
      rw [htw, numF_digits t.num h3]
      rfl
    have ht : { t with pos := 0 } = (⟨4, [], t.num, 0⟩ : Tok) := by
      cases t
      simp only at h1 h2
      subst h1 h2
      rfl
    have hdn : 48 ≤ d.toNat ∧ d.toNat ≤ 57 := by simpa [digit] using hdd
    have hw : white d = false := by
      unfold white
      have e : ∀ k : UInt8, (k.toNat < 48) → decide (d = k) = false := fun k hk => by
        simp only [decide_eq_false_iff_not]
        intro e
        rw [e] at hdn
        omega
      rw [e 32 (by decide), e 9 (by decide), e 10 (by decide), e 13 (by decide)]
      rfl
    have hsg : (small d || great d) = false := by
      simp only [small, great, Bool.or_eq_false_iff, Bool.and_eq_false_iff, decide_eq_false_iff_not]
      omega
    rw [hds] at hnum ⊢
    rw [ht]
    refine ⟨blank_zero_of (r := s ++ c :: r) hw ?_, ?_⟩
    · cases ho : opens (d :: (s ++ c :: r)) with
      | false => rfl
      | true =>
        obtain ⟨r', hr⟩ := opens_head ho
        simp only [List.cons.injEq] at hr
        rw [hr.1] at hdn
        exact absurd hdn (by decide)
    · show tokT (d :: (s ++ c :: r)) = _
      unfold tokT
      simp only [hsg, hdd, Bool.false_eq_true, if_false, if_true]
      exact hnum
  · rw [if_neg (by omega), if_pos h1]
    have e : (34 :: (escL t.text ++ [34])) ++ c :: r = 34 :: (escL t.text ++ 34 :: (c :: r)) := by simp
    rw [e]
    have ht : { t with pos := 0 } = (⟨5, t.text, 0, 0⟩ : Tok) := by
      cases t
      simp only at h1 h2
      subst h1 h2
      rfl
    rw [ht]
    refine ⟨?_, ?_⟩
    · refine blank_zero_of (by decide) ?_
      cases escL t.text <;> rfl
    · show textT (34 :: (escL t.text ++ 34 :: (c :: r))) = _
      unfold textT
      simp only [List.drop_succ_cons, List.drop_zero]
      rw [textF_esc t.text (c :: r) h3]
      simp
      omega
theorem between_head : ∀ b ∈ betweens, ∃ c r, b = c :: r ∧ (c = 32 ∨ c = 10 ∨ c = 9 ∨ c = 40) := by
  intro b hb
  simp only [betweens, List.mem_cons, List.not_mem_nil, or_false] at hb
  rcases hb with rfl | rfl | rfl | rfl | rfl <;> exact ⟨_, _, rfl, by decide⟩
theorem scanL_blank_app (pos : Nat) (a x : Bs) (n : Nat) (h : blank a = some (n + 1)) (hl : a.length = n + 1) : scanL pos (a ++ x) = scanL (pos + (n + 1)) x := by
  have hb := blank_stab h x
  rw [← hl, List.take_length] at hb
  rw [hl] at hb
  rw [scanL_blank hb, List.drop_append_of_le_length (by omega), List.drop_eq_nil_of_le (by omega), List.nil_append]
theorem between_scan : ∀ b ∈ betweens, ∀ pos x, scanL pos (b ++ x) = scanL (pos + b.length) x := by
  intro b hb pos x
  simp only [betweens, List.mem_cons, List.not_mem_nil, or_false] at hb
  rcases hb with rfl | rfl | rfl | rfl | rfl
  · exact scanL_blank_app pos [32] x 0 rfl rfl
  · exact scanL_blank_app pos [10] x 0 rfl rfl
  · have h1 := scanL_blank_app pos [9] ([13] ++ x) 0 rfl rfl
    have h2 := scanL_blank_app (pos + 1) [13] x 0 rfl rfl
    exact h1.trans h2
  · exact scanL_blank_app pos [40, 42, 42, 41] x 3 (by decide) rfl
  · have h1 := scanL_blank_app pos [32] ([40, 42, 32, 97, 32, 40, 42, 32, 98, 32, 42, 41, 32, 34, 32, 39, 32, 42, 41] ++ ([32] ++ x)) 0 rfl rfl
    have h2 := scanL_blank_app (pos + 1) [40, 42, 32, 97, 32, 40, 42, 32, 98, 32, 42, 41, 32, 34, 32, 39, 32, 42, 41] ([32] ++ x) 18 (by decide) rfl
    have h3 := scanL_blank_app (pos + 1 + 19) [32] x 0 rfl rfl
    exact (h1.trans h2).trans h3
theorem write_scan (b : Bs) (hb : b ∈ betweens) : ∀ (ts : List Tok) (pos : Nat), (∀ t ∈ ts, Writ t) → ∃ ms, scanL pos (writeL b ts) = .ok ms ∧ AlikeL ts ms
  | [], pos, _ => ⟨[], scanL_nil pos, trivial⟩
  | t :: r, pos, h => by
    obtain ⟨c, s, hcs, hc⟩ := between_head b hb
    have hw := h t (by simp)
    obtain ⟨h1, h2⟩ := wr_scan hw c (s ++ writeL b r) hc
    have e : writeL b (t :: r) = wr t ++ c :: (s ++ writeL b r) := by
      show wr t ++ b ++ writeL b r = _
      rw [hcs]
      simp
    obtain ⟨ms, h3, h4⟩ := write_scan b hb r (pos + (wr t).length + b.length) (fun u hu => h u (by simp [hu]))
    have h5 := between_scan b hb (pos + (wr t).length) (writeL b r)
    refine ⟨{ t with pos := pos } :: ms, ?_, rfl, h4⟩
    rw [e, scanL_tok h1 h2, List.drop_append_of_le_length (by omega), List.drop_eq_nil_of_le (by omega), List.nil_append]
    have e2 : c :: (s ++ writeL b r) = b ++ writeL b r := by rw [hcs]; rfl
    rw [e2, h5, h3]
    rfl
/-- what the law asks -/
theorem back_src (src b : Bs) (hb : b ∈ betweens) (ts : List Tok) (h : scanL 0 src = .ok ts) : (∀ t ∈ ts, Writ t) ∧ ∃ ms, scanL 0 (b ++ writeL b ts) = .ok ms ∧ AlikeL ts ms := by
  have hw := scanL_writ 0 src ts h
  refine ⟨hw, ?_⟩
  rw [between_scan b hb]
  exact write_scan b hb ts _ hw
end Go.Proofs.YtcaejcbmkiacmaaDoor
