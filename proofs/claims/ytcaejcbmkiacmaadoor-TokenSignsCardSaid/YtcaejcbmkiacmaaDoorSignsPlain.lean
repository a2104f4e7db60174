/- The laws TokenSigns and TokenWords in plain Lean. -/
import Derived.Test.YtcaejcbmkiacmaaDoorStab
namespace Go.Proofs.YtcaejcbmkiacmaaDoor

theorem tokT_kind6 {l : Bs} {t : Tok} {n : Nat} (h : tokT l = some (t, n)) (hk : t.kind = 6) : t.text ∈ words := by
  cases l with
  | nil => simp [tokT] at h
  | cons c r =>
    unfold tokT at h
    simp only at h
    split at h
    · unfold nameT at h
      split at h
      · cases h
      · simp only [Option.some.injEq, Prod.mk.injEq] at h
        obtain ⟨rfl, rfl⟩ := h
        dsimp only at hk ⊢
        split at hk
        · cases hk
        · split at hk
          · assumption
          · cases hk
    · split at h
      · unfold numT at h
        obtain ⟨v, h1, h2⟩ := Option.map_eq_some_iff.1 h
        simp only [Prod.mk.injEq] at h2
        obtain ⟨rfl, rfl⟩ := h2
        cases hk
      · split at h
        · unfold tickT at h
          split at h
          · cases h
          · simp only [Option.some.injEq, Prod.mk.injEq] at h
            obtain ⟨rfl, rfl⟩ := h
            cases hk
        · split at h
          · unfold textT at h
            obtain ⟨p, h1, h2⟩ := Option.map_eq_some_iff.1 h
            simp only [Prod.mk.injEq] at h2
            obtain ⟨rfl, rfl⟩ := h2
            cases hk
          · have := (signFrom_good _ signs t n h).1
            omega
theorem words_of (pos : Nat) (l : Bs) : ∀ ts, scanL pos l = .ok ts → ∀ t ∈ ts, t.kind = 6 → t.text ∈ words := by
  refine scanL_rec (fun pos l R => ∀ ts, R = .ok ts → ∀ t ∈ ts, t.kind = 6 → t.text ∈ words) ?_ ?_ ?_ ?_ ?_ pos l
  · intro pos ts h t ht
    cases h
    cases ht
  · intro pos l _ _ ts h
    cases h
  · intro pos l _ _ _ ts h
    cases h
  · intro pos l n hb hn ih ts h
    exact ih ts h
  · intro pos l t n hb ht ih ts h
    cases hR : scanL (pos + n) (l.drop n) with
    | error p => rw [hR] at h; cases h
    | ok r =>
      rw [hR] at h
      simp only [Except.map, Except.ok.injEq] at h
      subst h
      intro u hu hk
      rcases List.mem_cons.1 hu with rfl | hu
      · exact tokT_kind6 (t := t) ht hk
      · exact ih r hR u hu hk
theorem word_scan : ∀ x ∈ words, scanL 0 x = .ok [⟨6, x, 0, 0⟩] := by
  have h : (words.all fun x => match scanL 0 x with | .ok [t] => decide (t = ⟨6, x, 0, 0⟩) | _ => false) = true := by decide
  intro x hx
  have := List.all_eq_true.1 h x hx
  split at this
  · rename_i t ht
    rw [ht, of_decide_eq_true this]
  · cases this

/-- signs one behind the other -/
def Signed (l : Bs) : Prop := ∀ c ∈ l, [c] ∈ signs
def six : List Bs := [[61, 62], [45, 62], [58, 61], [60, 61], [62, 61], [60, 62]]
def two (l : Bs) : Bool := match l with
  | a :: b :: _ => decide ([a, b] ∈ six)
  | _ => false
def signN (l : Bs) : Nat := if two l then 2 else 1
/-- no comment begins -/
def NoOpen (l : Bs) : Prop := ∀ k, opens (l.drop k) = false
def SignChain : Nat → Bs → List Tok → Prop
  | _, l, [] => l = []
  | pos, l, t :: r => l ≠ [] ∧ t.kind = 7 ∧ t.pos = pos ∧ t.text = l.take (signN l) ∧ SignChain (pos + signN l) (l.drop (signN l)) r
theorem sign_byte : ∀ c : UInt8, [c] ∈ signs → small c = false ∧ great c = false ∧ digit c = false ∧ c ≠ 39 ∧ c ≠ 34 ∧ white c = false := by
  intro c h
  simp only [signs, List.mem_cons, List.cons.injEq, List.not_mem_nil, or_false, and_true, reduceCtorEq, and_false, false_or] at h
  rcases h with rfl | rfl | rfl | rfl | rfl | rfl | rfl | rfl | rfl | rfl | rfl | rfl | rfl | rfl | rfl | rfl <;> decide
theorem signT_two : ∀ (c : UInt8) (r : Bs), [c] ∈ signs → signT (c :: r) = some (⟨7, (c :: r).take (signN (c :: r)), 0, 0⟩, signN (c :: r)) := by
  intro c r h
  cases r with
  | nil =>
    simp only [signs, List.mem_cons, List.cons.injEq, List.not_mem_nil, or_false, and_true, reduceCtorEq, and_false, false_or] at h
    rcases h with rfl | rfl | rfl | rfl | rfl | rfl | rfl | rfl | rfl | rfl | rfl | rfl | rfl | rfl | rfl | rfl <;> rfl
  | cons d r =>
    by_cases h2 : [c, d] ∈ six
    · have hn : signN (c :: d :: r) = 2 := by simp [signN, two, h2]
      rw [hn]
      simp only [six, List.mem_cons, List.cons.injEq, List.not_mem_nil, or_false, and_true] at h2
      rcases h2 with ⟨rfl, rfl⟩ | ⟨rfl, rfl⟩ | ⟨rfl, rfl⟩ | ⟨rfl, rfl⟩ | ⟨rfl, rfl⟩ | ⟨rfl, rfl⟩ <;> rfl
    · have hn : signN (c :: d :: r) = 1 := by simp [signN, two, h2]
      rw [hn]
      have e : signT (c :: d :: r) = signFrom (c :: d :: r) (signs.drop 6) := by
        have hno : ∀ ss : List Bs, (∀ y ∈ ss, y ∈ six) → ∀ tl, signFrom (c :: d :: r) (ss ++ tl) = signFrom (c :: d :: r) tl := by
          intro ss
          induction ss with
          | nil => intro _ _; rfl
          | cons y s ih =>
            intro hy tl
            rw [List.cons_append, signFrom, if_neg, ih (fun z hz => hy z (by simp [hz]))]
            intro hp
            rw [List.isPrefixOf_iff_prefix] at hp
            obtain ⟨z, hz⟩ := hp
            have h6 := hy y (by simp)
            have hl : y.length = 2 := by
              have : ∀ y ∈ six, y.length = 2 := by decide
              exact this y h6
            match y, hl, hz with
            | [a, b], _, hz =>
              simp only [List.cons_append, List.nil_append, List.cons.injEq] at hz
              rw [hz.1, hz.2.1] at h6
              exact h2 h6
        exact hno six (fun _ h => h) (signs.drop 6)
      rw [e]
      simp only [signs, List.mem_cons, List.cons.injEq, List.not_mem_nil, or_false, and_true, reduceCtorEq, and_false, false_or] at h
      rcases h with rfl | rfl | rfl | rfl | rfl | rfl | rfl | rfl | rfl | rfl | rfl | rfl | rfl | rfl | rfl | rfl <;> rfl
theorem signN_le (c : UInt8) (r : Bs) : 1 ≤ signN (c :: r) ∧ signN (c :: r) ≤ (c :: r).length := by
  unfold signN two
  cases r with
  | nil => simp
  | cons d r =>
    simp only [List.length_cons]
    split <;> omega
theorem signs_scan : ∀ (k : Nat) (pos : Nat) (l : Bs), l.length ≤ k → Signed l → NoOpen l → ∃ ts, scanL pos l = .ok ts ∧ SignChain pos l ts
  | _, pos, [], _, _, _ => ⟨[], scanL_nil pos, rfl⟩
  | 0, pos, c :: r, h, _, _ => by simp at h
  | k + 1, pos, c :: r, h, hs, ho => by
    have hc := hs c (by simp)
    obtain ⟨h1, h2, h3, h4, h5, h6⟩ := sign_byte c hc
    have hb : blank (c :: r) = some 0 := blank_zero_of h6 (by simpa using ho 0)
    have ht : tokT (c :: r) = some (⟨7, (c :: r).take (signN (c :: r)), 0, 0⟩, signN (c :: r)) := by
      unfold tokT
      simp only [h1, h2, h3, Bool.or_self, Bool.false_eq_true, if_false]
      rw [if_neg h4, if_neg h5]
      exact signT_two c r hc
    have hn := signN_le c r
    obtain ⟨ts, h7, h8⟩ := signs_scan k (pos + signN (c :: r)) ((c :: r).drop (signN (c :: r))) (by simp only [List.length_drop, List.length_cons] at *; omega)
      (fun d hd => hs d (List.mem_of_mem_drop hd)) (fun j => by rw [List.drop_drop]; exact ho _)
    refine ⟨⟨7, (c :: r).take (signN (c :: r)), 0, pos⟩ :: ts, by rw [scanL_tok hb ht, h7]; rfl, ?_⟩
    exact ⟨by simp, rfl, rfl, rfl, h8⟩
end Go.Proofs.YtcaejcbmkiacmaaDoor
