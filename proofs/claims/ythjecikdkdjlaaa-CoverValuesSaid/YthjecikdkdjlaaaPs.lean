/- What follows of Check, plain: a wild one behind; fewer of them. -/
import Derived.Test.YthjecikdkdjlaaaEv
namespace Go.Proofs.Ythjecikdkdjlaaa
open Go.RowKit

def AllWild (r : List T) : Prop := ∀ p ∈ r, isWild p = true
theorem anyP_wild : isWild anyP = true := by decide
theorem into_wild {is : List Inf} {q p : T} {r : List T} (h : isWild p = true) : into is q (p :: r) = some (List.replicate q.kids.length anyP ++ r) := by simp [into, h]
theorem into_not {is : List Inf} {q p : T} {r x : List T} (h : isWild p = false) : into is q (p :: r) = some x ↔ hdOf is p = hdOf is q ∧ x = p.kids ++ r := by
  simp only [into, h, Bool.false_eq_true, if_false]
  split
  · rename_i e
    simp only [Option.some.injEq, e, true_and]
    exact eq_comm
  · rename_i e
    simp [e]
theorem mem_allInto {is : List Inf} {q : T} {rows : List (List T)} {x : List T} : x ∈ allInto is q rows ↔ ∃ r ∈ rows, into is q r = some x := by simp [allInto, List.mem_filterMap]
theorem mem_rest {rows : List (List T)} {x : List T} : x ∈ restRows rows ↔ ∃ p, isWild p = true ∧ (p :: x) ∈ rows := by
  simp only [restRows, List.mem_filterMap]
  constructor
  · rintro ⟨r, hr, h⟩
    cases r with
    | nil => cases h
    | cons p r =>
      simp only at h
      split at h
      · rename_i hp
        cases h
        exact ⟨p, hp, hr⟩
      · cases h
  · rintro ⟨p, hp, h⟩
    exact ⟨p :: x, h, by simp [hp]⟩
theorem lt_into {a b F : Nat} (h : a < b) (hF : b < F + 1) : a < F := by omega
/-- behind a row of wild ones nothing is of use -/
theorem not_useful (is : List Inf) : ∀ (F : Nat) (rows : List (List T)) (row : List T), phi rows row < F → (∃ r ∈ rows, r.length = row.length ∧ AllWild r) → useW is rows row = false
  | 0, _, _, h, _ => absurd h (Nat.not_lt_zero _)
  | F + 1, rows, [], _, ⟨r, hr, _⟩ => by
    rw [useW_nil]
    cases rows with
    | nil => cases hr
    | cons _ _ => rfl
  | F + 1, rows, p :: row, hF, ⟨r, hr, hl, hw⟩ => by
    cases r with
    | nil => simp at hl
    | cons q r =>
      have hq := hw q (by simp)
      have hw' : AllWild r := fun x hx => hw x (by simp [hx])
      have hl' : r.length = row.length := by simpa using hl
      have key : ∀ s : T, ∃ x ∈ allInto is s rows, x.length = s.kids.length + row.length ∧ AllWild x := fun s => ⟨_, mem_allInto.2 ⟨_, hr, into_wild hq⟩, by simp [hl'], fun x hx => by
        rcases List.mem_append.1 hx with hx | hx
        · rw [List.eq_of_mem_replicate hx]
          exact anyP_wild
        · exact hw' x hx⟩
      rw [useW_cons]
      split
      · split
        · rw [List.any_eq_false]
          intro s hs
          obtain ⟨x, h1, h2, h3⟩ := key s
          rw [not_useful is F _ _ (lt_into (phi_first hs) hF) ⟨x, h1, by simp [h2], h3⟩]
          simp
        · exact not_useful is F _ _ (lt_into phi_rest hF) ⟨r, mem_rest.2 ⟨q, hq, hr⟩, hl', hw'⟩
      · rename_i hp
        obtain ⟨x, h1, h2, h3⟩ := key p
        exact not_useful is F _ _ (lt_into (phi_own (by simpa using hp)) hF) ⟨x, h1, by simp [h2], h3⟩
/-- patterns that fit do so when some are left, or wild ones are put in -/
theorem fits_mono (is : List Inf) : ∀ (F : Nat) (l l' : List T), partsL l < F → (∀ x ∈ l', x ∈ l ∨ x = anyP) → fitsL is l = true → fitsL is l' = true
  | 0, _, _, h, _, _ => absurd h (Nat.not_lt_zero _)
  | F + 1, l, l', hF, hs, hf => by
    obtain ⟨h1, h2, h3⟩ := (fitsL_iff is l).1 hf
    have mem : ∀ p ∈ l', isWild p = false → p ∈ l := fun p hp hw => by
      rcases hs p hp with h | rfl
      · exact h
      · rw [anyP_wild] at hw
        cases hw
    refine (fitsL_iff is l').2 ⟨fun p hp => ?_, fun p hp q hq wp wq => h2 p (mem p hp wp) q (mem q hq wq) wp wq, fun q hq wq k hk => ?_⟩
    · rcases hs p hp with h | rfl
      · exact h1 p h
      · rfl
    · have hq' := mem q hq wq
      have hc := partsL_col is (hdOf is q) k l
      have hp := List.length_pos_of_mem hq'
      refine fits_mono is F (colP is l (hdOf is q) k) (colP is l' (hdOf is q) k) (by omega) (fun t ht => ?_) (h3 q hq' wq k hk)
      obtain ⟨y, hy, h4, h5, h6⟩ := mem_col.1 ht
      exact .inl (mem_col.2 ⟨y, mem y hy h4, h4, h5, h6⟩)
theorem fits_sub {is : List Inf} {l l' : List T} (h : fitsL is l = true) (hs : ∀ x ∈ l', x ∈ l ∨ x = anyP) : fitsL is l' = true := fits_mono is _ l l' (Nat.lt_succ_self _) hs h
def colN (rows : List (List T)) (j : Nat) : List T := rows.filterMap (·[j]?)
theorem mem_colN {rows : List (List T)} {j : Nat} {t : T} : t ∈ colN rows j ↔ ∃ r ∈ rows, r[j]? = some t := by simp [colN, List.mem_filterMap]
structure Cols (is : List Inf) (rows : List (List T)) : Prop where
  fit : ∀ j, fitsL is (colN rows j) = true
  known : ∀ r ∈ rows, ∀ p ∈ r, unkT is p = false
theorem unk_kids {is : List Inf} {p : T} (h : unkT is p = false) : (p.kind = 6 → (findI is p.name).isNone = false) ∧ ∀ t ∈ p.kids, unkT is t = false := by
  obtain ⟨k, s, n, l⟩ := p
  simp only [unkT, Bool.or_eq_false_iff, Bool.and_eq_false_iff, decide_eq_false_iff_not, unkL_any, List.any_eq_false] at h
  refine ⟨fun e => ?_, fun t ht => ?_⟩
  · rcases h.1 with h | h
    · exact absurd e h
    · exact h
  · simpa using h.2 t ht
theorem len_of_head {is : List Inf} {p q : T} (hp : rightP is p = true) (hq : rightP is q = true) (h : hdOf is p = hdOf is q) : p.kids.length = q.kids.length := by
  simp only [hdOf, Hd.mk.injEq] at h
  obtain ⟨h0, h1, h2, h3, h4⟩ := h
  unfold rightP at hp hq
  by_cases e1 : p.kind = 1 ∨ p.kind = 2 ∨ p.kind = 3 ∨ p.kind = 4
  · have e2 : q.kind = 1 ∨ q.kind = 2 ∨ q.kind = 3 ∨ q.kind = 4 := by omega
    rw [if_pos e1] at hp
    rw [if_pos e2] at hq
    simp only [decide_eq_true_eq] at hp hq
    omega
  · have e2 : ¬ (q.kind = 1 ∨ q.kind = 2 ∨ q.kind = 3 ∨ q.kind = 4) := by omega
    rw [if_neg e1] at hp
    rw [if_neg e2] at hq
    by_cases e5 : p.kind = 5
    · have e5' : q.kind = 5 := by omega
      rw [if_pos e5, if_pos e5'] at h2
      omega
    · have e5' : q.kind ≠ 5 := by omega
      rw [if_neg e5] at hp
      rw [if_neg e5'] at hq
      by_cases e6 : p.kind = 6
      · have e6' : q.kind = 6 := by omega
        rw [if_pos e6, if_pos e6'] at h3
        rw [if_pos e6] at hp
        rw [if_pos e6', ← h3] at hq
        simp only [Bool.or_eq_true, Bool.and_eq_true, decide_eq_true_eq, Bool.not_eq_true'] at hp hq
        rcases hp with ⟨a, b⟩ | ⟨a, b⟩ <;> rcases hq with ⟨c, d⟩ | ⟨c, d⟩
        · omega
        · rw [b] at d; cases d
        · rw [b] at d; cases d
        · omega
      · rw [if_neg e6] at hp
        cases hp
theorem Cols.sub {is : List Inf} {rows rows' : List (List T)} (h : Cols is rows) (hs : ∀ r ∈ rows', r ∈ rows) : Cols is rows' :=
  ⟨fun j => fits_sub (h.fit j) fun t ht => by
    obtain ⟨r, hr, e⟩ := mem_colN.1 ht
    exact .inl (mem_colN.2 ⟨r, hs r hr, e⟩), fun r hr => h.known r (hs r hr)⟩
theorem Cols.rest {is : List Inf} {rows : List (List T)} (h : Cols is rows) : Cols is (restRows rows) :=
  ⟨fun j => fits_sub (h.fit (j + 1)) fun t ht => by
    obtain ⟨r, hr, e⟩ := mem_colN.1 ht
    obtain ⟨p, _, h2⟩ := mem_rest.1 hr
    exact .inl (mem_colN.2 ⟨_, h2, by simpa using e⟩), fun r hr p hp => by
    obtain ⟨q, _, h2⟩ := mem_rest.1 hr
    exact h.known _ h2 p (by simp [hp])⟩
theorem Cols.into {is : List Inf} {rows : List (List T)} {q : T} {r0 : List T} (h : Cols is rows) (wq : isWild q = false) (hq : (q :: r0) ∈ rows) : Cols is (allInto is q rows) := by
  obtain ⟨h1, h2, h3⟩ := (fitsL_iff is _).1 (h.fit 0)
  have hq0 : q ∈ colN rows 0 := mem_colN.2 ⟨_, hq, rfl⟩
  refine ⟨fun j => ?_, fun x hx p hp => ?_⟩
  · rcases Nat.lt_or_ge j q.kids.length with hj | hj
    · refine fits_sub (h3 q hq0 wq j hj) fun t ht => ?_
      obtain ⟨x, hx, e⟩ := mem_colN.1 ht
      obtain ⟨r, hr, hi⟩ := mem_allInto.1 hx
      cases r with
      | nil => cases hi
      | cons p r =>
        cases wp : isWild p
        · obtain ⟨e1, rfl⟩ := (into_not wp).1 hi
          have hp0 : p ∈ colN rows 0 := mem_colN.2 ⟨_, hr, rfl⟩
          have hl := len_of_head (h1 p hp0) (h1 q hq0) e1
          rw [List.getElem?_append_left (by omega)] at e
          exact .inl (mem_col.2 ⟨p, hp0, wp, e1, e⟩)
        · rw [into_wild wp] at hi
          cases hi
          rw [List.getElem?_append_left (by simpa using hj)] at e
          exact .inr (List.eq_of_mem_replicate (List.mem_of_getElem? e))
    · refine fits_sub (h.fit (j - q.kids.length + 1)) fun t ht => ?_
      obtain ⟨x, hx, e⟩ := mem_colN.1 ht
      obtain ⟨r, hr, hi⟩ := mem_allInto.1 hx
      cases r with
      | nil => cases hi
      | cons p r =>
        refine .inl (mem_colN.2 ⟨_, hr, ?_⟩)
        rw [List.getElem?_cons_succ]
        cases wp : isWild p
        · obtain ⟨e1, rfl⟩ := (into_not wp).1 hi
          have hp0 : p ∈ colN rows 0 := mem_colN.2 ⟨_, hr, rfl⟩
          have hl := len_of_head (h1 p hp0) (h1 q hq0) e1
          rw [List.getElem?_append_right (by omega), hl] at e
          exact e
        · rw [into_wild wp] at hi
          cases hi
          rw [List.getElem?_append_right (by simpa using hj), List.length_replicate] at e
          exact e
  · obtain ⟨r, hr, hi⟩ := mem_allInto.1 hx
    cases r with
    | nil => cases hi
    | cons p' r =>
      cases wp : isWild p'
      · obtain ⟨e1, rfl⟩ := (into_not wp).1 hi
        rcases List.mem_append.1 hp with hp | hp
        · exact (unk_kids (h.known _ hr p' (by simp))).2 p hp
        · exact h.known _ hr p (by simp [hp])
      · rw [into_wild wp] at hi
        cases hi
        rcases List.mem_append.1 hp with hp | hp
        · rw [List.eq_of_mem_replicate hp]
          rfl
        · exact h.known _ hr p (by simp [hp])
theorem firstsA_acc (is : List Inf) : ∀ (rows : List (List T)) (acc : List T), ∀ q ∈ acc, q ∈ firstsA is rows acc
  | [], acc, q, h => h
  | [] :: rs, acc, q, h => by
    simp only [firstsA]
    exact firstsA_acc is rs acc q h
  | (p :: r) :: rs, acc, q, h => by
    simp only [firstsA]
    split
    · exact firstsA_acc is rs acc q h
    · exact firstsA_acc is rs _ q (List.mem_append_left _ h)
theorem firstsA_all (is : List Inf) : ∀ (rows : List (List T)) (acc : List T) (p : T) (r : List T), (p :: r) ∈ rows → isWild p = false → ∃ q ∈ firstsA is rows acc, hdOf is q = hdOf is p
  | [], acc, p, r, h, _ => by cases h
  | [] :: rs, acc, p, r, h, hw => by
    simp only [firstsA]
    rcases List.mem_cons.1 h with h | h
    · cases h
    · exact firstsA_all is rs acc p r h hw
  | (p' :: r') :: rs, acc, p, r, h, hw => by
    simp only [firstsA]
    rcases List.mem_cons.1 h with h | h
    · injection h with h1 h2
      subst h1 h2
      by_cases e : acc.any (fun q => decide (hdOf is q = hdOf is p)) = true
      · rw [e, Bool.or_true, if_pos rfl]
        obtain ⟨q, hq, e⟩ := List.any_eq_true.1 e
        exact ⟨q, firstsA_acc is rs acc q hq, by simpa using e⟩
      · rw [hw, Bool.false_or, if_neg e]
        exact ⟨p, firstsA_acc is rs _ p (by simp), rfl⟩
    · split
      · exact firstsA_all is rs _ p r h hw
      · exact firstsA_all is rs _ p r h hw
theorem firsts_all {is : List Inf} {rows : List (List T)} {p : T} {r : List T} (h : (p :: r) ∈ rows) (hw : isWild p = false) : ∃ q ∈ firsts is rows, hdOf is q = hdOf is p := firstsA_all is rows [] p r h hw
theorem whole_cons {is : List Inf} {p : T} {l : List T} : whole is (p :: l) = true ↔ (p.kind = 4 ∨ p.kind = 5) ∨ (p.kind = 6 ∧ (infoOf is p.name).of ≠ exn ∧ ∀ x ∈ is, x.of = (infoOf is p.name).of → ∃ q ∈ p :: l, q.name = x.name) := by
  unfold whole
  by_cases h : p.kind = 4 ∨ p.kind = 5
  · simp only [h, if_true, true_or]
  · simp only [h, if_false, false_or]
    by_cases h6 : p.kind = 6
    · have key : (is.any fun x => decide (x.of = (infoOf is p.name).of) && !((p :: l).any fun q => decide (q.name = x.name))) = false ↔ ∀ x ∈ is, x.of = (infoOf is p.name).of → ∃ q ∈ p :: l, q.name = x.name := by
        rw [List.any_eq_false]
        refine forall_congr' fun x => forall_congr' fun hx => ?_
        rw [Bool.and_eq_true, decide_eq_true_eq, not_and]
        refine forall_congr' fun e => ?_
        rw [Bool.not_eq_true', Bool.not_eq_false, List.any_eq_true]
        refine exists_congr fun q => and_congr Iff.rfl ?_
        rw [decide_eq_true_eq]
      rw [if_pos h6, Bool.and_eq_true, Bool.not_eq_true', Bool.not_eq_true', decide_eq_false_iff_not, key]
      exact ⟨fun h => ⟨h6, h⟩, fun h => h.2⟩
    · rw [if_neg h6]
      simp [h6]
theorem sort_kind {is : List Inf} {p q : T} (h : (hdOf is p).sort = (hdOf is q).sort) : p.kind = q.kind ∧ (p.kind = 6 → (infoOf is p.name).of = (infoOf is q.name).of) ∧ (p.kind = 4 ∨ p.kind = 5 → hdOf is p = hdOf is q) := by
  simp only [Hd.sort, hdOf, Hd.mk.injEq] at h
  obtain ⟨h1, _, h2, _, h3⟩ := h
  refine ⟨h1, fun e => ?_, fun e => ?_⟩
  · rw [if_pos e, if_pos (h1 ▸ e)] at h3
    exact h3
  · have k3 : p.kind ≠ 3 := by omega
    have k6 : p.kind ≠ 6 := by omega
    have e2 : q.kind ≠ 3 := by omega
    have e3 : q.kind ≠ 6 := by omega
    simp only [hdOf, k3, k6, e2, e3, if_false, h1]
    rw [h1] at h2
    rw [h2]
theorem head_name {is : List Inf} {p q : T} (h : hdOf is p = hdOf is q) (h6 : p.kind = 6) : q.kind = 6 ∧ p.name = q.name := by
  simp only [hdOf, Hd.mk.injEq] at h
  obtain ⟨h1, _, _, h4, _⟩ := h
  have : q.kind = 6 := by omega
  rw [if_pos h6, if_pos this] at h4
  exact ⟨this, h4⟩
theorem head_con {is : List Inf} {p q : T} (h1 : p.kind = 6) (h2 : q.kind = 6) (h : p.name = q.name) : hdOf is p = hdOf is q := by
  simp only [hdOf, h1, h2, h, if_true]
  rfl
theorem whole_up {is : List Inf} {l l' : List T} (h : whole is l' = true) (hs : ∀ q ∈ l', ∃ p ∈ l, hdOf is p = hdOf is q) (hso : ∀ p ∈ l, ∀ q ∈ l', (hdOf is p).sort = (hdOf is q).sort) : whole is l = true := by
  cases l' with
  | nil => cases h
  | cons q0 l' =>
    cases l with
    | nil =>
      obtain ⟨p, hp, _⟩ := hs q0 (by simp)
      cases hp
    | cons p0 l =>
      obtain ⟨k1, k2, k3⟩ := sort_kind (hso p0 (by simp) q0 (by simp))
      rw [whole_cons] at h ⊢
      rcases h with h | ⟨h1, h2, h3⟩
      · exact .inl (by omega)
      · have e6 : p0.kind = 6 := by omega
        refine .inr ⟨e6, by rw [k2 e6]; exact h2, fun x hx hxo => ?_⟩
        obtain ⟨q, hq, e⟩ := h3 x hx (by rw [hxo, k2 e6])
        obtain ⟨p, hp, e2⟩ := hs q hq
        have hpk : p.kind = 6 := by
          have := (sort_kind (hso p hp q0 (by simp))).1
          omega
        exact ⟨p, hp, by rw [(head_name e2 hpk).2]; exact e⟩
theorem whole_has {is : List Inf} {l : List T} {q : T} (h : whole is l = true) (hk : unkT is q = false) (hso : ∀ p ∈ l, (hdOf is p).sort = (hdOf is q).sort) : ∃ p ∈ l, hdOf is p = hdOf is q := by
  cases l with
  | nil => cases h
  | cons p0 l =>
    obtain ⟨k1, k2, k3⟩ := sort_kind (hso p0 (by simp))
    rw [whole_cons] at h
    rcases h with h | ⟨h1, h2, h3⟩
    · exact ⟨p0, by simp, k3 h⟩
    · have h6 : q.kind = 6 := by omega
      have hn := (unk_kids hk).1 h6
      cases hf : findI is q.name with
      | none => rw [hf] at hn; cases hn
      | some x =>
        have hx : x ∈ is := List.mem_of_find?_eq_some hf
        have hxn : x.name = q.name := by simpa using List.find?_some hf
        have ho : (infoOf is q.name) = x := by simp [infoOf, hf]
        obtain ⟨p, hp, e⟩ := h3 x hx (by rw [k2 h1, ho])
        have hpk : p.kind = 6 := by
          have := (sort_kind (hso p hp)).1
          omega
        exact ⟨p, hp, head_con hpk h6 (e.trans hxn)⟩
theorem firsts_anys (is : List Inf) (R : List (List T)) : firsts is (R.map (anyP :: ·)) = [] := by
  cases h : firsts is (R.map (anyP :: ·)) with
  | nil => rfl
  | cons q l =>
    obtain ⟨hw, r, hr⟩ := firsts_mem (is := is) (rows := R.map (anyP :: ·)) (q := q) (by rw [h]; simp)
    obtain ⟨x, _, e⟩ := List.mem_map.1 hr
    cases e
    rw [anyP_wild] at hw
    cases hw
theorem rest_anys (R : List (List T)) : restRows (R.map (anyP :: ·)) = R := by
  simp only [restRows, List.filterMap_map]
  have : (fun x : List T => (match anyP :: x with | [] => none | p :: r => if isWild p = true then some r else none)) = some := by
    funext x
    simp [anyP_wild]
  show List.filterMap (fun x : List T => (match anyP :: x with | [] => none | p :: r => if isWild p = true then some r else none)) R = R
  rw [this, List.filterMap_some]
theorem use_strip (is : List Inf) (R : List (List T)) (r : List T) : ∀ n : Nat, useW is (R.map (List.replicate n anyP ++ ·)) (List.replicate n anyP ++ r) = useW is R r
  | 0 => by simp
  | n + 1 => by
    rw [List.replicate_succ, List.cons_append, useW_cons, if_pos anyP_wild]
    have e : R.map (anyP :: List.replicate n anyP ++ ·) = (R.map (List.replicate n anyP ++ ·)).map (anyP :: ·) := by simp
    rw [e, firsts_anys, rest_anys]
    simp only [whole, Bool.false_eq_true, if_false]
    exact use_strip is R r n
theorem into_congr {is : List Inf} {q q' : T} (h : hdOf is q = hdOf is q') (hl : q.kids.length = q'.kids.length) : ∀ r, into is q r = into is q' r
  | [] => rfl
  | p :: r => by simp only [into, h, hl]
/-- what is of use is so behind fewer -/
theorem use_mono (is : List Inf) : ∀ (F : Nat) (rows rows' : List (List T)) (row : List T), phi rows row < F → Cols is (row :: rows) → (∀ r ∈ rows', r ∈ rows) → useW is rows row = true → useW is rows' row = true
  | 0, _, _, _, h, _, _, _ => absurd h (Nat.not_lt_zero _)
  | F + 1, rows, rows', [], _, _, hs, hu => by
    rw [useW_nil] at hu ⊢
    cases rows' with
    | nil => rfl
    | cons r l =>
      have := hs r (by simp)
      cases rows with
      | nil => cases this
      | cons _ _ => cases hu
  | F + 1, rows, rows', p :: row, hF, hC, hs, hu => by
    have hsI : ∀ q : T, ∀ r ∈ allInto is q rows', r ∈ allInto is q rows := fun q r hr => by
      obtain ⟨x, hx, e⟩ := mem_allInto.1 hr
      exact mem_allInto.2 ⟨x, hs x hx, e⟩
    rw [useW_cons] at hu ⊢
    cases wp : isWild p
    · rw [wp] at hu
      simp only [Bool.false_eq_true, if_false] at hu ⊢
      refine use_mono is F _ _ _ (lt_into (phi_own wp) hF) ?_ (hsI p) hu
      have h := hC.into wp (r0 := row) (by simp)
      have e : allInto is p ((p :: row) :: rows) = (p.kids ++ row) :: allInto is p rows := by
        simp only [allInto, List.filterMap_cons, (into_not (is := is) (q := p) (x := p.kids ++ row) wp).2 ⟨rfl, rfl⟩]
      rw [e] at h
      exact h
    · rw [wp] at hu
      simp only [if_true] at hu ⊢
      obtain ⟨f1, f2, f3⟩ := (fitsL_iff is _).1 (hC.fit 0)
      have col : ∀ {q : T} {r : List T}, (q :: r) ∈ rows → q ∈ colN ((p :: row) :: rows) 0 := fun h => mem_colN.2 ⟨_, List.mem_cons_of_mem _ h, rfl⟩
      have hsort : ∀ a ∈ firsts is rows, ∀ b ∈ firsts is rows', (hdOf is a).sort = (hdOf is b).sort := fun a ha b hb => by
        obtain ⟨a1, ra, a2⟩ := firsts_mem ha
        obtain ⟨b1, rb, b2⟩ := firsts_mem hb
        exact f2 a (col a2) b (col (hs _ b2)) a1 b1
      have hup : whole is (firsts is rows') = true → whole is (firsts is rows) = true := fun h => whole_up h (fun q hq => by
        obtain ⟨b1, rb, b2⟩ := firsts_mem hq
        exact firsts_all (hs _ b2) b1) hsort
      cases hw : whole is (firsts is rows)
      · have hw' : whole is (firsts is rows') = false := by
          cases e : whole is (firsts is rows')
          · rfl
          · rw [hup e] at hw
            cases hw
        rw [hw] at hu
        rw [hw']
        simp only [Bool.false_eq_true, if_false] at hu ⊢
        refine use_mono is F _ _ _ (lt_into phi_rest hF) ?_ (fun r hr => ?_) hu
        · have h := hC.rest
          have e : restRows ((p :: row) :: rows) = row :: restRows rows := by simp [restRows, wp]
          rw [e] at h
          exact h
        · obtain ⟨q, h1, h2⟩ := mem_rest.1 hr
          exact mem_rest.2 ⟨q, h1, hs _ h2⟩
      · rw [hw] at hu
        simp only [if_true] at hu
        obtain ⟨q, hq, hu⟩ := List.any_eq_true.1 hu
        obtain ⟨q1, rq, q2⟩ := firsts_mem hq
        have hCI : Cols is ((List.replicate q.kids.length anyP ++ row) :: allInto is q rows) := by
          have h := hC.into q1 (r0 := rq) (by simp [q2])
          have e : allInto is q ((p :: row) :: rows) = (List.replicate q.kids.length anyP ++ row) :: allInto is q rows := by
            simp only [allInto, List.filterMap_cons, into_wild wp]
          rw [e] at h
          exact h
        cases hw' : whole is (firsts is rows')
        · simp only [Bool.false_eq_true, if_false]
          have h := use_mono is F _ ((restRows rows').map (List.replicate q.kids.length anyP ++ ·)) _ (lt_into (phi_first (p := p) (r := row) hq) hF) hCI (fun r hr => ?_) hu
          · rw [use_strip] at h
            exact h
          · obtain ⟨x, hx, rfl⟩ := List.mem_map.1 hr
            obtain ⟨y, h1, h2⟩ := mem_rest.1 hx
            exact mem_allInto.2 ⟨_, hs _ h2, into_wild h1⟩
        · simp only [if_true]
          have hkq : unkT is q = false := hC.known _ (List.mem_cons_of_mem _ q2) q (by simp)
          obtain ⟨q', hq', e⟩ := whole_has hw' hkq (fun b hb => (hsort q hq b hb).symm)
          obtain ⟨b1, rb, b2⟩ := firsts_mem hq'
          have hl : q'.kids.length = q.kids.length := len_of_head (f1 q' (col (hs _ b2))) (f1 q (col q2)) e
          refine List.any_eq_true.2 ⟨q', hq', ?_⟩
          have e2 : allInto is q' rows' = allInto is q rows' := by
            simp only [allInto]
            congr 1
            funext r
            exact into_congr e hl r
          rw [e2, hl]
          exact use_mono is F _ _ _ (lt_into (phi_first (p := p) (r := row) hq) hF) hCI (hsI q) hu
theorem allUse_append (is : List Inf) : ∀ (l m a : List T), allUse is a (l ++ m) = (allUse is a l && allUse is (a ++ l) m)
  | [], m, a => by simp [allUse]
  | p :: r, m, a => by
    simp only [List.cons_append, allUse, allUse_append is r m, Bool.and_assoc, List.append_assoc, List.nil_append]
theorem cols_one {is : List Inf} {l a : List T} {p : T} (hf : fitsL is l = true) (hk : unkL is l = false) (hs : ∀ x ∈ p :: a, x ∈ l) : Cols is ([p] :: a.map one) := by
  rw [unkL_any, List.any_eq_false] at hk
  refine ⟨fun j => fits_sub hf fun t ht => ?_, fun r hr x hx => ?_⟩
  · obtain ⟨r, hr, e⟩ := mem_colN.1 ht
    have ht := List.mem_of_getElem? e
    rcases List.mem_cons.1 hr with rfl | hr
    · simp only [List.mem_singleton] at ht
      exact .inl (hs _ (by simp [ht]))
    · obtain ⟨y, hy, rfl⟩ := List.mem_map.1 hr
      simp only [one, List.mem_singleton] at ht
      exact .inl (hs _ (by simp [ht, hy]))
  · rcases List.mem_cons.1 hr with rfl | hr
    · simp only [List.mem_singleton] at hx
      simpa using hk _ (hs x (by simp [hx]))
    · obtain ⟨y, hy, rfl⟩ := List.mem_map.1 hr
      simp only [one, List.mem_singleton] at hx
      simpa using hk _ (hs x (by simp [hx, hy]))
theorem allUse_mono {is : List Inf} {u : List T} (hf : fitsL is u = true) (hk : unkL is u = false) : ∀ (l a a' : List T), (∀ x ∈ a, x ∈ u) → (∀ x ∈ l, x ∈ u) → (∀ x ∈ a', x ∈ a) → allUse is a l = true → allUse is a' l = true
  | [], _, _, _, _, _, _ => rfl
  | p :: r, a, a', ha, hl, hs, h => by
    simp only [allUse, Bool.and_eq_true] at h ⊢
    refine ⟨use_mono is _ (a.map one) (a'.map one) [p] (Nat.lt_succ_self _) (cols_one hf hk fun x hx => ?_) (fun x hx => ?_) h.1, allUse_mono hf hk r (a ++ [p]) (a' ++ [p]) (fun x hx => ?_) (fun x hx => hl x (by simp [hx])) (fun x hx => ?_) h.2⟩
    · rcases List.mem_cons.1 hx with rfl | hx
      · exact hl x (by simp)
      · exact ha x hx
    · obtain ⟨y, hy, rfl⟩ := List.mem_map.1 hx
      exact List.mem_map.2 ⟨y, hs y hy, rfl⟩
    · rcases List.mem_append.1 hx with hx | hx
      · exact ha x hx
      · exact hl x (by simp at hx; simp [hx])
    · rcases List.mem_append.1 hx with hx | hx
      · exact List.mem_append_left _ (hs x hx)
      · exact List.mem_append_right _ hx
theorem checkP_ok {is : List Inf} {l : List T} : checkP is l false = 0 ↔ partsL l ≤ 200 ∧ unkL is l = false ∧ fitsL is l = true ∧ allUse is [] l = true := by
  unfold checkP
  by_cases h1 : 200 < partsL l
  · rw [if_pos h1]
    simp only [show ¬ ((16 : Int) = 0) by decide, false_iff]
    omega
  · rw [if_neg h1]
    cases h2 : unkL is l
    · cases h3 : fitsL is l
      · simp
      · cases h4 : allUse is [] l
        · simp
        · simp
          omega
    · simp
theorem checkP_good {is : List Inf} {l : List T} (wh : Bool) (h : partsL l ≤ 200) (h2 : unkL is l = false) (h3 : fitsL is l = true) : checkP is l wh = if allUse is [] l = false then 14 else if wh && useW is (l.map one) [anyP] then 14 else 0 := by
  unfold checkP
  rw [if_neg (by omega), h2, h3]
  simp
theorem partsL_anyP (l : List T) : partsL (l ++ [anyP]) = partsL l + 1 := by
  rw [partsL_append]
  rfl
theorem unkL_anyP (is : List Inf) (l : List T) : unkL is (l ++ [anyP]) = unkL is l := by
  rw [unkL_any, unkL_any, List.any_append]
  have : [anyP].any (unkT is) = false := rfl
  rw [this, Bool.or_false]
theorem fits_anyP {is : List Inf} {l : List T} (h : fitsL is l = true) : fitsL is (l ++ [anyP]) = true := fits_sub h fun x hx => by
  rcases List.mem_append.1 hx with hx | hx
  · exact .inl hx
  · exact .inr (by simpa using hx)
/-- the law of a wild one behind -/
theorem wild_law {is : List Inf} {l : List T} (h : checkP is l false = 0) (hn : partsL l ≤ 198) :
    (checkP is l true = 14 ∧ checkP is (l ++ [anyP]) false = 0 ∧ checkP is (l ++ [anyP]) true = 0 ∧ checkP is (l ++ [anyP] ++ [anyP]) false = 14) ∨
    (checkP is l true = 0 ∧ checkP is (l ++ [anyP]) false = 14 ∧ checkP is (l ++ [anyP] ++ [anyP]) false = 14) := by
  obtain ⟨h1, h2, h3, h4⟩ := checkP_ok.1 h
  have e1 := partsL_anyP l
  have e2 := partsL_anyP (l ++ [anyP])
  have u1 := (unkL_anyP is l).trans h2
  have u2 := (unkL_anyP is (l ++ [anyP])).trans u1
  have f1 := fits_anyP h3
  have f2 := fits_anyP f1
  have hnu : useW is ((l ++ [anyP]).map one) [anyP] = false := not_useful is _ _ _ (Nat.lt_succ_self _) ⟨[anyP], by simp [one], rfl, fun p hp => by rw [List.mem_singleton.1 hp]; exact anyP_wild⟩
  rw [checkP_good true h1 h2 h3, checkP_good false (by omega) u1 f1, checkP_good true (by omega) u1 f1, checkP_good false (by omega) u2 f2, allUse_append is (l ++ [anyP]) [anyP], allUse_append is l [anyP], h4]
  simp only [allUse, List.nil_append, hnu, Bool.and_true, Bool.true_and, Bool.and_false]
  cases useW is (l.map one) [anyP]
  · right; simp
  · left; simp
theorem partsL_sub {l : List T} (k : Nat) : partsL (l.take k) ≤ partsL l ∧ partsL (l.take k ++ l.drop (k + 1)) ≤ partsL l := by
  have h1 := partsL_append (l.take k) (l.drop k)
  rw [List.take_append_drop] at h1
  have h2 : partsL (l.drop (k + 1)) ≤ partsL (l.drop k) := by
    have h3 := partsL_append ((l.drop k).take 1) ((l.drop k).drop 1)
    rw [List.take_append_drop, List.drop_drop] at h3
    omega
  refine ⟨by omega, ?_⟩
  rw [partsL_append]
  omega
/-- the law of fewer -/
theorem less_law {is : List Inf} {l : List T} (h : checkP is l false = 0) (k : Nat) : checkP is (l.take k ++ l.drop (k + 1)) false = 0 ∧ checkP is (l.take k) false = 0 := by
  obtain ⟨h1, h2, h3, h4⟩ := checkP_ok.1 h
  obtain ⟨p1, p2⟩ := partsL_sub (l := l) k
  have s1 : ∀ x ∈ l.take k, x ∈ l := fun x hx => List.mem_of_mem_take hx
  have s2 : ∀ x ∈ l.drop (k + 1), x ∈ l := fun x hx => List.mem_of_mem_drop hx
  have s3 : ∀ x ∈ l.take k ++ l.drop (k + 1), x ∈ l := fun x hx => by
    rcases List.mem_append.1 hx with hx | hx
    · exact s1 x hx
    · exact s2 x hx
  have un : ∀ m : List T, (∀ x ∈ m, x ∈ l) → unkL is m = false := fun m hm => by
    rw [unkL_any, List.any_eq_false] at h2 ⊢
    exact fun x hx => h2 x (hm x hx)
  have u1 := allUse_take is (k := k) h4
  refine ⟨checkP_ok.2 ⟨by omega, un _ s3, fits_sub h3 fun x hx => .inl (s3 x hx), ?_⟩, checkP_ok.2 ⟨by omega, un _ s1, fits_sub h3 fun x hx => .inl (s1 x hx), u1⟩⟩
  rw [allUse_append, u1, Bool.true_and, List.nil_append]
  rcases Nat.lt_or_ge k l.length with hk | hk
  · have e : l.take (k + 1) ++ l.drop (k + 1) = l := List.take_append_drop _ _
    have h5 : allUse is (l.take (k + 1)) (l.drop (k + 1)) = true := by
      rw [← e, allUse_append, Bool.and_eq_true, List.nil_append] at h4
      exact h4.2
    refine allUse_mono h3 h2 _ (l.take (k + 1)) (l.take k) (fun x hx => List.mem_of_mem_take hx) s2 (fun x hx => ?_) h5
    exact (List.take_sublist_take_left (by omega)).subset hx
  · rw [List.drop_eq_nil_of_le (by omega)]
    rfl
end Go.Proofs.Ythjecikdkdjlaaa
