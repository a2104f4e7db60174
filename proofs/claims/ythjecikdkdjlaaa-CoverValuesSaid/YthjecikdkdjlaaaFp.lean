/- Do patterns that stand at one place fit? Plain. -/
import Derived.Test.YthjecikdkdjlaaaGd
import Derived.Test.YthjecikdkdjlaaaBe
namespace Go.Proofs.Ythjecikdkdjlaaa
open Go.RowKit

/-- what stands at the k-th place of those with a head -/
def colP (is : List Inf) (l : List T) (h : Hd) (k : Nat) : List T := l.filterMap fun q => if isWild q = false ∧ hdOf is q = h then q.kids[k]? else none
def sortOk (is : List Inf) (l : List T) : Bool := l.all fun p => isWild p || l.all fun q => isWild q || decide ((hdOf is p).sort = (hdOf is q).sort)
theorem partsL_col (is : List Inf) (h : Hd) (k : Nat) : ∀ l : List T, partsL (colP is l h k) + l.length ≤ partsL l
  | [] => by simp [colP, partsL]
  | q :: r => by
    have h1 := partsL_col is h k r
    obtain ⟨kk, s, n, kids⟩ := q
    simp only [colP, List.filterMap_cons, partsL, parts, List.length_cons] at h1 ⊢
    split
    · omega
    · rename_i t ht
      split at ht
      · have := parts_kid kids k t ht
        simp only [partsL]
        omega
      · cases ht
def fitsL (is : List Inf) (l : List T) : Bool :=
  l.all (rightP is) && (sortOk is l && l.attach.all fun q => isWild q.1 || (List.range q.1.kids.length).all fun k => fitsL is (colP is l (hdOf is q.1) k))
termination_by partsL l
decreasing_by
  have h1 := partsL_col is (hdOf is q.1) k l
  have h2 : 0 < l.length := List.length_pos_of_mem q.2
  omega
theorem fitsL_eq (is : List Inf) (l : List T) : fitsL is l = (l.all (rightP is) && (sortOk is l && l.all fun q => isWild q || (List.range q.kids.length).all fun k => fitsL is (colP is l (hdOf is q) k))) := by
  rw [fitsL]
  congr 2
  rw [List.all_subtype (g := fun q => isWild q || (List.range q.kids.length).all fun k => fitsL is (colP is l (hdOf is q) k)) (fun x hx => rfl), List.unattach_attach]
theorem fitsL_iff (is : List Inf) (l : List T) : fitsL is l = true ↔ (∀ p ∈ l, rightP is p = true) ∧ (∀ p ∈ l, ∀ q ∈ l, isWild p = false → isWild q = false → (hdOf is p).sort = (hdOf is q).sort) ∧
    ∀ q ∈ l, isWild q = false → ∀ k, k < q.kids.length → fitsL is (colP is l (hdOf is q) k) = true := by
  rw [fitsL_eq]
  simp only [Bool.and_eq_true, List.all_eq_true, sortOk, Bool.or_eq_true, List.mem_range, decide_eq_true_eq]
  constructor
  · rintro ⟨h1, h2, h3⟩
    refine ⟨h1, fun p hp q hq wp wq => ?_, fun q hq wq k hk => ?_⟩
    · rcases h2 p hp with h | h
      · rw [wp] at h; cases h
      · rcases h q hq with h | h
        · rw [wq] at h; cases h
        · exact h
    · rcases h3 q hq with h | h
      · rw [wq] at h; cases h
      · exact h k hk
  · rintro ⟨h1, h2, h3⟩
    refine ⟨h1, fun p hp => ?_, fun q hq => ?_⟩
    · cases wp : isWild p
      · right
        intro q hq
        cases wq : isWild q
        · exact .inr (h2 p hp q hq wp wq)
        · exact .inl rfl
      · exact .inl rfl
    · cases wq : isWild q
      · exact .inr (h3 q hq wq)
      · exact .inl rfl
mutual
/-- heads that may be keys, all the way down -/
def wfP (is : List Inf) : T → Prop
  | .mk k s n l => ((hdOf is (.mk k s n l)).Wf ∧ l.length ≤ 1048576) ∧ wfL is l
def wfL (is : List Inf) : List T → Prop
  | [] => True
  | t :: r => wfP is t ∧ wfL is r
end
theorem wfP_parts {is : List Inf} {p : T} (h : wfP is p) : (hdOf is p).Wf ∧ p.kids.length ≤ 1048576 ∧ wfL is p.kids := by
  obtain ⟨k, s, n, l⟩ := p
  simp only [wfP] at h
  exact ⟨h.1.1, h.1.2, h.2⟩
theorem wfL_mem {is : List Inf} : ∀ {l : List T}, wfL is l ↔ ∀ p ∈ l, wfP is p
  | [] => by simp [wfL]
  | t :: r => by
    simp only [wfL, List.mem_cons, forall_eq_or_imp]
    rw [wfL_mem (l := r)]
theorem mem_col {is : List Inf} {l : List T} {h : Hd} {k : Nat} {t : T} : t ∈ colP is l h k ↔ ∃ q ∈ l, isWild q = false ∧ hdOf is q = h ∧ q.kids[k]? = some t := by
  simp only [colP, List.mem_filterMap]
  constructor
  · rintro ⟨q, hq, h1⟩
    split at h1
    · rename_i h2
      exact ⟨q, hq, h2.1, h2.2, h1⟩
    · cases h1
  · rintro ⟨q, hq, h1, h2, h3⟩
    exact ⟨q, hq, by rw [if_pos ⟨h1, h2⟩]; exact h3⟩
theorem wfL_col {is : List Inf} {l : List T} (h : wfL is l) (hd : Hd) (k : Nat) : wfL is (colP is l hd k) := by
  refine wfL_mem.2 fun t ht => ?_
  obtain ⟨q, hq, _, _, h3⟩ := mem_col.1 ht
  exact wfL_mem.1 (wfP_parts (wfL_mem.1 h q hq)).2.2 t (List.mem_of_getElem? h3)
theorem right_wild {is : List Inf} {p : T} (hr : rightP is p = true) (hw : isWild p = true) : p.kids = [] := by
  have h := wild_kind.1 hw
  simp only [rightP] at hr
  rw [if_pos (by rcases h with h | h <;> simp [h])] at hr
  simpa using hr
/-- patterns that fit have what they must have, all the way down -/
theorem ok_of_fits {is : List Inf} : ∀ (F : Nat) (l : List T), partsL l < F → wfL is l → fitsL is l = true → okL is l
  | 0, _, h, _, _ => absurd h (Nat.not_lt_zero _)
  | F + 1, l, hF, hw, hf => by
    obtain ⟨h1, h2, h3⟩ := (fitsL_iff is l).1 hf
    refine okL_mem.2 fun p hp => ?_
    obtain ⟨w1, w2, w3⟩ := wfP_parts (wfL_mem.1 hw p hp)
    have hr := h1 p hp
    have hk : okL is p.kids := by
      cases wp : isWild p
      · refine okL_mem.2 fun t ht => ?_
        obtain ⟨k, hk⟩ := List.getElem?_of_mem ht
        have hlt := (List.getElem?_eq_some_iff.1 hk).1
        have hc := partsL_col is (hdOf is p) k l
        have hl : 0 < l.length := List.length_pos_of_mem hp
        exact okL_mem.1 (ok_of_fits F (colP is l (hdOf is p) k) (by omega) (wfL_col hw _ _) (h3 p hp wp k hlt)) t (mem_col.2 ⟨p, hp, wp, rfl, hk⟩)
      · rw [right_wild hr wp]
        trivial
    obtain ⟨k, s, n, kids⟩ := p
    simp only [okP]
    exact ⟨⟨w1, w2, hr⟩, hk⟩
/-- how the map's columns stand to the patterns that are done -/
def Rel (is : List Inf) (E : Hd → Option Ent) (l : List T) (h : Hd) : Prop :=
  (E h = none ∧ ∀ q ∈ l, isWild q = false → hdOf is q ≠ h) ∨ ∃ x q, E h = some x ∧ q ∈ l ∧ isWild q = false ∧ hdOf is q = h ∧ x.cols.map Prod.snd = (List.range q.kids.length).map (colP is l h)
theorem colP_snoc (is : List Inf) (l : List T) (p : T) (h : Hd) (k : Nat) : colP is (l ++ [p]) h k = colP is l h k ++ (if isWild p = false ∧ hdOf is p = h then p.kids[k]? else none).toList := by
  simp only [colP, List.filterMap_append, List.filterMap_cons, List.filterMap_nil]
  congr 1
theorem Rel.start (is : List Inf) (h : Hd) : Rel is (fun _ => none) [] h := .inl ⟨rfl, fun q hq => by cases hq⟩
theorem Rel.other {is : List Inf} {E : Hd → Option Ent} {l : List T} {h : Hd} {p : T} (hr : Rel is E l h) (hp : ¬ (isWild p = false ∧ hdOf is p = h)) : Rel is E (l ++ [p]) h := by
  have hc : colP is (l ++ [p]) h = colP is l h := by
    funext k
    rw [colP_snoc, if_neg hp]
    simp
  rcases hr with ⟨h1, h2⟩ | ⟨x, q, h1, h2, h3, h4, h5⟩
  · refine .inl ⟨h1, fun q hq hw he => ?_⟩
    rcases List.mem_append.1 hq with hq | hq
    · exact h2 q hq hw he
    · simp only [List.mem_singleton] at hq
      subst hq
      exact hp ⟨hw, he⟩
  · exact .inr ⟨x, q, h1, List.mem_append_left _ h2, h3, h4, by rw [hc]; exact h5⟩
theorem Rel.ext {is : List Inf} {E E' : Hd → Option Ent} {l : List T} {h : Hd} (hr : Rel is E l h) (he : E' h = E h) : Rel is E' l h := by
  simp only [Rel, he]
  exact hr
/-- within a pattern: so many of its kids are put to the columns -/
def RelI (is : List Inf) (E : Hd → Option Ent) (l : List T) (p : T) (j : Nat) : Prop :=
  (∃ x, E (hdOf is p) = some x ∧ x.cols.map Prod.snd = (List.range p.kids.length).map fun k => if k < j then colP is (l ++ [p]) (hdOf is p) k else colP is l (hdOf is p) k) ∧ ∀ h, h ≠ hdOf is p → Rel is E l h
theorem RelI.new {is : List Inf} {E : Hd → Option Ent} {l : List T} {p : T} (hr : ∀ h, Rel is E l h) (hE : E (hdOf is p) = none) (g : Nat) : RelI is (upd E (hdOf is p) ⟨g, List.replicate p.kids.length (nilS, [])⟩) l p 0 := by
  refine ⟨⟨_, upd_same _ _ _, ?_⟩, fun h hne => (hr h).ext (upd_other _ _ hne)⟩
  have h1 : ∀ k, colP is l (hdOf is p) k = [] := fun k => by
    rcases hr (hdOf is p) with ⟨_, h2⟩ | ⟨x, q, h2, _⟩
    · simp only [colP]
      rw [List.filterMap_eq_nil_iff]
      intro q hq
      rw [if_neg]
      rintro ⟨a, b⟩
      exact h2 q hq a b
    · rw [hE] at h2
      cases h2
  apply List.ext_getElem?
  intro k
  simp only [List.map_replicate, List.getElem?_replicate, List.getElem?_map, List.getElem?_range', Nat.not_lt_zero, if_false]
  by_cases hk : k < p.kids.length
  · rw [if_pos hk, List.getElem?_range hk]
    simp [h1]
  · rw [if_neg hk, List.getElem?_eq_none (by simpa using hk)]
    rfl
theorem RelI.old {is : List Inf} {E : Hd → Option Ent} {l : List T} {p : T} {x : Ent} (hr : ∀ h, Rel is E l h) (hE : E (hdOf is p) = some x) (hright : ∀ q ∈ l, rightP is q = true) (hp : rightP is p = true) : RelI is E l p 0 := by
  refine ⟨?_, fun h _ => hr h⟩
  rcases hr (hdOf is p) with ⟨h1, _⟩ | ⟨y, q, h1, h2, h3, h4, h5⟩
  · rw [hE] at h1
    cases h1
  · refine ⟨y, h1, ?_⟩
    rw [h5, kids_len (hright q h2) hp h4]
    simp
theorem RelI.len {is : List Inf} {E : Hd → Option Ent} {l : List T} {p : T} {j : Nat} {x : Ent} (hr : RelI is E l p j) (hE : E (hdOf is p) = some x) : x.cols.length = p.kids.length := by
  obtain ⟨⟨y, h1, h2⟩, _⟩ := hr
  rw [hE] at h1
  cases h1
  simpa using congrArg List.length h2
theorem RelI.at_ {is : List Inf} {E : Hd → Option Ent} {l : List T} {p : T} {j : Nat} {x : Ent} (hr : RelI is E l p j) (hE : E (hdOf is p) = some x) (hj : j < p.kids.length) : ∃ v, x.cols[j]? = some (v, colP is l (hdOf is p) j) := by
  have hlen := hr.len hE
  obtain ⟨⟨y, h1, h2⟩, _⟩ := hr
  rw [hE] at h1
  cases h1
  have h3 := congrArg (fun z : List (List T) => z[j]?) h2
  simp only [List.getElem?_map, List.getElem?_range hj, Option.map_some, Nat.lt_irrefl, if_false] at h3
  obtain ⟨c, hc, he⟩ := Option.map_eq_some_iff.1 h3
  exact ⟨c.1, by rw [hc, ← he]⟩
theorem RelI.step {is : List Inf} {E : Hd → Option Ent} {l : List T} {p : T} {j : Nat} {x : Ent} {t : T} (hr : RelI is E l p j) (hE : E (hdOf is p) = some x) (hw : isWild p = false) (ht : p.kids[j]? = some t) (v : Value) :
    RelI is (upd E (hdOf is p) ⟨x.g, x.cols.set j (v, colP is l (hdOf is p) j ++ [t])⟩) l p (j + 1) := by
  obtain ⟨⟨y, h1, h2⟩, h3⟩ := hr
  rw [hE] at h1
  cases h1
  refine ⟨⟨_, upd_same _ _ _, ?_⟩, fun h hne => (h3 h hne).ext (upd_other _ _ hne)⟩
  have hj : j < p.kids.length := (List.getElem?_eq_some_iff.1 ht).1
  have hlen : x.cols.length = p.kids.length := by simpa using congrArg List.length h2
  apply List.ext_getElem?
  intro k
  have h4 := congrArg (fun z : List (List T) => z[k]?) h2
  simp only [List.getElem?_map] at h4 ⊢
  by_cases hk : k = j
  · subst hk
    rw [List.getElem?_set_self (by omega), List.getElem?_range hj]
    simp [colP_snoc, hw, ht]
  · rw [List.getElem?_set_ne (Ne.symm hk), h4]
    by_cases hkl : k < p.kids.length
    · rw [List.getElem?_range hkl]
      simp only [Option.map_some, Option.some.injEq]
      by_cases h5 : k < j
      · rw [if_pos h5, if_pos (by omega)]
      · rw [if_neg h5, if_neg (by omega)]
    · rw [List.getElem?_eq_none (by simpa using hkl)]
      rfl
theorem RelI.done {is : List Inf} {E : Hd → Option Ent} {l : List T} {p : T} (hr : RelI is E l p p.kids.length) (hw : isWild p = false) : ∀ h, Rel is E (l ++ [p]) h := by
  obtain ⟨⟨y, h1, h2⟩, h3⟩ := hr
  intro h
  by_cases e : h = hdOf is p
  · subst e
    refine .inr ⟨y, p, h1, by simp, hw, rfl, ?_⟩
    rw [h2]
    apply List.map_congr_left
    intro k hk
    rw [if_pos (List.mem_range.1 hk)]
  · exact (h3 h e).other fun h4 => e h4.2.symm
/-- what it comes to: all columns fit -/
theorem fits_of {is : List Inf} {E : Hd → Option Ent} {l : List T} (hr : ∀ h, Rel is E l h) (hright : ∀ q ∈ l, rightP is q = true) (hs : ∀ p ∈ l, ∀ q ∈ l, isWild p = false → isWild q = false → (hdOf is p).sort = (hdOf is q).sort)
    (hall : ∀ h x, E h = some x → ∀ c ∈ x.cols, fitsL is c.2 = true) : fitsL is l = true := by
  refine (fitsL_iff is l).2 ⟨hright, hs, fun q hq wq k hk => ?_⟩
  rcases hr (hdOf is q) with ⟨_, h2⟩ | ⟨x, q', h1, h2, h3, h4, h5⟩
  · exact (h2 q hq wq rfl).elim
  · have hlen := kids_len (hright q' h2) (hright q hq) h4
    have h6 := congrArg (fun z : List (List T) => z[k]?) h5
    simp only [List.getElem?_map] at h6
    rw [List.getElem?_range (by omega)] at h6
    obtain ⟨c, hc, he⟩ := Option.map_eq_some_iff.1 h6
    rw [← he]
    exact hall _ x h1 c (List.mem_of_getElem? hc)
theorem not_fits_of {is : List Inf} {E : Hd → Option Ent} {l : List T} (hr : ∀ h, Rel is E l h) {h : Hd} {x : Ent} (hE : E h = some x) {c : Value × List T} (hc : c ∈ x.cols) (hf : fitsL is c.2 = false) : fitsL is l = false := by
  cases e : fitsL is l
  · rfl
  · obtain ⟨_, _, h3⟩ := (fitsL_iff is l).1 e
    rcases hr h with ⟨h1, _⟩ | ⟨y, q, h1, h2, h4, h5, h6⟩
    · rw [hE] at h1
      cases h1
    · rw [hE] at h1
      cases h1
      obtain ⟨k, hk⟩ := List.getElem?_of_mem hc
      have h7 := congrArg (fun z : List (List T) => z[k]?) h6
      simp only [List.getElem?_map, hk, Option.map_some] at h7
      have hkl : k < q.kids.length := by
        have h8 := congrArg List.length h6
        simp only [List.length_map, List.length_range] at h8
        have := (List.getElem?_eq_some_iff.1 hk).1
        omega
      rw [List.getElem?_range hkl] at h7
      simp only [Option.map_some, Option.some.injEq] at h7
      have := h3 q h2 h4 k hkl
      rw [h5, ← h7, hf] at this
      exact this.symm
end Go.Proofs.Ythjecikdkdjlaaa
