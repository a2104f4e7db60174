/- SyntaxJoins: tokens of one's own whose places are turned. -/
import Derived.Test.YtjabhmepafofmaaDoorG24
import Derived.Test.YtjabhmepafofmaaDoorLJp
set_option linter.unusedVariables false
set_option linter.unusedSimpArgs false
namespace Go.Proofs.YtjabhmepafofmaaDoor
open Go.RowKit

/-- tokens in a block -/
def TB (w : World) (g : Nat) (l : List Tok) : Prop := ∃ (cur : Array Value), w.heap[g]? = some (.cells cur 49 (0, 0)) ∧ ∀ (j : Nat) (t : Tok), l[j]? = some t → ∀ i, i < 4 → cur[j * 4 + i]? = (tokL t)[i]?
theorem TB.tokAt {w : World} {g : Nat} {l : List Tok} (h : TB w g l) : TokAt w (some ⟨g, 0, none⟩) l := fun j t hj => by
  obtain ⟨cur, hb, hc⟩ := h
  have key : ∀ i, i < 4 → w.cell? ⟨g, 0 + j * 4 + i, none⟩ = (tokL t)[i]? := fun i hi => by
    rw [cell_of hb, ← hc j t hj i hi, Nat.zero_add]
  exact ⟨g, 0, rfl, lt_of_block hb, key 0 (by decide), key 1 (by decide), key 2 (by decide), key 3 (by decide)⟩
theorem Held.tb {w : World} {B : Nat} {v : Value} {l : List Tok} (h : Held w B v l) (hl : l ≠ []) : ∃ g c, v = .slice (some ⟨g, 0, none⟩) l.length c ∧ B ≤ g ∧ TB w g l := by
  rcases h.2 with ⟨h1, h2⟩ | ⟨g, cap, cur, h1, h2, h3, h4, h5, h6, h7⟩
  · exact absurd (List.eq_nil_of_length_eq_zero h2) hl
  · refine ⟨g, _, h1, h2, cur, h3, fun j u hu i hi => ?_⟩
    have hjl := (List.getElem?_eq_some_iff.1 hu).1
    rw [← tcells_at l j i u hu hi, ← h7, List.getElem?_take_of_lt (by omega)]
    simp
theorem TB.frozen {w : World} {g : Nat} {l : List Tok} (h : TB w g l) (i : Nat) : w.frozen? ⟨g, i, none⟩ = false := by
  obtain ⟨cur, hb, _⟩ := h
  simp [World.frozen?, hb]
/-- one place turned -/
theorem TB.set {w : World} {g : Nat} {l : List Tok} (h : TB w g l) {j : Nat} {t : Tok} (hj : l[j]? = some t) (p : Int) : TB (w.setCell ⟨g, j * 4 + 3, none⟩ (.int .i64 p)) g (l.set j (at0 p t)) := by
  obtain ⟨cur, hb, hc⟩ := h
  refine ⟨_, block_setCell hb _ _, fun i u hi m hm => ?_⟩
  have h3 := hc j t hj 3 (by decide)
  have hlt : j * 4 + 3 < cur.size := by
    have h4 : (tokL t)[3]? = some (.int .i64 t.pos) := rfl
    rw [h4] at h3
    exact (Array.getElem?_eq_some_iff.1 h3).1
  rw [Array.getElem?_setIfInBounds]
  rw [List.getElem?_set] at hi
  by_cases e : j = i
  · subst e
    rw [if_pos rfl, if_pos (List.getElem?_eq_some_iff.1 hj).1] at hi
    cases hi
    by_cases em : m = 3
    · subst em
      rw [if_pos rfl, if_pos hlt]
      rfl
    · rw [if_neg (by omega), hc j t hj m hm]
      have : m = 0 ∨ m = 1 ∨ m = 2 := by omega
      rcases this with rfl | rfl | rfl <;> rfl
  · rw [if_neg e] at hi
    rw [if_neg (by omega)]
    exact hc i u hi m hm
/-- a token that stands so much further on -/
def mv (y : Int) (t : Tok) : Tok := at0 (wrap64 (t.pos + y)) t
/-- the first ones turned -/
def mvUp (y : Int) (q : Nat) (l : List Tok) : List Tok := (l.take q).map (mv y) ++ l.drop q
theorem mvUp_zero (y : Int) (l : List Tok) : mvUp y 0 l = l := by simp [mvUp]
theorem mvUp_all (y : Int) (l : List Tok) : mvUp y l.length l = l.map (mv y) := by simp [mvUp]
theorem mvUp_at {y : Int} {q : Nat} {l : List Tok} {t : Tok} (h : l[q]? = some t) : (mvUp y q l)[q]? = some t := by
  have hq := (List.getElem?_eq_some_iff.1 h).1
  have hl : ((l.take q).map (mv y)).length = q := by simp; omega
  rw [mvUp, List.getElem?_append_right (by omega), hl, Nat.sub_self, List.getElem?_drop, Nat.add_zero, h]
theorem mvUp_succ {y : Int} {q : Nat} {l : List Tok} {t : Tok} (h : l[q]? = some t) : mvUp y (q + 1) l = (mvUp y q l).set q (at0 (wrap64 (t.pos + y)) t) := by
  obtain ⟨hq, e⟩ := List.getElem?_eq_some_iff.1 h
  have hl : ((l.take q).map (mv y)).length = q := by simp; omega
  rw [mvUp, mvUp, List.set_append_right _ _ (by omega), hl, Nat.sub_self, List.drop_eq_getElem_cons hq, List.set_cons_zero, List.take_succ_eq_append_getElem hq, List.map_append, List.append_assoc]
  rw [e]
  rfl
theorem mvUp_len (y : Int) (q : Nat) (l : List Tok) : (mvUp y q l).length = l.length := by
  simp [mvUp]
  omega
theorem map_mv_at (y : Int) (l : List Tok) (i : Nat) : ∃ p, (l.map (mv y)).getD i zTok = at0 p (l.getD i zTok) := by
  rw [List.getD_eq_getElem?_getD, List.getD_eq_getElem?_getD, List.getElem?_map]
  cases l[i]? with
  | none => exact ⟨0, rfl⟩
  | some t => exact ⟨_, rfl⟩
end Go.Proofs.YtjabhmepafofmaaDoor
