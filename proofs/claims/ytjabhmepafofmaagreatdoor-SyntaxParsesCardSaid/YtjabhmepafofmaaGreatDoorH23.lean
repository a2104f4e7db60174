/- To -/
import Derived.Test.YtjabhmepafofmaaGreatDoorG36
import Derived.Test.YtjabhmepafofmaaGreatDoorH22
import Derived.Laws.IdiomStrings
set_option linter.unusedVariables false
set_option linter.unusedSimpArgs false
namespace Go.Proofs.YtjabhmepafofmaaGreatDoor
open Go.RowKit
def conv14 (t : Sc.Tok) : Tok := ⟨t.kind, Sc.mk t.text, t.num, t.pos⟩
/-- the tokens of a source that has some -/
def toks (l : List UInt8) : List Tok := match Sc.scanR l with
  | .ok ts => ts.map conv14
  | .error _ => []
/-- tokens in memory of one's own -/
def OwnToks (B : Nat) (w : World) (a : Option Addr) (ts : List Tok) : Prop := ∀ (j : Nat) (t : Tok), ts[j]? = some t → ∃ b off, a = some ⟨b, off, none⟩ ∧ B ≤ b ∧ b < w.heap.size ∧ w.cell? ⟨b, off + j * 4, none⟩ = some (.int .u8 t.kind) ∧ w.cell? ⟨b, off + j * 4 + 1, none⟩ = some (.string t.text) ∧
  w.cell? ⟨b, off + j * 4 + 2, none⟩ = some (.int .i64 t.num) ∧ w.cell? ⟨b, off + j * 4 + 3, none⟩ = some (.int .i64 t.pos)
theorem OwnToks.row {B : Nat} {w : World} {a : Option Addr} {ts : List Tok} (h : OwnToks B w a ts) (gp : Nat) (hg : w.heap.size ≤ gp) : TokRow w gp a ts := fun j t hj => by
  obtain ⟨b, off, e, _, hb, h0, h1, h2, h3⟩ := h j t hj
  exact ⟨b, off, e, by omega, h0, h1, h2, h3⟩
theorem OwnToks.no {B : Nat} {w w' : World} {a : Option Addr} {ts : List Tok} (h : OwnToks B w a ts) (hf : Fr No w w') : OwnToks B w' a ts := fun j t hj => by
  obtain ⟨b, off, e, hB, hb, h0, h1, h2, h3⟩ := h j t hj
  exact ⟨b, off, e, hB, Nat.lt_of_lt_of_le hb hf.size, hf.cell h0, hf.cell h1, hf.cell h2, hf.cell h3⟩
/-- yes; what was there stays -/
def Yes (w : World) (e : Ending) (w' : World) : Prop := e = .returned (.bool true) ∧ Fr No w w'
/-- the table of levels lies where memory is used already -/
def LV (w : World) : Prop := ∀ gp, w.heap.size ≤ gp → Lev w gp
theorem LV.no {w w' : World} (h : LV w) (hf : Fr No w w') : LV w' := fun gp hg => (h gp (Nat.le_trans hf.size hg)).fr (hf.just gp)
theorem tokCells_at : ∀ (ts : List Sc.Tok) (j i : Nat) (t : Sc.Tok), ts[j]? = some t → i < 4 → (Sc.tokCells ts)[j * 4 + i]? = (Sc.tokA t)[i]?
  | [], j, i, t, h, _ => by simp at h
  | x :: r, 0, i, t, h, hi => by
    simp only [List.getElem?_cons_zero, Option.some.injEq] at h
    subst h
    simp only [Sc.tokCells, List.flatMap_cons, Nat.zero_mul, Nat.zero_add]
    rw [List.getElem?_append_left (by simp [Sc.tokA]; omega)]
    simp
  | x :: r, j + 1, i, t, h, hi => by
    have ih := tokCells_at r j i t (by simpa using h) hi
    simp only [Sc.tokCells, List.flatMap_cons] at ih ⊢
    rw [List.getElem?_append_right (by simp [Sc.tokA]; omega), ← ih]
    congr 1
    simp [Sc.tokA]
    omega
theorem own_toks {w : World} {B : Nat} {v : Value} {ts : List Sc.Tok} (h : w.ownsRow B 31 4 v ts.length (Sc.tokCells ts)) : ∃ a c, v = .slice a ts.length c ∧ OwnToks B w a (ts.map conv14) := by
  rcases h.2 with ⟨h1, h2⟩ | ⟨g, cap, cur, h1, h2, h3, h4, h5, h6, h7⟩
  · refine ⟨none, 0, by rw [h1, h2], fun j t hj => ?_⟩
    rw [List.eq_nil_of_length_eq_zero h2] at hj
    simp at hj
  · refine ⟨_, _, h1, fun j t hj => ?_⟩
    rw [List.getElem?_map] at hj
    obtain ⟨u, hu, rfl⟩ := Option.map_eq_some_iff.1 hj
    have hjl := (List.getElem?_eq_some_iff.1 hu).1
    have key : ∀ i, i < 4 → w.cell? ⟨g, 0 + j * 4 + i, none⟩ = (Sc.tokA u)[i]? := fun i hi => by
      rw [cell_of h3, ← tokCells_at ts j i u hu hi, ← h7, List.getElem?_take_of_lt (by omega), Nat.zero_add]
      simp
    exact ⟨g, 0, rfl, h2, lt_of_block h3, key 0 (by decide), key 1 (by decide), key 2 (by decide), key 3 (by decide)⟩
theorem srcAt_bytes (w : World) (l : List UInt8) (t : TypeId) (c : Nat) (z : Nat × Nat) : Sc.SrcAt (w.drew.alloc (.cells (bytesRow (Sc.mk l) c) t z)) (some ⟨w.heap.size, 0, none⟩) l := by
  intro i x hi
  refine ⟨w.heap.size, 0, rfl, ?_⟩
  have hb : (w.drew.alloc (.cells (bytesRow (Sc.mk l) c) t z)).heap[w.heap.size]? = some (.cells (bytesRow (Sc.mk l) c) t z) := new_block w.drew _
  rw [Nat.zero_add]
  simp only [World.cell?, hb]
  have hl : i < l.length := (List.getElem?_eq_some_iff.1 hi).1
  simp [bytesRow, Sc.mk, Array.getElem?_append, hl, List.getElem?_eq_getElem hl] at hi ⊢
  rw [hi]
theorem OwnToks.mono {B B' : Nat} {w : World} {a : Option Addr} {ts : List Tok} (h : OwnToks B w a ts) (hb : B' ≤ B) : OwnToks B' w a ts := fun j t hj => by
  obtain ⟨b, off, e, hB, h⟩ := h j t hj
  exact ⟨b, off, e, Nat.le_trans hb hB, h⟩
set_option maxHeartbeats 1000000 in
set_option maxRecDepth 100000 in
theorem tokens_any (l : List UInt8) (s : ByteArray) (hs : Hid (s = Sc.mk l)) (n : Nat) (hl : Hid (l.length = n)) (hn : n ≤ 1099511627776) (w : World) :
    Calls Tryz.prog 9 #[.string s] w fun e w' => Fr No w w' ∧ ∃ a c, e = .returned (.slice a (toks l).length c) ∧ OwnToks w.heap.size w' a (toks l) := by
  have hcv : ∀ u : World, (convert 9 63 (.string s)).run Tryz.prog u = .ok (.slice (some ⟨u.heap.size, 0, none⟩) n (grownCap u n 0 5)) (u.drew.alloc (.cells (bytesRow s (grownCap u n 0 5)) 5 ((bytesRow s (grownCap u n 0 5)).size, (bytesRow s (grownCap u n 0 5)).size + 1))) := fun u => by
    have := run_bytes_of_string (P := Tryz.prog) u 9 63 5 s Tryz.underlying9 Tryz.underlying63 Tryz.underlying5
    rw [show s.size = n by rw [hs.out, Sc.mk_size, hl.out]] at this
    exact this
  obtain ⟨T, hT⟩ : ∃ T, toks l = T := ⟨_, rfl⟩
  rw [hT]
  have HT := Lib.hid hT
  clear hT
  go_enter Tryz.func9, Tryz.ntmps9
  go_wp2_with fail
  obtain ⟨w1, hw1⟩ : ∃ w1, (w.alloc (.cells (bytesRow s (grownCap w n 0 5)) 5 ((bytesRow s (grownCap w n 0 5)).size, (bytesRow s (grownCap w n 0 5)).size + 1))).drew = w1 := ⟨_, rfl⟩
  have HF : Hid (Fr No w w1) := Lib.hid (by rw [← hw1]; exact (Fr.alloc _ _).then (Fr.drew _))
  have HS : Hid (Sc.SrcAt w1 (some ⟨w.heap.size, 0, none⟩) l) := Lib.hid (by rw [← hw1, hs.out]; exact srcAt_bytes _ _ _ _ _)
  rw [hw1]
  clear hw1 hcv
  refine (Sc.rscan_any l _ n _ w1 hn hl (Lib.hid (HS.out.spells n _ hl.out))).mono ?_
  intro e w2 h
  obtain ⟨hb, h⟩ := h
  have hT := HT.out
  unfold toks at hT
  have HB : Hid (Fr No w w2) := Lib.hid (HF.out.then (Fr.ofBelow hb))
  cases hR : Sc.scanR l with
  | error p =>
    rw [hR] at h hT
    simp only at h hT
    subst h hT
    clear hb hR HT
    go_wp2_with fail
    go_ret
    exact ⟨HB.out, none, 0, rfl, fun j t hj => by simp at hj⟩
  | ok ts =>
    rw [hR] at h hT
    simp only at hT
    subst hT
    obtain ⟨v, rfl, hown⟩ := h
    obtain ⟨a, c, rfl, hO⟩ := own_toks hown
    have HO := Lib.hid (hO.mono HF.out.size)
    obtain ⟨m, hm⟩ : ∃ m, ts.length = m := ⟨_, rfl⟩
    have HM := Lib.hid hm
    rw [hm]
    clear hb hR hown hO hm HT
    go_wp2_with fail
    go_ret
    exact ⟨HB.out, a, c, by rw [List.length_map, HM.out]; rfl, HO.out⟩
end Go.Proofs.YtjabhmepafofmaaGreatDoor
