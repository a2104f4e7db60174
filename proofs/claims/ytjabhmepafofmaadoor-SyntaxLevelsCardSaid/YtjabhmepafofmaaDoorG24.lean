/- The tokens of a source. -/
import Derived.Test.YtjabhmepafofmaaDoorG23
import Derived.Test.YtjabhmepafofmaaDoorG20
import Derived.Laws.IdiomStrings
import Derived.Test.YtjabhmepafofmaaDoorG02
import Derived.Laws.AppendOwn
import Derived.Laws.AppendOwnNone
import Derived.Test.YtjabhmepafofmaaDoorG19
import Derived.Test.YtjabhmepafofmaaDoorG16
set_option linter.unusedVariables false
set_option linter.unusedSimpArgs false
namespace Go.Proofs.YtjabhmepafofmaaDoor
open Go.RowKit

def conv14 (t : Sc.Tok) : Tok := ⟨t.kind, Sc.mk t.text, t.num, t.pos⟩
/-- the tokens of a source that has some -/
def toks (l : List UInt8) : List Tok := match Sc.scanR l with
  | .ok ts => ts.map conv14
  | .error _ => []
/-- tokens in memory of one's own -/
def OwnToks (B : Nat) (w : World) (a : Option Addr) (ts : List Tok) : Prop := ∀ (j : Nat) (t : Tok), ts[j]? = some t → ∃ b off, a = some ⟨b, off, none⟩ ∧ B ≤ b ∧ b < w.heap.size ∧ w.cell? ⟨b, off + j * 4, none⟩ = some (.int .u8 t.kind) ∧ w.cell? ⟨b, off + j * 4 + 1, none⟩ = some (.string t.text) ∧
  w.cell? ⟨b, off + j * 4 + 2, none⟩ = some (.int .i64 t.num) ∧ w.cell? ⟨b, off + j * 4 + 3, none⟩ = some (.int .i64 t.pos)
theorem OwnToks.row {B : Nat} {w : World} {a : Option Addr} {ts : List Tok} (h : OwnToks B w a ts) (gp : Nat) (hg : w.heap.size ≤ gp) : TokRow w gp a ts := fun j t hj => by
  obtain ⟨b, off, e, _, hb, h0, h1, h2, h3⟩ := h j t hj
  exact ⟨b, off, e, by omega, h0, h1, h2, h3⟩
theorem OwnToks.no {B : Nat} {w w' : World} {a : Option Addr} {ts : List Tok} (h : OwnToks B w a ts) (hf : Fr No w w') : OwnToks B w' a ts := fun j t hj => by
  obtain ⟨b, off, e, hB, hb, h0, h1, h2, h3⟩ := h j t hj
  exact ⟨b, off, e, hB, Nat.lt_of_lt_of_le hb hf.size, hf.cell h0, hf.cell h1, hf.cell h2, hf.cell h3⟩
/-- yes; what was there stays -/
def Yes (w : World) (e : Ending) (w' : World) : Prop := e = .returned (.bool true) ∧ Fr No w w'
/-- the table of levels lies where memory is used already -/
def LV (w : World) : Prop := ∀ gp, w.heap.size ≤ gp → Lev w gp
theorem LV.no {w w' : World} (h : LV w) (hf : Fr No w w') : LV w' := fun gp hg => (h gp (Nat.le_trans hf.size hg)).fr (hf.just gp)
theorem tokCells_at : ∀ (ts : List Sc.Tok) (j i : Nat) (t : Sc.Tok), ts[j]? = some t → i < 4 → (Sc.tokCells ts)[j * 4 + i]? = (Sc.tokA t)[i]?
  | [], j, i, t, h, _ => by simp at h
  | x :: r, 0, i, t, h, hi => by
    simp only [List.getElem?_cons_zero, Option.some.injEq] at h
    subst h
    simp only [Sc.tokCells, List.flatMap_cons, Nat.zero_mul, Nat.zero_add]
    rw [List.getElem?_append_left (by simp [Sc.tokA]; omega)]
    simp
  | x :: r, j + 1, i, t, h, hi => by
    have ih := tokCells_at r j i t (by simpa using h) hi
    simp only [Sc.tokCells, List.flatMap_cons] at ih ⊢
    rw [List.getElem?_append_right (by simp [Sc.tokA]; omega), ← ih]
    congr 1
    simp [Sc.tokA]
    omega
theorem own_toks {w : World} {B : Nat} {v : Value} {ts : List Sc.Tok} (h : w.ownsRow B 49 4 v ts.length (Sc.tokCells ts)) : ∃ a c, v = .slice a ts.length c ∧ OwnToks B w a (ts.map conv14) := by
  rcases h.2 with ⟨h1, h2⟩ | ⟨g, cap, cur, h1, h2, h3, h4, h5, h6, h7⟩
  · refine ⟨none, 0, by rw [h1, h2], fun j t hj => ?_⟩
    rw [List.eq_nil_of_length_eq_zero h2] at hj
    simp at hj
  · refine ⟨_, _, h1, fun j t hj => ?_⟩
    rw [List.getElem?_map] at hj
    obtain ⟨u, hu, rfl⟩ := Option.map_eq_some_iff.1 hj
    have hjl := (List.getElem?_eq_some_iff.1 hu).1
    have key : ∀ i, i < 4 → w.cell? ⟨g, 0 + j * 4 + i, none⟩ = (Sc.tokA u)[i]? := fun i hi => by
      rw [cell_of h3, ← tokCells_at ts j i u hu hi, ← h7, List.getElem?_take_of_lt (by omega), Nat.zero_add]
      simp
    exact ⟨g, 0, rfl, h2, lt_of_block h3, key 0 (by decide), key 1 (by decide), key 2 (by decide), key 3 (by decide)⟩
theorem srcAt_bytes (w : World) (l : List UInt8) (t : TypeId) (c : Nat) (z : Nat × Nat) : Sc.SrcAt (w.drew.alloc (.cells (bytesRow (Sc.mk l) c) t z)) (some ⟨w.heap.size, 0, none⟩) l := by
  intro i x hi
  refine ⟨w.heap.size, 0, rfl, ?_⟩
  have hb : (w.drew.alloc (.cells (bytesRow (Sc.mk l) c) t z)).heap[w.heap.size]? = some (.cells (bytesRow (Sc.mk l) c) t z) := new_block w.drew _
  rw [Nat.zero_add]
  simp only [World.cell?, hb]
  have hl : i < l.length := (List.getElem?_eq_some_iff.1 hi).1
  simp [bytesRow, Sc.mk, Array.getElem?_append, hl, List.getElem?_eq_getElem hl] at hi ⊢
  rw [hi]
theorem OwnToks.mono {B B' : Nat} {w : World} {a : Option Addr} {ts : List Tok} (h : OwnToks B w a ts) (hb : B' ≤ B) : OwnToks B' w a ts := fun j t hj => by
  obtain ⟨b, off, e, hB, h⟩ := h j t hj
  exact ⟨b, off, e, Nat.le_trans hb hB, h⟩
set_option maxHeartbeats 1000000 in
set_option maxRecDepth 100000 in
theorem tokens_any (l : List UInt8) (s : ByteArray) (hs : Hid (s = Sc.mk l)) (n : Nat) (hl : Hid (l.length = n)) (hn : n ≤ 1099511627776) (w : World) :
    Calls Tryd.prog 10 #[.string s] w fun e w' => Fr No w w' ∧ ∃ a c, e = .returned (.slice a (toks l).length c) ∧ OwnToks w.heap.size w' a (toks l) := by
  have hcv : ∀ u : World, (convert 9 52 (.string s)).run Tryd.prog u = .ok (.slice (some ⟨u.heap.size, 0, none⟩) n (grownCap u n 0 5)) (u.drew.alloc (.cells (bytesRow s (grownCap u n 0 5)) 5 ((bytesRow s (grownCap u n 0 5)).size, (bytesRow s (grownCap u n 0 5)).size + 1))) := fun u => by
    have := run_bytes_of_string (P := Tryd.prog) u 9 52 5 s Tryd.underlying9 Tryd.underlying52 Tryd.underlying5
    rw [show s.size = n by rw [hs.out, Sc.mk_size, hl.out]] at this
    exact this
  obtain ⟨T, hT⟩ : ∃ T, toks l = T := ⟨_, rfl⟩
  rw [hT]
  have HT := Lib.hid hT
  clear hT
  go_enter Tryd.func10, Tryd.ntmps10
  go_wp2_with fail
  obtain ⟨w1, hw1⟩ : ∃ w1, (w.alloc (.cells (bytesRow s (grownCap w n 0 5)) 5 ((bytesRow s (grownCap w n 0 5)).size, (bytesRow s (grownCap w n 0 5)).size + 1))).drew = w1 := ⟨_, rfl⟩
  have HF : Hid (Fr No w w1) := Lib.hid (by rw [← hw1]; exact (Fr.alloc _ _).then (Fr.drew _))
  have HS : Hid (Sc.SrcAt w1 (some ⟨w.heap.size, 0, none⟩) l) := Lib.hid (by rw [← hw1, hs.out]; exact srcAt_bytes _ _ _ _ _)
  rw [hw1]
  clear hw1 hcv
  refine (Sc.rscan_any l _ n _ w1 hn hl (Lib.hid (HS.out.spells n _ hl.out))).mono ?_
  intro e w2 h
  obtain ⟨hb, h⟩ := h
  have hT := HT.out
  unfold toks at hT
  have HB : Hid (Fr No w w2) := Lib.hid (HF.out.then (Fr.ofBelow hb))
  cases hR : Sc.scanR l with
  | error p =>
    rw [hR] at h hT
    simp only at h hT
    subst h hT
    clear hb hR HT
    go_wp2_with fail
    go_ret
    exact ⟨HB.out, none, 0, rfl, fun j t hj => by simp at hj⟩
  | ok ts =>
    rw [hR] at h hT
    simp only at hT
    subst hT
    obtain ⟨v, rfl, hown⟩ := h
    obtain ⟨a, c, rfl, hO⟩ := own_toks hown
    have HO := Lib.hid (hO.mono HF.out.size)
    obtain ⟨m, hm⟩ : ∃ m, ts.length = m := ⟨_, rfl⟩
    have HM := Lib.hid hm
    rw [hm]
    clear hb hR hown hO hm HT
    go_wp2_with fail
    go_ret
    exact ⟨HB.out, a, c, by rw [List.length_map, HM.out]; rfl, HO.out⟩
end Go.Proofs.YtjabhmepafofmaaDoor
namespace Go.Proofs.YtjabhmepafofmaaDoor
open Go.RowKit

def src1 : List UInt8 := [118, 97, 108, 32, 120, 32, 61, 32, 49, 32, 45, 32, 50, 32, 45, 32, 102, 32, 33, 120, 59, 32, 100, 111, 32, 40, 120, 59, 32, 40, 41, 41, 59]
def src2 : List UInt8 := [100, 111, 32, 49, 32, 60, 32, 50, 32, 60, 32, 51, 59]
def wT1 : List Tok := [⟨6, ⟨#[118, 97, 108]⟩, 0, 0⟩, ⟨1, ⟨#[120]⟩, 0, 4⟩, ⟨7, ⟨#[61]⟩, 0, 6⟩, ⟨4, ⟨#[]⟩, 1, 8⟩, ⟨7, ⟨#[45]⟩, 0, 10⟩, ⟨4, ⟨#[]⟩, 2, 12⟩, ⟨7, ⟨#[45]⟩, 0, 14⟩, ⟨1, ⟨#[102]⟩, 0, 16⟩, ⟨7, ⟨#[33]⟩, 0, 18⟩, ⟨1, ⟨#[120]⟩, 0, 19⟩, ⟨7, ⟨#[59]⟩, 0, 20⟩, ⟨6, ⟨#[100, 111]⟩, 0, 22⟩, ⟨7, ⟨#[40]⟩, 0, 25⟩, ⟨1, ⟨#[120]⟩, 0, 26⟩, ⟨7, ⟨#[59]⟩, 0, 27⟩, ⟨7, ⟨#[40]⟩, 0, 29⟩, ⟨7, ⟨#[41]⟩, 0, 30⟩, ⟨7, ⟨#[41]⟩, 0, 31⟩, ⟨7, ⟨#[59]⟩, 0, 32⟩]
def wT2 : List Tok := [⟨6, ⟨#[100, 111]⟩, 0, 0⟩, ⟨4, ⟨#[]⟩, 1, 3⟩, ⟨7, ⟨#[60]⟩, 0, 5⟩, ⟨4, ⟨#[]⟩, 2, 7⟩, ⟨7, ⟨#[60]⟩, 0, 9⟩, ⟨4, ⟨#[]⟩, 3, 11⟩, ⟨7, ⟨#[59]⟩, 0, 12⟩]
def wE0 : E := (.mk 15 ⟨#[45]⟩ 0 ⟨#[]⟩ [(.mk 3 ⟨#[]⟩ 1 ⟨#[]⟩ [] [] []), (.mk 3 ⟨#[]⟩ 2 ⟨#[]⟩ [] [] [])] [] [])
def wE1 : E := (.mk 8 ⟨#[]⟩ 0 ⟨#[]⟩ [(.mk 1 ⟨#[102]⟩ 0 ⟨#[]⟩ [] [] []), (.mk 15 ⟨#[33]⟩ 0 ⟨#[]⟩ [(.mk 1 ⟨#[120]⟩ 0 ⟨#[]⟩ [] [] [])] [] [])] [] [])
def wE3 : E := (.mk 14 ⟨#[]⟩ 0 ⟨#[]⟩ [(.mk 1 ⟨#[120]⟩ 0 ⟨#[]⟩ [] [] []), (.mk 5 ⟨#[]⟩ 0 ⟨#[]⟩ [] [] [])] [] [])
def wD1 : D := .mk 3 ⟨#[120]⟩ [] [] [] (.mk 0 ⟨#[]⟩ 0 []) (.mk 15 ⟨#[45]⟩ 0 ⟨#[]⟩ [wE0, wE1] [] [])
def wD2 : D := .mk 6 ⟨#[]⟩ [] [] [] (.mk 0 ⟨#[]⟩ 0 []) wE3
theorem toks1 : toks src1 = wT1 := by kernel_rfl
theorem toks2 : toks src2 = wT2 := by kernel_rfl
theorem parse1 : progR wT1 (gram 30) 4 [] 0 = .ok [wD1, wD2] 19 := by kernel_rfl
theorem parse2 : progR wT2 (gram 30) 4 [] 0 = .fail 4 := by kernel_rfl
theorem depth1 : dProg [wD1, wD2] = 5 := by kernel_rfl
set_option maxHeartbeats 4000000 in
set_option maxRecDepth 100000 in
theorem works_any (w : World) (hl : LV w) : Calls Tryd.prog 11 #[] w (Yes w) := by
 have HL := Lib.hid hl
 have H1 : Hid (∀ s : ByteArray, s = Sc.mk src1 → ∀ w, Calls Tryd.prog 10 #[.string s] w fun e w' => Fr No w w' ∧ ∃ a c, e = .returned (.slice a wT1.length c) ∧ OwnToks w.heap.size w' a wT1) := Lib.hid (fun s hs w => by rw [← toks1]; exact tokens_any src1 s (Lib.hid hs) _ (Lib.hid rfl) (by decide) w)
 have H2 : Hid (∀ s : ByteArray, s = Sc.mk src2 → ∀ w, Calls Tryd.prog 10 #[.string s] w fun e w' => Fr No w w' ∧ ∃ a c, e = .returned (.slice a wT2.length c) ∧ OwnToks w.heap.size w' a wT2) := Lib.hid (fun s hs w => by rw [← toks2]; exact tokens_any src2 s (Lib.hid hs) _ (Lib.hid rfl) (by decide) w)
 have P1 : Hid (∀ (a : Option Addr) (c B : Nat) (u : World), LV u → OwnToks B u a wT1 → Calls Tryd.prog 9 #[.slice a wT1.length c] u (ParseR u (.ok [wD1, wD2] 19))) := Lib.hid (fun a c B u hu ho => by rw [← parse1]; exact parse_any 30 4 (fun gp hg => ⟨ho.row gp hg, hu gp hg⟩) (by decide) (by rw [parse1]; exact fun e => by cases e))
 have P2 : Hid (∀ (a : Option Addr) (c B : Nat) (u : World), LV u → OwnToks B u a wT2 → Calls Tryd.prog 9 #[.slice a wT2.length c] u (ParseR u (.fail 4))) := Lib.hid (fun a c B u hu ho => by rw [← parse2]; exact parse_any 30 4 (fun gp hg => ⟨ho.row gp hg, hu gp hg⟩) (by decide) (by rw [parse2]; exact fun e => by cases e))
 generalize wT1.length = n1 at H1 P1
 generalize wT2.length = n2 at H2 P2
 clear hl
 go_enter Tryd.func11, Tryd.ntmps11
 go_wp2_with fail
 refine (H1.out _ rfl _).mono ?_
 rintro e w1 ⟨hf, a1, c1, rfl, ho⟩
 have HF1 := Lib.hid hf
 have HO1 := Lib.hid ho
 clear hf ho
 go_wp2_with fail
 refine (P1.out a1 c1 _ w1 (HL.out.no HF1.out) HO1.out).mono ?_
 intro e w2 h
 simp only [ParseR] at h
 obtain ⟨hf, h⟩ := h
 rw [depth1, if_neg (by decide)] at h
 obtain ⟨v, rfl, hx⟩ := h
 obtain ⟨av, cv, rfl⟩ := hx_slice hx
 have hx : Hx (fun b => w1.heap.size ≤ b) w2 (.row 16 [xD wD1, xD wD2]) (.slice av 2 cv) := hx
 have HX := Lib.hid hx
 have HF2 : Hid (Fr No w w2) := Lib.hid (HF1.out.then hf)
 simp only [List.map_cons, List.map_nil, List.length_cons, List.length_nil, Nat.reduceAdd, Nat.zero_add]
 clear hf hx
 go_wp2_with fail
 refine (H2.out _ rfl _).mono ?_
 rintro e w3 ⟨hf, a2, c2, rfl, ho⟩
 have HF3 : Hid (Fr No w2 w3) := Lib.hid hf
 have HO3 := Lib.hid ho
 clear hf ho
 go_wp2_with fail
 refine (P2.out a2 c2 _ w3 (HL.out.no (HF2.out.then HF3.out)) HO3.out).mono ?_
 intro e w4 h
 simp only [ParseR] at h
 obtain ⟨rfl, hf⟩ := h
 have HF4 : Hid (Fr No w2 w4) := Lib.hid (HF3.out.then hf)
 clear hf
 go_wp2_with fail
 refine (depth_any (l := [wD1, wD2]) (HX.out.no HF4.out)).mono ?_
 rw [depth1]
 rintro e w5 ⟨rfl, hf⟩
 have HF5 : Hid (Fr No w2 w5) := Lib.hid (HF4.out.then hf)
 clear hf
 obtain ⟨g, off, cc, eav, _, hl1, hc1, hx1⟩ := hx_at HX.out (j := 0) rfl
 subst eav
 obtain ⟨_, _, _, _, _, _, ct, ce, rfl, _, _, _, hct, hce⟩ := hcD_parts hx1
 obtain ⟨k, s, n, b, m, cp, rfl⟩ := hcT hct
 obtain ⟨b1, q1, b2, q2, b3, q3, rfl, hk, _, _⟩ := hcE_parts hce
 have hk : Hx (fun b => w1.heap.size ≤ b) w2 (.row 7 [xE wE0, xE wE1]) (.slice b1 2 q1) := hk
 have HS : Hid (∀ u, Fr No w2 u → u.cell? ⟨g, off + 9, none⟩ = some (.int .u8 15) ∧ u.cell? ⟨g, off + 9 + 1, none⟩ = some (.string ⟨#[45]⟩) ∧ u.cell? ⟨g, off + 9 + 2, none⟩ = some (.int .i64 0) ∧ u.cell? ⟨g, off + 9 + 3, none⟩ = some (.string ⟨#[]⟩) ∧ u.cell? ⟨g, off + 9 + 4, none⟩ = some (.slice b1 2 q1) ∧ u.cell? ⟨g, off + 9 + 5, none⟩ = some (.slice b2 0 q2) ∧ u.cell? ⟨g, off + 9 + 6, none⟩ = some (.slice b3 0 q3)) := Lib.hid (fun u hf => ⟨hf.cell (by have h := hc1 9 _ rfl; rw [show off + 0 * 16 + 9 = off + 9 by omega] at h; exact h), hf.cell (by have h := hc1 10 _ rfl; rw [show off + 0 * 16 + 10 = off + 9 + 1 by omega] at h; exact h), hf.cell (by have h := hc1 11 _ rfl; rw [show off + 0 * 16 + 11 = off + 9 + 2 by omega] at h; exact h), hf.cell (by have h := hc1 12 _ rfl; rw [show off + 0 * 16 + 12 = off + 9 + 3 by omega] at h; exact h), hf.cell (by have h := hc1 13 _ rfl; rw [show off + 0 * 16 + 13 = off + 9 + 4 by omega] at h; exact h), hf.cell (by have h := hc1 14 _ rfl; rw [show off + 0 * 16 + 14 = off + 9 + 5 by omega] at h; exact h), hf.cell (by have h := hc1 15 _ rfl; rw [show off + 0 * 16 + 15 = off + 9 + 6 by omega] at h; exact h)⟩)
 obtain ⟨g1, off1, cc1, eb1, _, _, hk0, hx0⟩ := hx_at hk (j := 0) rfl
 subst eb1
 obtain ⟨g2, off2, cc2, eb2, _, _, hk1, hx2⟩ := hx_at hk (j := 1) rfl
 simp only [Option.some.injEq, Addr.mk.injEq, and_true] at eb2
 obtain ⟨rfl, rfl⟩ := eb2
 obtain ⟨_, _, _, _, _, _, rfl, _, _, _⟩ := hcE_parts hx0
 obtain ⟨_, _, _, _, _, _, rfl, _, _, _⟩ := hcE_parts hx2
 obtain ⟨g3, off3, cc3, eb3, _, _, hc2, hx3⟩ := hx_at HX.out (j := 1) rfl
 simp only [Option.some.injEq, Addr.mk.injEq, and_true] at eb3
 obtain ⟨rfl, rfl⟩ := eb3
 obtain ⟨_, _, _, _, _, _, ct3, ce3, rfl, _, _, _, hct3, hce3⟩ := hcD_parts hx3
 obtain ⟨k3, s3, n3, b3', m3, cp3, rfl⟩ := hcT hct3
 obtain ⟨_, _, _, _, _, _, rfl, _, _, _⟩ := hcE_parts hce3
 have HT : Hid (∀ u, Fr No w2 u → u.cell? ⟨g1, off1, none⟩ = some (.int .u8 15) ∧ u.cell? ⟨g1, off1 + 7, none⟩ = some (.int .u8 8) ∧ u.cell? ⟨g, off + 16 + 9, none⟩ = some (.int .u8 14)) := Lib.hid (fun u hf => ⟨hf.cell (by have h := hk0 0 _ rfl; rw [show off1 + 0 * 7 + 0 = off1 by omega] at h; exact h),
  hf.cell (by have h := hk1 0 _ rfl; rw [show off1 + 1 * 7 + 0 = off1 + 7 by omega] at h; exact h), hf.cell (by have h := hc2 9 _ rfl; rw [show off + 1 * 16 + 9 = off + 16 + 9 by omega] at h; exact h)⟩)
 clear hx0 hx2 hx3 hk hc1 hx1 hct hce hk0 hk1 hc2 hct3 hce3 hl1
 obtain ⟨d0, d1, d2, d3, d4, d5, d6⟩ := HS.out w5 HF5.out
 go_upto_region 6 with fail
 clear d0 d1 d2 d3 d4 d5 d6
 obtain ⟨w6, hw6⟩ : ∃ w6, w5.alloc (.cells #[.int .u8 15, .string ⟨#[45]⟩, .int .i64 0, .string ⟨#[]⟩, .slice (some ⟨g1, off1, none⟩) 2 q1, .slice b2 0 q2, .slice b3 0 q3] 32) = w6 := ⟨_, rfl⟩
 obtain ⟨g7, hg7⟩ : ∃ g7, w5.heap.size = g7 := ⟨_, rfl⟩
 have hb : w6.heap[g7]? = some (.cells #[.int .u8 15, .string ⟨#[45]⟩, .int .i64 0, .string ⟨#[]⟩, .slice (some ⟨g1, off1, none⟩) 2 q1, .slice b2 0 q2, .slice b3 0 q3] 32 (0, 0)) := by rw [← hw6, ← hg7]; exact new_block _ _
 have HF6 : Hid (Fr No w2 w6) := Lib.hid (by rw [← hw6]; exact HF5.out.then (Fr.alloc _ _))
 rw [hw6, hg7]
 clear hw6 hg7
 obtain ⟨e0, e1, e2⟩ := HT.out w6 HF6.out
 obtain ⟨x0, x1, x2, x3, x4, x5, x6⟩ : w6.cell? ⟨g7, 0, none⟩ = some (.int .u8 15) ∧ w6.cell? ⟨g7, 1, none⟩ = some (.string ⟨#[45]⟩) ∧ w6.cell? ⟨g7, 2, none⟩ = some (.int .i64 0) ∧ w6.cell? ⟨g7, 3, none⟩ = some (.string ⟨#[]⟩) ∧ w6.cell? ⟨g7, 4, none⟩ = some (.slice (some ⟨g1, off1, none⟩) 2 q1) ∧ w6.cell? ⟨g7, 5, none⟩ = some (.slice b2 0 q2) ∧ w6.cell? ⟨g7, 6, none⟩ = some (.slice b3 0 q3) := ⟨cell_of hb 0, cell_of hb 1, cell_of hb 2, cell_of hb 3, cell_of hb 4, cell_of hb 5, cell_of hb 6⟩
 clear hb
 go_wp2_with fail
 go_ret
 exact ⟨rfl, HF2.out.then HF6.out⟩
end Go.Proofs.YtjabhmepafofmaaDoor
namespace Go.Proofs.YtjabhmepafofmaaDoor
open Go.RowKit

def tokL (t : Tok) : List Value := [.int .u8 t.kind, .string t.text, .int .i64 t.num, .int .i64 t.pos]
def tcells (l : List Tok) : List Value := l.flatMap tokL
/-- tokens in memory -/
def TokAt (w : World) (a : Option Addr) (ts : List Tok) : Prop := ∀ (j : Nat) (t : Tok), ts[j]? = some t → ∃ b off, a = some ⟨b, off, none⟩ ∧ b < w.heap.size ∧ w.cell? ⟨b, off + j * 4, none⟩ = some (.int .u8 t.kind) ∧ w.cell? ⟨b, off + j * 4 + 1, none⟩ = some (.string t.text) ∧
  w.cell? ⟨b, off + j * 4 + 2, none⟩ = some (.int .i64 t.num) ∧ w.cell? ⟨b, off + j * 4 + 3, none⟩ = some (.int .i64 t.pos)
theorem TokAt.row {w : World} {a : Option Addr} {ts : List Tok} (h : TokAt w a ts) (gp : Nat) (hg : w.heap.size ≤ gp) : TokRow w gp a ts := fun j t hj => by
  obtain ⟨b, off, e, hb, h0, h1, h2, h3⟩ := h j t hj
  exact ⟨b, off, e, by omega, h0, h1, h2, h3⟩
theorem TokAt.no {w w' : World} {a : Option Addr} {ts : List Tok} (h : TokAt w a ts) (hf : Fr No w w') : TokAt w' a ts := fun j t hj => by
  obtain ⟨b, off, e, hb, h0, h1, h2, h3⟩ := h j t hj
  exact ⟨b, off, e, Nat.lt_of_lt_of_le hb hf.size, hf.cell h0, hf.cell h1, hf.cell h2, hf.cell h3⟩
theorem TokAt.take {w : World} {a : Option Addr} {ts : List Tok} (h : TokAt w a ts) (n : Nat) : TokAt w a (ts.take n) := fun j t hj => h j t (by
  rw [List.getElem?_take] at hj
  split at hj
  · exact hj
  · cases hj)
theorem OwnToks.at_ {B : Nat} {w : World} {a : Option Addr} {ts : List Tok} (h : OwnToks B w a ts) : TokAt w a ts := fun j t hj => by
  obtain ⟨b, off, e, _, h⟩ := h j t hj
  exact ⟨b, off, e, h⟩
theorem tcells_len (l : List Tok) : (tcells l).length = l.length * 4 := by
  induction l with
  | nil => rfl
  | cons t r ih =>
    simp only [tcells, List.flatMap_cons, List.length_append, List.length_cons] at ih ⊢
    rw [ih]
    simp [tokL]
    omega
theorem tcells_append (l m : List Tok) : tcells (l ++ m) = tcells l ++ tcells m := by simp [tcells]
theorem tcells_at : ∀ (ts : List Tok) (j i : Nat) (t : Tok), ts[j]? = some t → i < 4 → (tcells ts)[j * 4 + i]? = (tokL t)[i]?
  | [], j, i, t, h, _ => by simp at h
  | x :: r, 0, i, t, h, hi => by
    simp only [List.getElem?_cons_zero, Option.some.injEq] at h
    subst h
    simp only [tcells, List.flatMap_cons, Nat.zero_mul, Nat.zero_add]
    rw [List.getElem?_append_left (by simp [tokL]; omega)]
  | x :: r, j + 1, i, t, h, hi => by
    have ih := tcells_at r j i t (by simpa using h) hi
    simp only [tcells, List.flatMap_cons] at ih ⊢
    rw [List.getElem?_append_right (by simp [tokL]; omega), ← ih]
    congr 1
    simp [tokL]
    omega
theorem TokAt.cells {w : World} {ad : Addr} {ts : List Tok} (h : TokAt w (some ad) ts) (j : Nat) (u : Value) (hj : (tcells ts)[j]? = some u) : w.cell? (ad.add j) = some u := by
  have hl := (List.getElem?_eq_some_iff.1 hj).1
  rw [tcells_len] at hl
  obtain ⟨t, ht⟩ : ∃ t, ts[j / 4]? = some t := ⟨_, List.getElem?_eq_getElem (by omega)⟩
  have hc := tcells_at ts (j / 4) (j % 4) t ht (Nat.mod_lt _ (by decide))
  rw [show j / 4 * 4 + j % 4 = j by omega, hj] at hc
  obtain ⟨b, off, e, _, h0, h1, h2, h3⟩ := h _ t ht
  cases e
  rw [addr_add]
  have h4 : j % 4 = 0 ∨ j % 4 = 1 ∨ j % 4 = 2 ∨ j % 4 = 3 := by omega
  rcases h4 with h4 | h4 | h4 | h4
  · rw [h4] at hc
    rw [hc, show off + j = off + j / 4 * 4 by omega]
    exact h0
  · rw [h4] at hc
    rw [hc, show off + j = off + j / 4 * 4 + 1 by omega]
    exact h1
  · rw [h4] at hc
    rw [hc, show off + j = off + j / 4 * 4 + 2 by omega]
    exact h2
  · rw [h4] at hc
    rw [hc, show off + j = off + j / 4 * 4 + 3 by omega]
    exact h3
/-- a row of tokens of one's own -/
def Held (w : World) (B : Nat) (v : Value) (l : List Tok) : Prop := w.ownsRow B 49 4 v l.length (tcells l)
theorem Held.slice {w : World} {B : Nat} {v : Value} {l : List Tok} (h : Held w B v l) : ∃ a c, v = .slice a l.length c ∧ OwnToks B w a l ∧ (a = none → l.length = 0 ∧ c = 0) := by
  rcases h.2 with ⟨h1, h2⟩ | ⟨g, cap, cur, h1, h2, h3, h4, h5, h6, h7⟩
  · refine ⟨none, 0, by rw [h1, h2], fun j t hj => ?_, fun _ => ⟨h2, rfl⟩⟩
    rw [List.eq_nil_of_length_eq_zero h2] at hj
    simp at hj
  · refine ⟨_, _, h1, fun j u hu => ?_, fun e => by cases e⟩
    have hjl := (List.getElem?_eq_some_iff.1 hu).1
    have key : ∀ i, i < 4 → w.cell? ⟨g, 0 + j * 4 + i, none⟩ = (tokL u)[i]? := fun i hi => by
      rw [cell_of h3, ← tcells_at l j i u hu hi, ← h7, List.getElem?_take_of_lt (by omega), Nat.zero_add]
      simp
    exact ⟨g, 0, rfl, h2, lt_of_block h3, key 0 (by decide), key 1 (by decide), key 2 (by decide), key 3 (by decide)⟩
set_option maxRecDepth 100000 in
theorem elem49 : ElemOk Tryd.prog 49 4 40 := ⟨⟨_, _, rfl, rfl, rfl, rfl, rfl⟩, by decide⟩
theorem tok_ones (l : List Tok) : ∀ u ∈ tcells l, u.oneCell' = true := fun u hu => by
  obtain ⟨t, _, ht⟩ := List.mem_flatMap.1 hu
  simp only [tokL, List.mem_cons, List.not_mem_nil, or_false] at ht
  rcases ht with rfl | rfl | rfl | rfl <;> rfl
theorem held_nil (w : World) : Held w w.heap.size (.slice none 0 0) [] := ⟨rfl, .inl ⟨rfl, rfl⟩⟩
/-- tokens behind one's own: append(l, more...) -/
theorem wpList_toks {w : World} {ops : Array Oper} {rest : List Oper} {o : Oper} {a : Act} {Q : Exit → Act → World → Prop} (hgd : o.guard = none) (s x : Operand)
    (ho : o.op = .call { callee := .builtin .append, args := #[s, x], argTypes := #[27, 27] }) (B : Nat) (v : Value) (l : List Tok) (hs : a.eval s = v) (hv : Held w B v l)
    (ao : Option Addr) (m cp : Nat) (l2 : List Tok) (hx : a.eval x = .slice ao m cp) (hnone : ao = none → m = 0 ∧ cp = 0) (hl2 : l2.length = m) (hT : TokAt w ao l2) (hn : l.length + m ≤ 2097152) (hB : B ≤ w.heap.size)
    (h : ∀ v' w', Hid (Held w' B v' (l ++ l2)) → Hid (Fr (fun b => B ≤ b) w w') → wpList Tryd.prog ops Q rest (a.put o.dst v') w') : wpList Tryd.prog ops Q (o :: rest) a w := by
  obtain ⟨⟨i, z, hi, hz, z1, z2, z3⟩, hk⟩ := elem49
  cases ao with
  | none =>
    obtain ⟨rfl, rfl⟩ := hnone rfl
    have e2 : l2 = [] := List.eq_nil_of_length_eq_zero hl2
    subst e2
    refine wpList_append_own_none hgd s x 27 ho B 49 i 4 Tryd.underlying27 hi v l.length (tcells l) hs hv hx ?_
    exact h v w (Lib.hid (by rw [List.append_nil]; exact hv)) (Lib.hid (Fr.refl _ _))
  | some ad =>
    refine wpList_append_own w hgd s x 27 ho B 49 i z 4 40 Tryd.underlying27 hi hz z1 z2 z3 hk v l.length (tcells l) hs hv ad m cp (tcells l2) hx (by rw [tcells_len, hl2]) hT.cells (tok_ones l2) (by unfold maxLen; omega) (by omega) hB ?_
    intro v' w' hown' hg _
    refine h v' w' (Lib.hid ?_) (Lib.hid ⟨hg.os, hg.tape, hg.output, hg.size, fun b hb hn => hg.block b hb fun e => hn (owns_block hv e.symm).1⟩)
    unfold Held
    rw [tcells_append, List.length_append, hl2]
    exact hown'
set_option maxHeartbeats 1000000 in
theorem copied_any (l : List Tok) (a : Option Addr) (n cp : Nat) (w : World) (hl : Hid (l.length = n)) (hn : n ≤ 1048576) (hnone : Hid (a = none → n = 0 ∧ cp = 0)) (hT : Hid (TokAt w a l)) :
    Calls Tryd.prog 14 #[.slice a n cp] w fun e w' => Fr No w w' ∧ ∃ v, e = .returned v ∧ Held w' w.heap.size v l := by
  go_enter Tryd.func14, Tryd.ntmps14
  go_wp2_with (at_builtin; refine wpList_toks rfl _ _ rfl w.heap.size (.slice none 0 0) [] rfl (held_nil w) a n cp l rfl hnone.out hl.out hT.out (by simp; omega) (Nat.le_refl _) ?_; intro v' w' HV HF)
  go_ret
  exact ⟨HF.out.mono (fun i hi h => by omega), v', rfl, HV.out⟩
end Go.Proofs.YtjabhmepafofmaaDoor
namespace Go.Proofs.YtjabhmepafofmaaDoor
open Go.RowKit

/-- where it came to an end -/
def Re.stop {α : Type} : Re α → Nat
  | .ok _ q => q
  | .fail q => q
  | .out => 0
theorem run_le (l : List Tok) {α : Type} : ∀ (m : Pr α) (p : Nat), m.run l p ≠ .out → p ≤ (m.run l p).stop
  | .ret a, p, h => Nat.le_refl _
  | .fail, p, h => Nat.le_refl _
  | .out, p, h => absurd rfl h
  | .look f, p, h => run_le l (f (l.getD p zTok)) p h
  | .adv m, p, h => by
    have := run_le l m (p + 1) h
    have e : (Pr.adv m).run l p = m.run l (p + 1) := rfl
    rw [e]
    omega
/-- what has been read says it all -/
theorem run_agree (l l2 : List Tok) {α : Type} : ∀ (m : Pr α) (p : Nat), m.run l p ≠ .out → (∀ i, i ≤ (m.run l p).stop → l.getD i zTok = l2.getD i zTok) → m.run l2 p = m.run l p
  | .ret a, p, h, _ => rfl
  | .fail, p, h, _ => rfl
  | .out, p, h, _ => rfl
  | .look f, p, h, hi => by
    have e : (Pr.look f).run l p = (f (l.getD p zTok)).run l p := rfl
    have e2 : (Pr.look f).run l2 p = (f (l2.getD p zTok)).run l2 p := rfl
    rw [e] at h hi ⊢
    rw [e2, ← hi p (run_le l _ p h)]
    exact run_agree l l2 _ p h hi
  | .adv m, p, h, hi => run_agree l l2 m (p + 1) h hi
theorem must_stop (l : List Tok) (s : ByteArray) (p : Nat) : (must s).run l p = .ok () (p + 1) ∨ (must s).run l p = .fail p := by
  simp only [must, Pr.run]
  split
  · exact .inl rfl
  · exact .inr rfl
theorem progR_le {l : List Tok} {g : Gr} : ∀ (N : Nat) (acc : List D) (p q : Nat), progR l g N acc p = .fail q → p ≤ q
  | 0, acc, p, q, h => by cases h
  | N + 1, acc, p, q, h => by
    simp only [progR] at h
    split at h
    · cases hr : (g.dec true).run l p with
      | out => rw [hr] at h; cases h
      | fail r =>
        rw [hr] at h
        have := run_le l (g.dec true) p (by rw [hr]; exact fun e => by cases e)
        rw [hr] at this
        cases h
        exact this
      | ok d r =>
        have h1 := run_mono l _ _ _ _ hr
        rw [hr] at h
        simp only [Re.andThen] at h
        rcases must_stop l ⟨#[59]⟩ r with hm | hm
        · rw [hm] at h
          have := progR_le N _ _ _ h
          omega
        · rw [hm] at h
          cases h
          exact h1
    · cases h
/-- a token that is in the way is so whatever stands behind it -/
theorem progR_agree {l l2 : List Tok} {g : Gr} : ∀ (N : Nat) (acc : List D) (p q : Nat), progR l g N acc p = .fail q → q < l2.length → (∀ i, i ≤ q → l.getD i zTok = l2.getD i zTok) → progR l2 g N acc p = .fail q
  | 0, acc, p, q, h, _, _ => by cases h
  | N + 1, acc, p, q, h, hq, hi => by
    have hpq := progR_le (N + 1) acc p q h
    simp only [progR] at h ⊢
    rw [if_pos (show p < l2.length by omega)]
    split at h
    · cases hr : (g.dec true).run l p with
      | out => rw [hr] at h; cases h
      | fail r =>
        have hr2 := run_agree l l2 (g.dec true) p (by rw [hr]; exact fun e => by cases e)
        rw [hr] at h hr2
        cases h
        rw [hr2 hi]
        rfl
      | ok d r =>
        have hr2 := run_agree l l2 (g.dec true) p (by rw [hr]; exact fun e => by cases e)
        rw [hr] at h hr2
        simp only [Re.andThen] at h
        rcases must_stop l ⟨#[59]⟩ r with hm | hm
        · rw [hm] at h
          have h1 := progR_le N _ _ _ h
          have hm2 := run_agree l l2 (must ⟨#[59]⟩) r (by rw [hm]; exact fun e => by cases e)
          rw [hm] at hm2
          rw [hr2 (fun i hx => hi i (by have : i ≤ r := hx; omega))]
          simp only [Re.andThen]
          rw [hm2 (fun i hx => hi i (by have : i ≤ r + 1 := hx; omega))]
          exact progR_agree N _ _ _ h hq hi
        · rw [hm] at h
          have hm2 := run_agree l l2 (must ⟨#[59]⟩) r (by rw [hm]; exact fun e => by cases e)
          rw [hm] at hm2
          cases h
          rw [hr2 (fun i hx => hi i hx)]
          simp only [Re.andThen]
          rw [hm2 (fun i hx => hi i hx)]
    · cases h
/-- what a program comes to, with fuel enough -/
def EndR (l : List Tok) (acc : List D) (p : Nat) : Re (List D) → Prop
  | .ok ds q => q = l.length ∧ ∃ r, ds = acc ++ r ∧ (p < l.length → r ≠ [])
  | .fail q => q ≤ l.length
  | .out => False
theorem progR_end {l : List Tok} {n : Nat} (hn : l.length * 40 + 1 ≤ n) : ∀ (N : Nat) (acc : List D) (p : Nat), p ≤ l.length → l.length + 1 ≤ N + p → EndR l acc p (progR l (gram n) N acc p)
  | 0, acc, p, hp, hN => by omega
  | N + 1, acc, p, hp, hN => by
    simp only [progR]
    split
    · rename_i hlt
      have hd := ((enough l n).dec true p hp (by omega)).out
      cases hr : ((gram n).dec true).run l p with
      | out => rw [hr] at hd; exact hd.elim
      | fail r => rw [hr] at hd; exact hd
      | ok d r =>
        rw [hr] at hd
        obtain ⟨h1, h2⟩ := hd
        simp only [Re.andThen]
        cases hs : seesB (l.getD r zTok) [⟨#[59]⟩] with
        | false =>
          have hm : (must ⟨#[59]⟩).run l r = .fail r := by simp only [must, Pr.run, hs, Bool.false_eq_true, if_false]
          rw [hm]
          exact h2
        | true =>
          have hm : (must ⟨#[59]⟩).run l r = .ok () (r + 1) := by simp only [must, Pr.run, hs, if_true]
          rw [hm]
          have h3 := lt_of_sees hs
          have ih := progR_end hn N (acc ++ [d]) (r + 1) h3 (by omega)
          simp only
          cases hx : progR l (gram n) N (acc ++ [d]) (r + 1) with
          | out => rw [hx] at ih; exact ih.elim
          | fail q => rw [hx] at ih; exact ih
          | ok ds q =>
            rw [hx] at ih
            obtain ⟨h4, x, h5, _⟩ := ih
            exact ⟨h4, d :: x, by rw [h5, List.append_assoc]; rfl, fun _ => by simp⟩
    · exact ⟨by omega, [], by simp, fun h => absurd h (by assumption)⟩
theorem getD_take {l : List Tok} {n i : Nat} (h : i < n) : (l.take n).getD i zTok = l.getD i zTok := by
  simp only [List.getD_eq_getElem?_getD, List.getElem?_take_of_lt h]
theorem getD_left {l m : List Tok} {i : Nat} (h : i < l.length) : (l ++ m).getD i zTok = l.getD i zTok := by
  simp only [List.getD_eq_getElem?_getD, List.getElem?_append_left h]
section
variable {n M : Nat}
/-- a token in the way is so whatever stands behind it -/
theorem ahead_more {l more : List Tok} {k : Nat} (h : progR l (gram n) M [] 0 = .fail k) (hk : k < l.length) : progR (l.take (k + 1) ++ more) (gram n) M [] 0 = .fail k := by
  refine progR_agree M [] 0 k h (by simp; omega) fun i hi => ?_
  rw [getD_left (by simp; omega), getD_take (by omega)]
/-- what stands ahead of it is a program's beginning: nothing is in the way but the end -/
theorem ahead_cut {l : List Tok} {c k : Nat} (hc : c ≤ l.length) (hn : l.length * 40 + 1 ≤ n) (hM : l.length + 1 ≤ M) (hcut : ∀ q, progR l (gram n) M [] 0 = .fail q → c ≤ q) (h : progR (l.take c) (gram n) M [] 0 = .fail k) : k = c := by
  have hl : (l.take c).length = c := by simp; omega
  have he := progR_end (l := l.take c) (n := n) (by omega) M [] 0 (Nat.zero_le _) (by omega)
  rw [h] at he
  have he : k ≤ (l.take c).length := he
  rcases Nat.lt_or_ge k c with hlt | hge
  · have := hcut k (progR_agree M [] 0 k h (by omega) fun i hi => getD_take (by omega))
    omega
  · omega
end
end Go.Proofs.YtjabhmepafofmaaDoor
