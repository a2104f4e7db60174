/- Scan of bytes in memory; the tokens that it hands back; the anchor. -/
import Derived.Test.YtcaejcbmkiacmaaDoorWh
import Derived.Laws.BytesArg
import Derived.Lib.SlBytesConst
namespace Go.Proofs.YtcaejcbmkiacmaaDoor
open Go.RowKit

/-- the bytes of a slice -/
def SrcAt (w : World) (a : Option Addr) (l : Bs) : Prop := ∀ i x, l[i]? = some x → ∃ b off, a = some ⟨b, off, none⟩ ∧ w.cell? ⟨b, off + i, none⟩ = some (.int .u8 (x.toNat : Nat))
theorem cell_lt {w : World} {p : Addr} {v : Value} (h : w.cell? p = some v) : p.block < w.heap.size := by
  unfold World.cell? at h
  rcases Nat.lt_or_ge p.block w.heap.size with h1 | h1
  · exact h1
  · rw [Array.getElem?_eq_none h1] at h
    cases h
theorem SrcAt.below {w w' : World} {a : Option Addr} {l : Bs} (h : SrcAt w a l) (hb : Below w.heap.size w w') : SrcAt w' a l := by
  intro i x hi
  obtain ⟨b, off, h1, h2⟩ := h i x hi
  exact ⟨b, off, h1, (hb.cell (p := ⟨b, off + i, none⟩) (cell_lt h2)).trans h2⟩
theorem strOfNums_mk (l : Bs) : strOfNums (l.map fun (c : UInt8) => (c.toNat : Int)) = mk l := by
  unfold strOfNums mk
  congr 1
  simp [Function.comp_def]
theorem SrcAt.spells {w : World} {a : Option Addr} {l : Bs} (h : SrcAt w a l) (n cap : Nat) (hn : l.length = n) : Spells (.slice a n cap) (mk l) w := by
  intro dst hd
  subst hn
  cases l with
  | nil =>
    rw [run_convert_bytes_string w 22 dst 5 _ _ _ Tryd.underlying22 Tryd.underlying5 hd]
    cases a <;> rfl
  | cons c r =>
    obtain ⟨b, off, rfl, _⟩ := h 0 c rfl
    rw [← strOfNums_mk]
    refine run_convert_bytes_arg w 22 5 Tryd.underlying22 Tryd.underlying5 b off _ cap _ (by simp) (fun i hi => ?_) dst hd
    obtain ⟨b', off', h1, h2⟩ := h i _ (List.getElem?_eq_getElem hi)
    simp only [Option.some.injEq, Addr.mk.injEq] at h1
    obtain ⟨rfl, rfl, _⟩ := h1
    rw [h2]
    have e : ((c :: r).map fun (c : UInt8) => (c.toNat : Int))[i]? = some (((c :: r)[i]).toNat : Int) := by rw [List.getElem?_map, List.getElem?_eq_getElem hi]; rfl
    rw [List.getD, e]
    rfl
/-- the tokens of a slice -/
def RowAt (w : World) (a : Option Addr) (ts : List Tok) : Prop := ∀ i t, ts[i]? = some t → ∃ g, a = some ⟨g, 0, none⟩ ∧
  w.cell? ⟨g, i * 4, none⟩ = some (.int .u8 t.kind) ∧ w.cell? ⟨g, i * 4 + 1, none⟩ = some (.string (mk t.text)) ∧ w.cell? ⟨g, i * 4 + 2, none⟩ = some (.int .i64 t.num) ∧ w.cell? ⟨g, i * 4 + 3, none⟩ = some (.int .i64 t.pos)
theorem RowAt.below {w w' : World} {a : Option Addr} {ts : List Tok} (h : RowAt w a ts) (hb : Below w.heap.size w w') : RowAt w' a ts := by
  intro i t hi
  obtain ⟨g, h1, c0, c1, c2, c3⟩ := h i t hi
  exact ⟨g, h1, (hb.cell (cell_lt c0)).trans c0, (hb.cell (cell_lt c1)).trans c1, (hb.cell (cell_lt c2)).trans c2, (hb.cell (cell_lt c3)).trans c3⟩
theorem tokCells_get (ts : List Tok) (i : Nat) (t : Tok) (h : ts[i]? = some t) : (tokCells ts)[i * 4]? = some (.int .u8 t.kind) ∧ (tokCells ts)[i * 4 + 1]? = some (.string (mk t.text)) ∧ (tokCells ts)[i * 4 + 2]? = some (.int .i64 t.num) ∧ (tokCells ts)[i * 4 + 3]? = some (.int .i64 t.pos) := by
  induction ts generalizing i with
  | nil => simp at h
  | cons x r ih =>
    have e : tokCells (x :: r) = [.int .u8 x.kind, .string (mk x.text), .int .i64 x.num, .int .i64 x.pos] ++ tokCells r := by simp [tokCells, tokA]
    rw [e]
    cases i with
    | zero =>
      simp only [List.getElem?_cons_zero, Option.some.injEq] at h
      subst h
      exact ⟨rfl, rfl, rfl, rfl⟩
    | succ i =>
      have := ih i (by simpa using h)
      have e2 : (i + 1) * 4 = i * 4 + 4 := by omega
      rw [e2]
      exact this
theorem rowAt_of {w : World} {base : Nat} {v : Value} {ts : List Tok} (h : w.ownsRow base 34 4 v ts.length (tokCells ts)) : ∃ a cap, v = .slice a ts.length cap ∧ RowAt w a ts := by
  have hz := fun g => h.cells (g := g)
  rcases h.2 with ⟨rfl, h2⟩ | ⟨g, cap, cur, rfl, h2, _⟩
  · refine ⟨none, 0, by rw [h2], fun i t hi => ?_⟩
    have : ts = [] := List.eq_nil_of_length_eq_zero h2
    subst this
    simp at hi
  · refine ⟨some ⟨g, 0, none⟩, cap, rfl, fun i t hi => ⟨g, rfl, ?_⟩⟩
    have hc := hz g rfl
    obtain ⟨k0, k1, k2, k3⟩ := tokCells_get ts i t hi
    have e : ∀ j, (⟨g, 0, none⟩ : Addr).add j = ⟨g, j, none⟩ := fun j => by
      unfold Addr.add
      split
      · rename_i h
        rw [h]
      · simp
    have f := fun j u hj => (e j) ▸ hc j u hj
    exact ⟨f _ _ k0, f _ _ k1, f _ _ k2, f _ _ k3⟩

/-- what Scan hands back -/
def Scanned (w : World) (R : Except Nat (List Tok)) (e : Ending) (w' : World) : Prop :=
  Below w.heap.size w w' ∧ match R with
    | .error p => e = .returned (.tuple #[.slice none 0 0, .int .i64 p, .int .i64 10])
    | .ok ts => ∃ a cap, e = .returned (.tuple #[.slice a ts.length cap, .int .i64 0, .int .i64 0]) ∧ RowAt w' a ts
theorem scan_src (l : Bs) (a : Option Addr) (n cap : Nat) (w : World) (hn : n ≤ 1099511627776) (hl : l.length = n) (hs : SrcAt w a l) (hT : Tables w) :
    Calls Tryd.prog 11 #[.slice a n cap] w (Scanned w (scanR l)) := by
  refine (scan_any l a n cap w hn (Lib.hid hl) (Lib.hid (hs.spells n cap hl)) (Lib.hid hT)).mono ?_
  rintro e w' ⟨hb, h⟩
  refine ⟨hb, ?_⟩
  cases hR : scanR l with
  | error p =>
    rw [hR] at h
    exact h
  | ok ts =>
    rw [hR] at h
    obtain ⟨v, rfl, h⟩ := h
    obtain ⟨a', cap', rfl, h'⟩ := rowAt_of h
    exact ⟨a', cap', rfl, h'⟩
theorem srcAt_new (w : World) (l : Bs) (cs : List Value) (t : TypeId) (z : Nat × Nat) (hcs : cs = l.map fun (x : UInt8) => Value.int .u8 (x.toNat : Nat)) : SrcAt (w.alloc (.cells cs.toArray t z)) (some ⟨w.heap.size, 0, none⟩) l := by
  intro i x hi
  refine ⟨w.heap.size, 0, rfl, ?_⟩
  have hb := last_block w (.cells cs.toArray t z)
  rw [Nat.zero_add]
  simp only [World.cell?, hb]
  subst hcs
  simp [hi]
theorem RowAt.get {w : World} {g : Nat} {ts : List Tok} (h : RowAt w (some ⟨g, 0, none⟩) ts) (i : Nat) (t : Tok) (hi : ts[i]? = some t) :
    w.cell? ⟨g, i * 4, none⟩ = some (.int .u8 t.kind) ∧ w.cell? ⟨g, i * 4 + 1, none⟩ = some (.string (mk t.text)) ∧ w.cell? ⟨g, i * 4 + 2, none⟩ = some (.int .i64 t.num) ∧ w.cell? ⟨g, i * 4 + 3, none⟩ = some (.int .i64 t.pos) := by
  obtain ⟨g', h1, h2⟩ := h i t hi
  simp only [Option.some.injEq, Addr.mk.injEq, and_true] at h1
  subst h1
  exact h2
def src1 : Bs := [118, 97, 108, 32, 120, 32, 61, 32, 39, 97, 32, 40, 42, 32, 110, 111, 32, 42, 41, 32, 34, 98, 92, 110, 34, 32, 49, 50]
def src2 : Bs := [97, 32, 46]
theorem scan1 : scanR src1 = .ok [⟨6, [118, 97, 108], 0, 0⟩, ⟨1, [120], 0, 4⟩, ⟨7, [61], 0, 6⟩, ⟨3, [39, 97], 0, 8⟩, ⟨5, [98, 10], 0, 20⟩, ⟨4, [], 12, 26⟩] := by rfl
theorem scan2 : scanR src2 = .error 2 := by rfl
set_option maxHeartbeats 2000000 in
theorem works_any (w : World) (hT : Hid (Tables w)) : Calls Tryd.prog 9 #[] w fun e w' => e = .returned (.bool true) ∧ Below w.heap.size w w' := by
  have hcv := fun (u : World) (C : Array Value) (n c : Nat) => Lib.run_convert_bytes_const (P := Tryd.prog) u 22 5 C n c Tryd.underlying22 Tryd.underlying5
  go_enter Tryd.func9, Tryd.ntmps9
  go_wp2_with fail
  refine (scan_src src1 _ 28 28 _ (by decide) rfl (srcAt_new w src1 _ _ _ rfl) (hT.out.below (below_alloc w _))).mono ?_
  rintro e w1 ⟨hb1, h1⟩
  rw [scan1] at h1
  obtain ⟨a1, cap1, rfl, hr1⟩ := h1
  obtain ⟨g, rfl, _⟩ := hr1 0 _ rfl
  have hB1 : Below w.heap.size w w1 := (below_alloc w _).trans (hb1.mono (below_alloc w _).size)
  have HB1 := Lib.hid hB1
  have HR1 := Lib.hid hr1
  clear hB1 hr1 hb1
  go_wp2_with fail
  refine (scan_src src2 _ 3 3 _ (by decide) rfl (srcAt_new w1 src2 _ _ _ rfl) ((hT.out.below HB1.out).below (below_alloc w1 _))).mono ?_
  rintro e w2 ⟨hb2, h2⟩
  rw [scan2] at h2
  subst h2
  have hB2 : Below w1.heap.size w1 w2 := (below_alloc w1 _).trans (hb2.mono (below_alloc w1 _).size)
  have hr := HR1.out.below hB2
  have c0 := (hr.get 0 _ rfl).1
  have c1 := (hr.get 1 _ rfl).2.1
  have c2 := (hr.get 2 _ rfl).1
  have c3 := (hr.get 3 _ rfl).2.1
  have c4 := (hr.get 4 _ rfl).2.1
  have c5 := (hr.get 5 _ rfl).2.2.1
  have c6 := (hr.get 5 _ rfl).2.2.2
  simp only [Nat.reduceMul, Nat.reduceAdd, mk] at c0 c1 c2 c3 c4 c5 c6
  have HB2 : Hid (Below w.heap.size w w2) := Lib.hid (HB1.out.trans (hB2.mono HB1.out.size))
  clear HR1 hr hB2 hb2
  go_wp2_with fail
  go_ret
  exact ⟨rfl, HB2.out⟩
end Go.Proofs.YtcaejcbmkiacmaaDoor
