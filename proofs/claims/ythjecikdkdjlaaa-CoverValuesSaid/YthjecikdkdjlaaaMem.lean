/- What lies in memory: types read as a tree; infos; rows of rows. -/
import Derived.Test.YthjecikdkdjlaaaPlain
namespace Go.Proofs.Ythjecikdkdjlaaa
open Go.RowKit

theorem is_agg {B0 : Nat} {ok : Nat → Prop} {w : World} {t : T} {v : Value} (h : Is B0 ok w t v) : ∃ x0 x1 x2 x3, v = .agg #[x0, x1, x2, x3] := by
  cases t with
  | mk k s n l =>
    simp only [Is] at h
    obtain ⟨a, cap, rfl, _⟩ := h
    exact ⟨_, _, _, _, rfl⟩
theorem is_cells {B0 : Nat} {ok : Nat → Prop} {w : World} {t : T} {x0 x1 x2 x3 : Value} (h : Is B0 ok w t (.agg #[x0, x1, x2, x3])) : ∃ (k : Nat) (s : ByteArray) (n : Int) (a : Option Addr) (m c : Nat), x0 = .int .u8 k ∧ x1 = .string s ∧ x2 = .int .i64 n ∧ x3 = .slice a m c := by
  cases t with
  | mk k s n l =>
    simp only [Is] at h
    obtain ⟨a, cap, e, _⟩ := h
    simp only [Value.agg.injEq, Array.mk.injEq, List.cons.injEq, and_true] at e
    exact ⟨k, s, n, a, l.length, cap, e⟩
theorem is_mk {B0 : Nat} {ok : Nat → Prop} {w : World} {t : T} {k1 : Nat} {s1 : ByteArray} {n1 : Int} {a1 : Option Addr} {m1 c1 : Nat} (h : Is B0 ok w t (.agg #[.int .u8 k1, .string s1, .int .i64 n1, .slice a1 m1 c1])) :
    ∃ r, t = .mk k1 s1 n1 r ∧ r.length = m1 ∧ Row B0 ok w a1 0 r := by
  cases t with
  | mk k s n l =>
    simp only [Is] at h
    obtain ⟨a, cap, e, hr⟩ := h
    simp only [Value.agg.injEq, Array.mk.injEq, List.cons.injEq, Value.int.injEq, Value.string.injEq, Value.slice.injEq, true_and, and_true] at e
    obtain ⟨e1, rfl, rfl, rfl, rfl, rfl⟩ := e
    have e1 : k1 = k := by omega
    subst e1
    exact ⟨l, rfl, rfl, hr⟩
theorem keep_alloc {w : World} {b : Nat} {ob : Obj} (h : w.heap[b]? = some ob) : ∀ o, (w.alloc o).heap[b]? = some ob := fun o => (Fr.alloc w o).keeps h no_one
def SaidT (w : World) (b : Bool) (e : Ending) (w' : World) : Prop := e = .returned (.bool b) ∧ Fr No w w'
def SaidI (w : World) (x : Int) (e : Ending) (w' : World) : Prop := e = .returned (.int .i64 x) ∧ Fr No w w'
def SaidV (w : World) (v : Value) (e : Ending) (w' : World) : Prop := e = .returned v ∧ Fr No w w'
def IsT (base : Nat) (w : World) (t : T) (v : Value) : Prop := Is base (fun _ => True) w t v
theorem IsT.no {base : Nat} {w w' : World} {t : T} {v : Value} (h : IsT base w t v) (hf : Fr No w w') : IsT base w' t v := Is.no h hf
theorem is_anyP {base : Nat} (w : World) : IsT base w anyP (.agg #[.int .u8 1, .string ⟨#[]⟩, .int .i64 0, .slice none 0 0]) := by
  simp only [IsT, anyP, Is]
  exact ⟨none, 0, rfl, by simp [Row]⟩
theorem row_keepNo {base : Nat} {ok : Nat → Prop} {w w' : World} {a : Option Addr} {i : Nat} {l : List T} (h : Row base ok w a i l) (hf : Fr No w w') : Row base ok w' a i l := Row.keep (Stays.of_no hf) (fun _ h => h) a i l h
/-- infos in a row -/
def Infs (w : World) (a : Option Addr) (l : List Inf) : Prop := ∀ (j : Nat) (x : Inf), l[j]? = some x → ∃ b off, a = some ⟨b, off, none⟩ ∧ w.cell? ⟨b, off + j * 5, none⟩ = some (.string x.name) ∧ w.cell? ⟨b, off + j * 5 + 1, none⟩ = some (.string x.of) ∧
  w.cell? ⟨b, off + j * 5 + 2, none⟩ = some (.int .i64 x.place) ∧ w.cell? ⟨b, off + j * 5 + 3, none⟩ = some (.int .i64 x.many) ∧ w.cell? ⟨b, off + j * 5 + 4, none⟩ = some (.bool x.has)
theorem Infs.no {w w' : World} {a : Option Addr} {l : List Inf} (h : Infs w a l) (hf : Fr No w w') : Infs w' a l := by
  intro j x hx
  obtain ⟨b, off, e, h0, h1, h2, h3, h4⟩ := h j x hx
  exact ⟨b, off, e, hf.cell h0, hf.cell h1, hf.cell h2, hf.cell h3, hf.cell h4⟩
def infV (x : Inf) : Value := .agg #[.string x.name, .string x.of, .int .i64 x.place, .int .i64 x.many, .bool x.has]
/-- a checker that knows some infos -/
def Chk (w : World) (gc : Nat) (is : List Inf) : Prop := is.length ≤ 1152921504606846976 ∧ ∃ a cap, w.cell? ⟨gc, 0, none⟩ = some (.slice a is.length cap) ∧ Infs w a is
theorem Chk.no {w w' : World} {gc : Nat} {is : List Inf} (h : Chk w gc is) (hf : Fr No w w') : Chk w' gc is := by
  obtain ⟨h1, a, cap, h2, h3⟩ := h
  exact ⟨h1, a, cap, hf.cell h2, h3.no hf⟩
/-- a row of patterns, in the order of memory -/
def RowV (base : Nat) (w : World) (v : Value) (l : List T) : Prop := ∃ a cap, v = .slice a l.length cap ∧ l.length ≤ cap ∧ Row base (fun _ => True) w a 0 l
theorem RowV.no {base : Nat} {w w' : World} {v : Value} {l : List T} (h : RowV base w v l) (hf : Fr No w w') : RowV base w' v l := by
  obtain ⟨a, cap, e, hc, hr⟩ := h
  exact ⟨a, cap, e, hc, row_keepNo hr hf⟩
/-- rows one behind the other: from some address on -/
def RowsA (base : Nat) (w : World) (a : Option Addr) (ls : List (List T)) : Prop := ∀ (j : Nat) (l : List T), ls[j]? = some l → ∃ b off u, a = some ⟨b, off, none⟩ ∧ w.cell? ⟨b, off + j, none⟩ = some u ∧ RowV base w u l
theorem RowsA.no {base : Nat} {w w' : World} {a : Option Addr} {ls : List (List T)} (h : RowsA base w a ls) (hf : Fr No w w') : RowsA base w' a ls := by
  intro j l hl
  obtain ⟨b, off, u, e, hc, hr⟩ := h j l hl
  exact ⟨b, off, u, e, hf.cell hc, hr.no hf⟩
def hdV (h : Hd) : Value := .agg #[.int .u8 h.kind, .int .i64 h.num, .int .i64 h.many, .string h.name, .string h.of]
theorem hdV_inj {a b : Hd} (h : hdV a = hdV b) : a = b := by
  obtain ⟨k, n, m, s, o⟩ := a
  obtain ⟨k', n', m', s', o'⟩ := b
  simp only [hdV, Value.agg.injEq, Array.mk.injEq, List.cons.injEq, Value.int.injEq, Value.string.injEq, true_and, and_true] at h
  obtain ⟨h1, h2, h3, h4, h5⟩ := h
  have : k = k' := by omega
  simp [this, h2, h3, h4, h5]
end Go.Proofs.Ythjecikdkdjlaaa
