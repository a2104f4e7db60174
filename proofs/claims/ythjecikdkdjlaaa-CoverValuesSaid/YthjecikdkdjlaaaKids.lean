/- A row of types that a call builds, one behind the other. -/
import Derived.Test.YthjecikdkdjlaaaMem
import Derived.Deep.AppendLies
namespace Go.Proofs.Ythjecikdkdjlaaa
open Go.RowKit

theorem Fr.then' {S : Nat → Prop} {a b c : World} {T : Nat → Prop} (h : Fr No a b) (k : Fr T b c) (hs : ∀ i, T i → S i) : Fr S a c :=
  (h.mono (fun _ _ h => h.elim)).trans (k.mono (fun i _ h => hs i h)) fun _ _ h => h
def cells4 : Value → List Value
  | .agg xs => xs.toList
  | _ => []
/-- v is a slice that the call owns; it holds these types, in other blocks of the call's own -/
def Built (base : Nat) (w : World) (v : Value) (l : List T) : Prop :=
  ∃ vs : List Value, vs.length = l.length ∧ w.ownsRow base 40 4 v l.length (vs.flatMap cells4) ∧ ∀ (j : Nat) (t : T) (u : Value), l[j]? = some t → vs[j]? = some u → Is 0 (fun b => base ≤ b ∧ v.ownBlock ≠ some b) w t u
theorem Built.nil (base : Nat) (w : World) : Built base w (.slice none 0 0) [] := ⟨[], rfl, ⟨rfl, .inl ⟨rfl, rfl⟩⟩, fun j t u h => by simp at h⟩
theorem owns_no {w w' : World} {base n : Nat} {v : Value} {xs : List Value} (h : w.ownsRow base 40 4 v n xs) (hf : Fr No w w') : w'.ownsRow base 40 4 v n xs := by
  refine ⟨h.1, ?_⟩
  rcases h.2 with h2 | ⟨g, cap, cur, h1, h2, h3, h4⟩
  · exact .inl h2
  · exact .inr ⟨g, cap, cur, h1, h2, hf.keeps h3 no_one, h4⟩
theorem Built.keep {base : Nat} {w w' : World} {v : Value} {l : List T} (h : Built base w v l) (hf : Fr No w w') : Built base w' v l := by
  obtain ⟨vs, h1, h2, h3⟩ := h
  exact ⟨vs, h1, owns_no h2 hf, fun j t u hj hu => (h3 j t u hj hu).no hf⟩
mutual
theorem is_lt {B0 : Nat} {ok : Nat → Prop} {w : World} : ∀ (t : T) (v : Value), Is B0 ok w t v → Is B0 (fun b => ok b ∧ b < w.heap.size) w t v
  | .mk k s n l, v, h => by
    simp only [Is] at h ⊢
    obtain ⟨a, cap, e, hr⟩ := h
    exact ⟨a, cap, e, row_lt a 0 l hr⟩
theorem row_lt {B0 : Nat} {ok : Nat → Prop} {w : World} (a : Option Addr) : ∀ (i : Nat) (l : List T), Row B0 ok w a i l → Row B0 (fun b => ok b ∧ b < w.heap.size) w a i l
  | _, [], _ => by simp [Row]
  | i, t :: r, h => by
    simp only [Row] at h ⊢
    obtain ⟨⟨b, off, c0, c1, c2, c3, e, hok, hb, h0, h1, h2, h3, ht⟩, hr⟩ := h
    exact ⟨⟨b, off, c0, c1, c2, c3, e, ⟨hok, World.block_lt_of_cell? w _ h0⟩, hb, h0, h1, h2, h3, is_lt t _ ht⟩, row_lt a (i + 1) r hr⟩
end
theorem Built.snoc {base : Nat} {w w' : World} {v v' : Value} {l : List T} {t : T} {u : Value} {vs : List Value} (hlen : vs.length = l.length) (h : ∀ (j : Nat) (t : T) (u : Value), l[j]? = some t → vs[j]? = some u → Is 0 (fun b => base ≤ b ∧ v.ownBlock ≠ some b) w t u)
    (hown : w'.ownsRow base 40 4 v' (l.length + 1) (vs.flatMap cells4 ++ cells4 u)) (hg : w.grownBy w' v.ownBlock) (hat : v'.ownBlock = v.ownBlock ∨ v'.ownBlock = some w.heap.size) (ht : Is 0 (fun b => base ≤ b ∧ v.ownBlock ≠ some b) w t u) :
    Built base w' v' (l ++ [t]) := by
  have keep : ∀ (t : T) (u : Value), Is 0 (fun b => base ≤ b ∧ v.ownBlock ≠ some b) w t u → Is 0 (fun b => base ≤ b ∧ v'.ownBlock ≠ some b) w' t u := by
    intro t u h
    have h1 : Is 0 (fun b => (base ≤ b ∧ v.ownBlock ≠ some b) ∧ b < w.heap.size) w t u := is_lt t u h
    refine (h1.keep (ok' := fun b => (base ≤ b ∧ v.ownBlock ≠ some b) ∧ b < w.heap.size) ?_ (fun b h => h)).mono ?_
    · intro b hb ho _
      exact hg.block b hb (fun e => ho.1.2 e.symm)
    · rintro b ⟨⟨h2, h3⟩, h4⟩
      refine ⟨h2, ?_⟩
      rcases hat with e | e
      · rw [e]
        exact h3
      · rw [e]
        intro e2
        injection e2 with e2
        omega
  refine ⟨vs ++ [u], by simp [hlen], ?_, ?_⟩
  · rw [List.length_append, List.flatMap_append]
    simpa using hown
  · intro j t' u' hj hu
    rcases Nat.lt_or_ge j l.length with h1 | h1
    · rw [List.getElem?_append_left h1] at hj
      rw [List.getElem?_append_left (by rw [hlen]; exact h1)] at hu
      exact keep t' u' (h j t' u' hj hu)
    · rw [List.getElem?_append_right h1] at hj
      rw [List.getElem?_append_right (by rw [hlen]; exact h1)] at hu
      rw [hlen] at hu
      obtain ⟨h2, h3⟩ : j - l.length = 0 ∧ True := by
        have := (List.getElem?_eq_some_iff.1 hj).1
        simp at this
        exact ⟨by omega, trivial⟩
      rw [h2] at hj hu
      simp only [List.getElem?_cons_zero, Option.some.injEq] at hj hu
      subst hj hu
      exact keep t u ht
theorem Row.of_at {B0 : Nat} {ok : Nat → Prop} {w : World} {a : Option Addr} : ∀ (i : Nat) (l : List T), (∀ (j : Nat) (t : T), l[j]? = some t →
    ∃ b off c0 c1 c2 c3, a = some ⟨b, off, none⟩ ∧ ok b ∧ (b < B0 ∨ ∃ cs z, w.heap[b]? = some (.cells cs 40 z)) ∧ w.cell? ⟨b, off + (i + j) * 4, none⟩ = some c0 ∧ w.cell? ⟨b, off + (i + j) * 4 + 1, none⟩ = some c1 ∧
      w.cell? ⟨b, off + (i + j) * 4 + 2, none⟩ = some c2 ∧ w.cell? ⟨b, off + (i + j) * 4 + 3, none⟩ = some c3 ∧ Is B0 ok w t (.agg #[c0, c1, c2, c3])) → Row B0 ok w a i l
  | _, [], _ => by simp [Row]
  | i, t :: r, h => by
    simp only [Row]
    refine ⟨h 0 t rfl, Row.of_at (i + 1) r fun j t hj => ?_⟩
    have := h (j + 1) t (by simpa using hj)
    rw [show i + (j + 1) = i + 1 + j by omega] at this
    exact this
theorem flat_get : ∀ (vs : List Value) (j : Nat) (c0 c1 c2 c3 : Value), (∀ u ∈ vs, ∃ x0 x1 x2 x3, u = .agg #[x0, x1, x2, x3]) → vs[j]? = some (.agg #[c0, c1, c2, c3]) →
    (vs.flatMap cells4)[j * 4]? = some c0 ∧ (vs.flatMap cells4)[j * 4 + 1]? = some c1 ∧ (vs.flatMap cells4)[j * 4 + 2]? = some c2 ∧ (vs.flatMap cells4)[j * 4 + 3]? = some c3
  | [], j, _, _, _, _, _, h => by simp at h
  | u :: r, j, c0, c1, c2, c3, hall, h => by
    obtain ⟨x0, x1, x2, x3, rfl⟩ := hall u (by simp)
    have e : (Value.agg #[x0, x1, x2, x3] :: r).flatMap cells4 = [x0, x1, x2, x3] ++ r.flatMap cells4 := rfl
    rw [e]
    cases j with
    | zero =>
      simp only [List.getElem?_cons_zero, Option.some.injEq, Value.agg.injEq, Array.mk.injEq, List.cons.injEq, and_true] at h
      obtain ⟨rfl, rfl, rfl, rfl⟩ := h
      exact ⟨rfl, rfl, rfl, rfl⟩
    | succ j =>
      have := flat_get r j c0 c1 c2 c3 (fun u hu => hall u (by simp [hu])) (by simpa using h)
      rw [show (j + 1) * 4 = j * 4 + 4 by omega]
      exact this
theorem Built.row {base : Nat} {w : World} {v : Value} {l : List T} (h : Built base w v l) : ∃ a cap, v = .slice a l.length cap ∧ Row 0 (fun b => base ≤ b) w a 0 l := by
  obtain ⟨vs, h1, h2, h3⟩ := h
  rcases h2.2 with ⟨rfl, hl⟩ | ⟨g, cap, cur, rfl, hb, hcur, _⟩
  · have : l = [] := List.eq_nil_of_length_eq_zero hl
    subst this
    exact ⟨none, 0, rfl, by simp [Row]⟩
  · refine ⟨some ⟨g, 0, none⟩, cap, rfl, Row.of_at 0 l fun j t hj => ?_⟩
    have hcells := h2.cells (g := g) rfl
    have hj1 : j < l.length := (List.getElem?_eq_some_iff.1 hj).1
    have hvj : vs[j]? = some (vs[j]'(by omega)) := List.getElem?_eq_getElem (by omega)
    have his := h3 j t _ hj hvj
    have hall : ∀ u ∈ vs, ∃ x0 x1 x2 x3, u = .agg #[x0, x1, x2, x3] := by
      intro u hu
      obtain ⟨i, hi⟩ := List.getElem?_of_mem hu
      have hil : i < l.length := by rw [← h1]; exact (List.getElem?_eq_some_iff.1 hi).1
      exact is_agg (h3 i _ u (List.getElem?_eq_getElem hil) hi)
    obtain ⟨c0, c1, c2, c3, e⟩ := is_agg his
    rw [e] at his hvj
    obtain ⟨k0, k1, k2, k3⟩ := flat_get vs j c0 c1 c2 c3 hall hvj
    have ad : ∀ i, (⟨g, 0, none⟩ : Addr).add i = ⟨g, 0 + i, none⟩ := fun i => addr_add g 0 i
    have f := fun i u hu => (ad i) ▸ hcells i u hu
    rw [Nat.zero_add]
    exact ⟨g, 0, c0, c1, c2, c3, rfl, hb, .inr ⟨cur, (0, 0), hcur⟩, f _ _ k0, f _ _ k1, f _ _ k2, f _ _ k3, his.mono fun b hb => hb.1⟩
/-- the type itself -/
theorem Built.is {base : Nat} {w : World} {v : Value} {l : List T} (h : Built base w v l) (k : Nat) (s : ByteArray) (n : Int) : Is 0 (fun b => base ≤ b) w (.mk k s n l) (.agg #[.int .u8 k, .string s, .int .i64 n, v]) := by
  obtain ⟨a, cap, rfl, hr⟩ := h.row
  simp only [Is]
  exact ⟨a, cap, rfl, hr⟩
theorem own_ge {w : World} {base n b : Nat} {v : Value} {xs : List Value} (h : w.ownsRow base 40 4 v n xs) (hb : v.ownBlock = some b) : base ≤ b ∧ b < w.heap.size := by
  rcases h.2 with ⟨rfl, _⟩ | ⟨g, cap, cur, rfl, h2, h3, _⟩
  · cases hb
  · have e : g = b := by simpa [Value.ownBlock] using hb
    subst e
    exact ⟨h2, lt_of_block h3⟩
theorem Fr.grown {w w' : World} {row : Option Nat} (h : w.grownBy w' row) : Fr (fun k => row = some k) w w' := ⟨h.os, h.tape, h.output, h.size, fun k hk hn => h.block k hk fun e => hn e.symm⟩
/-- one more is appended -/
theorem Built.round {base n : Nat} {wr wb wn : World} {v v' u : Value} {l : List T} {t : T} {vs : List Value} (hb : base ≤ wr.heap.size) (hn : l.length = n) (hlen : vs.length = l.length) (hown : wr.ownsRow base 40 4 v n (vs.flatMap cells4))
    (hvi : ∀ (j : Nat) (t : T) (u : Value), l[j]? = some t → vs[j]? = some u → Is 0 (fun b => base ≤ b ∧ v.ownBlock ≠ some b) wr t u) (hf : Fr No wr wb) (hit : Is 0 (fun b => wr.heap.size ≤ b) wb t u)
    (hownn : wn.ownsRow base 40 4 v' (n + 1) (vs.flatMap cells4 ++ cells4 u)) (hgrow : wb.grownBy wn v.ownBlock) (hat : v.ownBlock = v'.ownBlock ∨ v'.ownBlock = some wb.heap.size) : Built base wn v' (l ++ [t]) ∧ Fr (fun k => base ≤ k) wr wn := by
  subst hn
  refine ⟨Built.snoc hlen (fun j t u hj hu => (hvi j t u hj hu).no hf) hownn hgrow (hat.imp Eq.symm id) (hit.mono fun b h => ⟨by omega, fun e => ?_⟩), ?_⟩
  · have := (own_ge hown e).2
    omega
  · exact hf.then' (Fr.grown hgrow) fun k e => (own_ge hown e).1
/-- what is written lies ahead of it -/
theorem Built.far {base : Nat} {w w' : World} {v : Value} {l : List T} {S : Nat → Prop} (h : Built base w v l) (hf : Fr S w w') (hs : ∀ k, S k → k < base) : Built base w' v l := by
  obtain ⟨vs, h1, h2, h3⟩ := h
  refine ⟨vs, h1, ⟨h2.1, ?_⟩, fun j t u hj hu => (h3 j t u hj hu).keep (fun b hb ho _ => hf.block b hb (fun hk => ?_)) (fun _ h => h)⟩
  · rcases h2.2 with h2 | ⟨g, cap, cur, h1, h2, h3, h4⟩
    · exact .inl h2
    · exact .inr ⟨g, cap, cur, h1, h2, hf.keeps h3 (fun hk => by have := hs g hk; omega), h4⟩
  · have := hs b hk
    omega
theorem ty_row (w : World) (g : Nat) (cs : Array Value) (hs : cs.size = 4) (hb : w.heap[g]? = some (.cells cs 40 (0, 0))) :
    (loadVar 40 ⟨g, 0, none⟩).run Try.prog w = .ok (.agg cs) w :=
  run_loadVar_row w g 40 40 cs (0, 0) _ hb Try.underlying40 rfl (by rw [hs]; kernel_rfl)
theorem four_block {w : World} {b : Nat} {arr : Array Value} {t : TypeId} {z : Nat × Nat} (h : w.heap[b]? = some (.cells arr t z)) (v0 v1 v2 v3 : Value) :
    ((((w.setCell ⟨b, 0, none⟩ v0).setCell ⟨b, 1, none⟩ v1).setCell ⟨b, 2, none⟩ v2).setCell ⟨b, 3, none⟩ v3).heap[b]? =
      some (.cells ((((arr.setIfInBounds 0 v0).setIfInBounds 1 v1).setIfInBounds 2 v2).setIfInBounds 3 v3) t z) :=
  block_setCell (block_setCell (block_setCell (block_setCell h 0 v0) 1 v1) 2 v2) 3 v3
theorem fr_four (w : World) (b : Nat) (v0 v1 v2 v3 : Value) : Fr (Just b) w ((((w.setCell ⟨b, 0, none⟩ v0).setCell ⟨b, 1, none⟩ v1).setCell ⟨b, 2, none⟩ v2).setCell ⟨b, 3, none⟩ v3) :=
  (((Fr.setCell w ⟨b, 0, none⟩ v0).trans (Fr.setCell _ ⟨b, 1, none⟩ v1) fun _ _ (h : _ = b) => (h : Just b _)).trans (Fr.setCell _ ⟨b, 2, none⟩ v2) fun _ _ (h : _ = b) => (h : Just b _)).trans (Fr.setCell _ ⟨b, 3, none⟩ v3) fun _ _ (h : _ = b) => (h : Just b _)
/-- a result is written into its place -/
theorem made_close {w wr : World} {g1 : Nat} {t : T} {v : Value} (hw : w.heap.size ≤ g1) (hF : Fr No w wr) (h : Is 0 (fun b => g1 < b) wr t v) (v0 v1 v2 v3 : Value) :
    Is 0 (fun b => w.heap.size ≤ b) ((((wr.setCell ⟨g1, 0, none⟩ v0).setCell ⟨g1, 1, none⟩ v1).setCell ⟨g1, 2, none⟩ v2).setCell ⟨g1, 3, none⟩ v3) t v ∧
      Fr No w ((((wr.setCell ⟨g1, 0, none⟩ v0).setCell ⟨g1, 1, none⟩ v1).setCell ⟨g1, 2, none⟩ v2).setCell ⟨g1, 3, none⟩ v3) :=
  ⟨h.keep (fun b hb ho _ => (fr_four wr g1 v0 v1 v2 v3).block b hb (fun e => by rw [e] at ho; exact absurd ho (Nat.lt_irrefl _))) (fun b hb => by omega), hF.own (fr_four wr g1 v0 v1 v2 v3) (fun i e => by rw [e]; exact hw)⟩
theorem results_ty_tmp {P : Program} {fn : Func} {a t u : Nat} (h : fn.results = #[.cell a t, .tmp u]) (tmps : Array Value) (w : World) (g : Nat) (cs : Array Value)
    (ha : tmps.getD a undef = .pointer (some ⟨g, 0, none⟩)) (hl : (loadVar t ⟨g, 0, none⟩).run P w = .ok (.agg cs) w) :
    (results fn tmps).run P w = .ok (.tuple #[.agg cs, tmps.getD u undef]) w := by
  have e : (asAddr (tmps.getD a undef)).run P w = .ok ⟨g, 0, none⟩ w := by rw [ha]; rfl
  simp only [Array.getD_eq_getD_getElem?] at e ⊢
  simp [results, h, e, hl, Result.andThen]
theorem results_ty {fn : Func} {p : Tmp} (h : fn.results = #[.cell p 40]) (tmps : Array Value) (w : World) (g : Nat) (cs : Array Value) (hs : cs.size = 4)
    (hp : tmps.getD p undef = .pointer (some ⟨g, 0, none⟩)) (hg : w.heap[g]? = some (.cells cs 40 (0, 0))) : (results fn tmps).run Try.prog w = .ok (.agg cs) w :=
  results_cell_row h tmps w g 40 cs (0, 0) _ hp hg Try.underlying40 rfl (by rw [hs]; kernel_rfl)
end Go.Proofs.Ythjecikdkdjlaaa
