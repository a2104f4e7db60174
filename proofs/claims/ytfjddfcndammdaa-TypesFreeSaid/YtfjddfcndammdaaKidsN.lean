/- A row of types that a call builds, whose types lie in other memory of the call's own or in memory that was there (below N). -/
import Derived.Test.YtfjddfcndammdaaBk
namespace Go.Proofs.Ytfjddfcndammdaa
open Go.RowKit

def okN (N base : Nat) (b : Nat) : Prop := b < N ∨ base ≤ b
def BuiltN (B0 N base : Nat) (w : World) (v : Value) (l : List T) : Prop :=
  ∃ vs : List Value, vs.length = l.length ∧ w.ownsRow base 24 4 v l.length (vs.flatMap cells4) ∧ ∀ (j : Nat) (t : T) (u : Value), l[j]? = some t → vs[j]? = some u → Is B0 (fun b => okN N base b ∧ v.ownBlock ≠ some b) w t u
theorem BuiltN.nil (B0 N base : Nat) (w : World) : BuiltN B0 N base w (.slice none 0 0) [] := ⟨[], rfl, ⟨rfl, .inl ⟨rfl, rfl⟩⟩, fun j t u h => by simp at h⟩
theorem BuiltN.keep {B0 N base : Nat} {w w' : World} {v : Value} {l : List T} (h : BuiltN B0 N base w v l) (hf : Fr No w w') : BuiltN B0 N base w' v l := by
  obtain ⟨vs, h1, h2, h3⟩ := h
  exact ⟨vs, h1, owns_no h2 hf, fun j t u hj hu => (h3 j t u hj hu).no hf⟩
theorem BuiltN.snoc {B0 N base : Nat} {w w' : World} {v v' : Value} {l : List T} {t : T} {u : Value} {vs : List Value} (hlen : vs.length = l.length) (h : ∀ (j : Nat) (t : T) (u : Value), l[j]? = some t → vs[j]? = some u → Is B0 (fun b => okN N base b ∧ v.ownBlock ≠ some b) w t u)
    (hown : w'.ownsRow base 24 4 v' (l.length + 1) (vs.flatMap cells4 ++ cells4 u)) (hg : w.grownBy w' v.ownBlock) (hat : v'.ownBlock = v.ownBlock ∨ v'.ownBlock = some w.heap.size) (ht : Is B0 (fun b => okN N base b ∧ v.ownBlock ≠ some b) w t u) :
    BuiltN B0 N base w' v' (l ++ [t]) := by
  have keep : ∀ (t : T) (u : Value), Is B0 (fun b => okN N base b ∧ v.ownBlock ≠ some b) w t u → Is B0 (fun b => okN N base b ∧ v'.ownBlock ≠ some b) w' t u := by
    intro t u h
    have h1 : Is B0 (fun b => (okN N base b ∧ v.ownBlock ≠ some b) ∧ b < w.heap.size) w t u := is_lt t u h
    refine (h1.keep (ok' := fun b => (okN N base b ∧ v.ownBlock ≠ some b) ∧ b < w.heap.size) ?_ (fun b h => h)).mono ?_
    · intro b hb ho _
      exact hg.block b hb (fun e => ho.1.2 e.symm)
    · rintro b ⟨⟨h2, h3⟩, h4⟩
      refine ⟨h2, ?_⟩
      rcases hat with e | e
      · rw [e]
        exact h3
      · rw [e]
        intro e2
        injection e2 with e2
        omega
  refine ⟨vs ++ [u], by simp [hlen], ?_, ?_⟩
  · rw [List.length_append, List.flatMap_append]
    simpa using hown
  · intro j t' u' hj hu
    rcases Nat.lt_or_ge j l.length with h1 | h1
    · rw [List.getElem?_append_left h1] at hj
      rw [List.getElem?_append_left (by rw [hlen]; exact h1)] at hu
      exact keep t' u' (h j t' u' hj hu)
    · rw [List.getElem?_append_right h1] at hj
      rw [List.getElem?_append_right (by rw [hlen]; exact h1)] at hu
      rw [hlen] at hu
      obtain ⟨h2, h3⟩ : j - l.length = 0 ∧ True := by
        have := (List.getElem?_eq_some_iff.1 hj).1
        simp at this
        exact ⟨by omega, trivial⟩
      rw [h2] at hj hu
      simp only [List.getElem?_cons_zero, Option.some.injEq] at hj hu
      subst hj hu
      exact keep t u ht
theorem BuiltN.row {B0 N base : Nat} {w : World} {v : Value} {l : List T} (h : BuiltN B0 N base w v l) : ∃ a cap, v = .slice a l.length cap ∧ Row B0 (okN N base) w a 0 l := by
  obtain ⟨vs, h1, h2, h3⟩ := h
  rcases h2.2 with ⟨rfl, hl⟩ | ⟨g, cap, cur, rfl, hb, hcur, _⟩
  · have : l = [] := List.eq_nil_of_length_eq_zero hl
    subst this
    exact ⟨none, 0, rfl, by simp [Row]⟩
  · refine ⟨some ⟨g, 0, none⟩, cap, rfl, Row.of_at 0 l fun j t hj => ?_⟩
    have hcells := h2.cells (g := g) rfl
    have hj1 : j < l.length := (List.getElem?_eq_some_iff.1 hj).1
    have hvj : vs[j]? = some (vs[j]'(by omega)) := List.getElem?_eq_getElem (by omega)
    have his := h3 j t _ hj hvj
    have hall : ∀ u ∈ vs, ∃ x0 x1 x2 x3, u = .agg #[x0, x1, x2, x3] := by
      intro u hu
      obtain ⟨i, hi⟩ := List.getElem?_of_mem hu
      have hil : i < l.length := by rw [← h1]; exact (List.getElem?_eq_some_iff.1 hi).1
      exact is_agg (h3 i _ u (List.getElem?_eq_getElem hil) hi)
    obtain ⟨c0, c1, c2, c3, e⟩ := is_agg his
    rw [e] at his hvj
    obtain ⟨k0, k1, k2, k3⟩ := flat_get vs j c0 c1 c2 c3 hall hvj
    have ad : ∀ i, (⟨g, 0, none⟩ : Addr).add i = ⟨g, 0 + i, none⟩ := fun i => addr_add g 0 i
    have f := fun i u hu => (ad i) ▸ hcells i u hu
    rw [Nat.zero_add]
    exact ⟨g, 0, c0, c1, c2, c3, rfl, .inr hb, .inr ⟨cur, (0, 0), hcur⟩, f _ _ k0, f _ _ k1, f _ _ k2, f _ _ k3, his.mono fun b hb => hb.1⟩
theorem BuiltN.is {B0 N base : Nat} {w : World} {v : Value} {l : List T} (h : BuiltN B0 N base w v l) (k : Nat) (s : ByteArray) (n : Int) : Is B0 (okN N base) w (.mk k s n l) (.agg #[.int .u8 k, .string s, .int .i64 n, v]) := by
  obtain ⟨a, cap, rfl, hr⟩ := h.row
  simp only [Is]
  exact ⟨a, cap, rfl, hr⟩
/-- one more is appended -/
theorem BuiltN.round {B0 N base n : Nat} {wr wb wn : World} {v v' u : Value} {l : List T} {t : T} {vs : List Value} (hN : N ≤ base) (hb : base ≤ wr.heap.size) (hn : l.length = n) (hlen : vs.length = l.length) (hown : wr.ownsRow base 24 4 v n (vs.flatMap cells4))
    (hvi : ∀ (j : Nat) (t : T) (u : Value), l[j]? = some t → vs[j]? = some u → Is B0 (fun b => okN N base b ∧ v.ownBlock ≠ some b) wr t u) (hf : Fr No wr wb) (hit : Is B0 (okN N wr.heap.size) wb t u)
    (hownn : wn.ownsRow base 24 4 v' (n + 1) (vs.flatMap cells4 ++ cells4 u)) (hgrow : wb.grownBy wn v.ownBlock) (hat : v.ownBlock = v'.ownBlock ∨ v'.ownBlock = some wb.heap.size) : BuiltN B0 N base wn v' (l ++ [t]) ∧ Fr (fun k => base ≤ k) wr wn := by
  subst hn
  refine ⟨BuiltN.snoc hlen (fun j t u hj hu => (hvi j t u hj hu).no hf) hownn hgrow (hat.imp Eq.symm id) (hit.mono fun b h => ⟨?_, fun e => ?_⟩), ?_⟩
  · rcases h with h | h
    · exact .inl h
    · exact .inr (by omega)
  · have h1 := own_ge hown e
    rcases h with h | h
    · omega
    · omega
  · exact hf.then' (Fr.grown hgrow) fun k e => (own_ge hown e).1
/-- what is written lies ahead of it, in no row of types -/
theorem BuiltN.far {B0 N base : Nat} {w w' : World} {v : Value} {l : List T} {S : Nat → Prop} (h : BuiltN B0 N base w v l) (hf : Fr S w w') (hs : ∀ k, S k → N ≤ k ∧ k < base) : BuiltN B0 N base w' v l := by
  obtain ⟨vs, h1, h2, h3⟩ := h
  refine ⟨vs, h1, ⟨h2.1, ?_⟩, fun j t u hj hu => (h3 j t u hj hu).keep (fun b hb ho _ => hf.block b hb (fun hk => ?_)) (fun _ h => h)⟩
  · rcases h2.2 with h2 | ⟨g, cap, cur, h1, h2, h3, h4⟩
    · exact .inl h2
    · exact .inr ⟨g, cap, cur, h1, h2, hf.keeps h3 (fun hk => by have := hs g hk; omega), h4⟩
  · have := hs b hk
    rcases ho.1 with h | h
    · omega
    · omega
end Go.Proofs.Ytfjddfcndammdaa
