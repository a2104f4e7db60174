/- A whole row of patterns is put behind others. -/
import Derived.Test.YthjecikdkdjlaaaPl
import Derived.Laws.AppendOwnNone
namespace Go.Proofs.Ythjecikdkdjlaaa
open Go.RowKit

theorem els_from {base : Nat} {w : World} {b off : Nat} : ∀ (l : List T) (i : Nat), Row base (fun _ => True) w (some ⟨b, off, none⟩) i l →
    ∃ es : List El, es.length = l.length ∧ (∀ (j : Nat) (u : Value), (es.flatMap El.cs)[j]? = some u → w.cell? ⟨b, off + i * 4 + j, none⟩ = some u ∧ u.oneCell' = true) ∧ ∀ (j : Nat) (t : T) (x : El), l[j]? = some t → es[j]? = some x → IsT base w t x.v
  | [], i, _ => ⟨[], rfl, fun j u h => by simp at h, fun j t x h => by simp at h⟩
  | t :: r, i, h => by
    simp only [Row] at h
    obtain ⟨⟨b', off', c0, c1, c2, c3, e, _, _, h0, h1, h2, h3, hi⟩, hr⟩ := h
    cases e
    obtain ⟨k, s, n, a, m, c, rfl, rfl, rfl, rfl⟩ := is_cells hi
    obtain ⟨es, g1, g2, g3⟩ := els_from r (i + 1) hr
    refine ⟨⟨0, .int .u8 k, .string s, .int .i64 n, .slice a m c⟩ :: es, by simp [g1], fun j u hj => ?_, fun j t' x ht hx => ?_⟩
    · rw [List.flatMap_cons] at hj
      have e4 : El.cs ⟨0, .int .u8 k, .string s, .int .i64 n, .slice a m c⟩ = [.int .u8 k, .string s, .int .i64 n, .slice a m c] := rfl
      rw [e4] at hj
      match j with
      | 0 => cases hj; exact ⟨h0, rfl⟩
      | 1 => cases hj; exact ⟨h1, rfl⟩
      | 2 => cases hj; exact ⟨h2, rfl⟩
      | 3 => cases hj; exact ⟨h3, rfl⟩
      | j + 4 =>
        have hj : (es.flatMap El.cs)[j]? = some u := hj
        have := g2 j u hj
        rw [show off + i * 4 + (j + 4) = off + (i + 1) * 4 + j by omega]
        exact this
    · cases j with
      | zero =>
        cases ht
        cases hx
        exact hi
      | succ j => exact g3 j t' x (by simpa using ht) (by simpa using hx)
theorem flat_len (es : List El) : (es.flatMap El.cs).length = es.length * 4 := flat4_len es
/-- out = append(out, row...), of patterns -/
theorem wpList_patN {w : World} {ops : Array Oper} {rest : List Oper} {o : Oper} {a : Act} {Q : Exit → Act → World → Prop} (hgd : o.guard = none) (s x : Operand)
    (ho : o.op = .call { callee := .builtin .append, args := #[s, x], argTypes := #[22, 22] }) (base B : Nat) (W0 : World) (v : Value) (acc : List T) (hs : a.eval s = v) (hv : OutP base B W0 w v acc)
    (ao : Option Addr) (n c : Nat) (hx : a.eval x = .slice ao n c) (l : List T) (hl : l.length = n) (hnone : ao = none → c = 0 ∧ l = []) (hrow : Row base (fun _ => True) W0 ao 0 l) (hf : Fr No W0 w) (m : Nat) (hm : acc.length + n = m) (hn : m ≤ 1073741824) (hB : B ≤ w.heap.size)
    (h : ∀ a' c' w', Hid (OutP base B W0 w' (.slice a' m c') (acc ++ l)) → Hid (Fr (fun k => B ≤ k) w w') → wpList Try.prog ops Q rest (a.put o.dst (.slice a' m c')) w') : wpList Try.prog ops Q (o :: rest) a w := by
  obtain ⟨i, z, hi, hz, h1, h2, h3⟩ := zero40
  obtain ⟨es, hvl, hown, hall⟩ := hv
  cases ao with
  | none =>
    obtain ⟨rfl, rfl⟩ := hnone rfl
    subst hl
    refine wpList_append_own_none hgd s x 22 ho B 40 i 4 Try.underlying22 hi v acc.length _ hs hown hx ?_
    have ho : OutP base B W0 w v acc := ⟨es, hvl, hown, hall⟩
    obtain ⟨a', c', hv'⟩ := ho.slice
    rw [show acc.length = m from hm] at hv'
    rw [hv']
    exact h _ _ _ (Lib.hid (by rw [List.append_nil, ← hv']; exact ho)) (Lib.hid ((Fr.refl No _).mono fun _ _ h => False.elim h))
  | some ad =>
    have hex : ∃ es2 : List El, es2.length = n ∧ (∀ (j : Nat) (u : Value), (es2.flatMap El.cs)[j]? = some u → w.cell? (ad.add j) = some u ∧ u.oneCell' = true) ∧ ∀ (j : Nat) (t : T) (x : El), l[j]? = some t → es2[j]? = some x → IsT base W0 t x.v := by
      cases l with
      | nil =>
        subst hl
        exact ⟨[], rfl, fun j u h => by simp at h, fun j t x h => by simp at h⟩
      | cons t r =>
        obtain ⟨b, off, _, _, _, _, e, _⟩ := Row.at_ 0 (t :: r) hrow 0 t rfl
        cases e
        obtain ⟨es2, g1, g2, g3⟩ := els_from (t :: r) 0 hrow
        refine ⟨es2, by rw [g1, hl], fun j u hj => ?_, g3⟩
        obtain ⟨k1, k2⟩ := g2 j u hj
        rw [addr_add]
        exact ⟨hf.cell (by simpa using k1), k2⟩
    obtain ⟨es2, g1, g2, g3⟩ := hex
    refine wpList_append_own w hgd s x 22 ho B 40 i z 4 56 Try.underlying22 hi hz h1 h2 h3 (by decide) v acc.length _ hs hown ad n c (es2.flatMap El.cs) hx (by rw [flat_len, g1]) (fun j u hj => (g2 j u hj).1) (fun u hu => ?_) (by unfold maxLen; omega) (by omega) hB ?_
    · obtain ⟨j, hj⟩ := List.getElem?_of_mem hu
      exact (g2 j u hj).2
    · intro v' w' hown' hg _
      have ho : OutP base B W0 w' v' (acc ++ l) := by
        refine ⟨es ++ es2, by simp [hvl, g1, hl], by rw [List.length_append, hl, List.flatMap_append]; exact hown', fun j t x hj hu => ?_⟩
        rcases Nat.lt_or_ge j acc.length with hlt | hge
        · rw [List.getElem?_append_left hlt] at hj
          rw [List.getElem?_append_left (by omega)] at hu
          exact hall j t x hj hu
        · rw [List.getElem?_append_right hge] at hj
          rw [List.getElem?_append_right (by omega), hvl] at hu
          exact g3 _ t x hj hu
      obtain ⟨a', c', hv'⟩ := ho.slice
      rw [List.length_append, hl, hm] at hv'
      rw [hv'] at ho ⊢
      refine h _ _ _ (Lib.hid ho) (Lib.hid (Fr.grownR hg fun k e => ?_))
      · rcases hown.2 with ⟨h4, _⟩ | ⟨g', cap', cur, h4, h5, _⟩
        · rw [h4] at e
          simp [Value.ownBlock] at e
        · rw [h4] at e
          have e : g' = k := by simpa [Value.ownBlock] using e
          omega
end Go.Proofs.Ythjecikdkdjlaaa
