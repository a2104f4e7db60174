/- SyntaxJoins: a row behind a row of one's own. -/
import Derived.Test.YtjabhmepafofmaaDoorG02
set_option linter.unusedVariables false
set_option linter.unusedSimpArgs false
namespace Go.Proofs.YtjabhmepafofmaaDoor
open Go.RowKit
section
variable {α : Type} {R : (Nat → Prop) → World → α → List Value → Prop} {e k : Nat} {P : Program}
/-- somebody's row behind one's own: out = append(out, l...); the elements' blocks are old -/
theorem wpList_more (hR : Kept R) {bytes : Nat} (he : ElemOk P e k bytes) {w : World} {ops : Array Oper} {rest : List Oper} {o : Oper} {a : Act} {Q : Exit → Act → World → Prop} (hgd : o.guard = none) (s x : Operand) (t : TypeId)
    (ho : o.op = .call { callee := .builtin .append, args := #[s, x], argTypes := #[t, t] }) (ht : P.underlying t = some (.slice e)) (ok : Nat → Prop) (B : Nat) (hok : ∀ b, ok b → b < B) (hB : B ≤ w.heap.size) (v : Value) (m : Nat) (l0 : List α) (hs : a.eval s = v) (hv : OutG R e k ok B w v m l0)
    (ao : Option Addr) (n c : Nat) (l : List α) (hx : a.eval x = .slice ao n c) (hl : l.length = n) (hnone : ao = none → c = 0 ∧ l = []) (cs : List (List Value)) (hcs : cs.length = n) (hk : ∀ x ∈ cs, x.length = k)
    (hcell : ∀ ad, ao = some ad → ∀ j u, cs.flatten[j]? = some u → w.cell? (ad.add j) = some u) (h1 : ∀ u ∈ cs.flatten, u.oneCell' = true) (hy : ∀ (j : Nat) (t : α) (c : List Value), l[j]? = some t → cs[j]? = some c → R ok w t c)
    (hn : m + n ≤ maxLen) (hbytes : (m + n) * bytes ≤ 140737488355328)
    (h : ∀ a' c' w', Hid (OutG R e k ok B w' (.slice a' (m + n) c') (m + n) (l0 ++ l)) → Hid (Fr (fun b => B ≤ b) w w') → wpList P ops Q rest (a.put o.dst (.slice a' (m + n) c')) w') : wpList P ops Q (o :: rest) a w := by
  obtain ⟨⟨i, z, hi, hz, z1, z2, z3⟩, hk0⟩ := he
  have hv0 := hv
  obtain ⟨hl0, cs0, hcs0, hkc0, hown, hr0⟩ := hv
  cases ao with
  | none =>
    obtain ⟨rfl, rfl⟩ := hnone rfl
    subst hl
    refine wpList_append_own_none hgd s x t ho B e i k ht hi v m cs0.flatten hs hown hx ?_
    obtain ⟨a', c', hv'⟩ := hv0.slice
    subst hv'
    exact h _ _ _ (Lib.hid (by rw [List.append_nil]; exact hv0)) (Lib.hid (Fr.refl _ _))
  | some ad =>
    refine wpList_append_own w hgd s x t ho B e i z k bytes ht hi hz z1 z2 z3 hk0 v m cs0.flatten hs hown ad n c cs.flatten hx (by rw [flatten_len cs hk, hcs]) (hcell ad rfl) h1 hn hbytes hB ?_
    intro v' w' hown' hg _
    have hf : Fr (fun b => B ≤ b) w w' := ⟨hg.os, hg.tape, hg.output, hg.size, fun b hb hn => hg.block b hb fun e => hn (owns_block hown e.symm).1⟩
    have kept : ∀ (t : α) (c : List Value), R ok w t c → R (fun b => ok b ∧ Av v' b) w' t c := fun t c => hR.keep (fun b hb hb2 => ⟨hf.block b hb (by have := hok b hb2; omega), hb2, fun e => by
      have := (owns_block hown' e).1
      have := hok b hb2
      omega⟩) t c
    have ho : OutG R e k ok B w' v' (m + n) (l0 ++ l) := by
      refine ⟨by simp [hl0, hl], cs0 ++ cs, by simp [hcs0, hcs], fun x hx => ?_, by rw [List.flatten_append]; exact hown', fun j t' c' hj hc' => ?_⟩
      · rcases List.mem_append.1 hx with hx | hx
        · exact hkc0 x hx
        · exact hk x hx
      · rcases Nat.lt_or_ge j m with hlt | hge
        · rw [List.getElem?_append_left (by omega)] at hj hc'
          exact kept t' c' (hR.keep (fun b _ hb => ⟨rfl, hb.1⟩) t' c' (hr0 j t' c' hj hc'))
        · rw [List.getElem?_append_right (by omega)] at hj hc'
          rw [hl0] at hj
          rw [hcs0] at hc'
          exact kept t' c' (hy _ t' c' hj hc')
    obtain ⟨a', c', hv'⟩ := ho.slice
    subst hv'
    exact h _ _ _ (Lib.hid ho) (Lib.hid hf)
end
/-- the cells of a row of declarations -/
theorem hx_cells {ok : Nat → Prop} {w : World} {n cp : Nat} {a : Option Addr} {l : List D} (h : Hx ok w (.row 16 (l.map xD)) (.slice a n cp)) : ∃ cs : List (List Value), l.length = n ∧ cs.length = n ∧ (∀ x ∈ cs, x.length = 16) ∧ (∀ u ∈ cs.flatten, u.oneCell' = true) ∧
    (∀ (j : Nat) (t : List X) (c : List Value), (l.map xD)[j]? = some t → cs[j]? = some c → Hc ok w t c) ∧ (∀ ad, a = some ad → ∀ j u, cs.flatten[j]? = some u → w.cell? (ad.add j) = some u) ∧ (a = none → cp = 0 ∧ l.map xD = []) := by
  have hn : l.length = n := by
    obtain ⟨_, _, e⟩ := hx_slice h
    cases e
    simp
  have hnone : a = none → cp = 0 ∧ l.map xD = [] := by
    simp only [Hx] at h
    obtain ⟨a', c', e, h1, _⟩ := h
    cases e
    exact h1
  have key : ∀ j, j < n → ∃ c : List Value, c.length = 16 ∧ (∀ u ∈ c, u.oneCell' = true) ∧ (∀ t, (l.map xD)[j]? = some t → Hc ok w t c) ∧ ∀ ad, a = some ad → ∀ i u, c[i]? = some u → w.cell? (ad.add (j * 16 + i)) = some u := fun j hj => by
    obtain ⟨t, ht⟩ : ∃ t, l[j]? = some t := ⟨_, List.getElem?_eq_getElem (by omega)⟩
    have ht2 : (l.map xD)[j]? = some (xD t) := by rw [List.getElem?_map, ht]; rfl
    obtain ⟨g, off, c, e, _, hl, hc, hx⟩ := hx_at h ht2
    refine ⟨c, hl, fun u hu => ?_, fun t' h' => by rw [ht2] at h'; cases h'; exact hx, fun ad e2 i u hu => ?_⟩
    · obtain ⟨z0, z, p1, q1, r1, p2, q2, r2, p3, q3, r3, k, s, n, b, m, cp, k2, s2, n2, u2, b1, m1, c1, b2, m2, c2, b3, m3, c3, rfl⟩ := hcD hx
      simp only [List.mem_cons, List.not_mem_nil, or_false] at hu
      rcases hu with rfl | rfl | rfl | rfl | rfl | rfl | rfl | rfl | rfl | rfl | rfl | rfl | rfl | rfl | rfl | rfl <;> rfl
    · rw [e] at e2
      cases e2
      rw [addr_add, show off + (j * 16 + i) = off + j * 16 + i by omega]
      exact hc i u hu
  obtain ⟨f, hf⟩ : ∃ f : Nat → List Value, ∀ j, j < n → (f j).length = 16 ∧ (∀ u ∈ f j, u.oneCell' = true) ∧ (∀ t, (l.map xD)[j]? = some t → Hc ok w t (f j)) ∧ ∀ ad, a = some ad → ∀ i u, (f j)[i]? = some u → w.cell? (ad.add (j * 16 + i)) = some u :=
    ⟨fun j => if hj : j < n then Classical.choose (key j hj) else [], fun j hj => by
      simp only [hj, dif_pos]
      exact Classical.choose_spec (key j hj)⟩
  have hk : ∀ x ∈ (List.range n).map f, x.length = 16 := fun x hx => by
    obtain ⟨j, hj, rfl⟩ := List.mem_map.1 hx
    exact (hf j (List.mem_range.1 hj)).1
  refine ⟨(List.range n).map f, hn, by simp, hk, fun u hu => ?_, fun j t c hj hc => ?_, fun ad e j u hu => ?_, hnone⟩
  · obtain ⟨c, hc, hu⟩ := List.mem_flatten.1 hu
    obtain ⟨j, hj, rfl⟩ := List.mem_map.1 hc
    exact (hf j (List.mem_range.1 hj)).2.1 u hu
  · obtain ⟨hj2, e⟩ := List.getElem?_eq_some_iff.1 hc
    simp at hj2 e
    subst e
    exact (hf j hj2).2.2.1 t hj
  · have hl2 := (List.getElem?_eq_some_iff.1 hu).1
    rw [flatten_len _ hk] at hl2
    simp at hl2
    have h16 : j / 16 < n := by omega
    have := (hf (j / 16) h16).2.2.2 ad e (j % 16) u ?_
    · rw [show j / 16 * 16 + j % 16 = j by omega] at this
      exact this
    · rw [← hu]
      have h5 : ((List.range n).map f)[j / 16]? = some (f (j / 16)) := by rw [List.getElem?_map, List.getElem?_range h16]; rfl
      have := flatten_at ((List.range n).map f) (j / 16) (j % 16) _ hk h5 (by omega)
      rw [show j / 16 * 16 + j % 16 = j by omega] at this
      exact this.symm
end Go.Proofs.YtjabhmepafofmaaDoor
