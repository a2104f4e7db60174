/- A row of structs that the call makes for itself, whatever its elements are. -/
import Derived.Test.YthjecikdkdjlaaaBase
import Derived.Deep.AppendLies
import Derived.Laws.AppendOwn
import Derived.Laws.AppendOwnNone
namespace Go.Proofs.Ythjecikdkdjlaaa
open Go.RowKit

/-- blocks that are not a value's own -/
def Av (v : Value) (b : Nat) : Prop := v.ownBlock ≠ some b
section
variable {α : Type}
/-- what holds of an element's cells stays where the blocks that meet 'ok' stay -/
structure Kept (R : (Nat → Prop) → World → α → List Value → Prop) : Prop where
  keep : ∀ {ok ok' : Nat → Prop} {w w' : World}, (∀ b, b < w.heap.size → ok b → w'.heap[b]? = w.heap[b]? ∧ ok' b) → ∀ (t : α) (c : List Value), R ok w t c → R ok' w' t c
/-- what is known of an element's type -/
structure ElemOk (P : Program) (e k bytes : Nat) : Prop where
  ex : ∃ i z, P.info? e = some i ∧ i.zero = some z ∧ i.size = k ∧ i.bytes = bytes ∧ z.cells.size = k
  pos : 0 < k
variable {R : (Nat → Prop) → World → α → List Value → Prop} {e k : Nat}
/-- a row of one's own: its elements' blocks meet 'ok', and are not the row's own -/
def OutG (R : (Nat → Prop) → World → α → List Value → Prop) (e k : Nat) (ok : Nat → Prop) (B : Nat) (w : World) (v : Value) (n : Nat) (l : List α) : Prop :=
  l.length = n ∧ ∃ cs : List (List Value), cs.length = n ∧ (∀ c ∈ cs, c.length = k) ∧ w.ownsRow B e k v n cs.flatten ∧ ∀ (j : Nat) (t : α) (c : List Value), l[j]? = some t → cs[j]? = some c → R (fun b => ok b ∧ Av v b) w t c
theorem OutG.nil (ok : Nat → Prop) (B : Nat) (w : World) : OutG R e k ok B w (.slice none 0 0) 0 [] := ⟨rfl, [], rfl, fun c h => by simp at h, ⟨by simp, .inl ⟨rfl, rfl⟩⟩, fun j t c h => by simp at h⟩
theorem OutG.slice {ok : Nat → Prop} {B : Nat} {w : World} {v : Value} {n : Nat} {l : List α} (h : OutG R e k ok B w v n l) : ∃ a c, v = .slice a n c := by
  obtain ⟨_, cs, _, _, hown, _⟩ := h
  rcases hown.2 with ⟨h1, h2⟩ | ⟨g, cap, cur, h1, _⟩
  · exact ⟨none, 0, by rw [h1, h2]⟩
  · exact ⟨_, _, h1⟩
theorem owns_block {w : World} {B e k n : Nat} {v : Value} {xs : List Value} (h : w.ownsRow B e k v n xs) {b : Nat} (hb : v.ownBlock = some b) : B ≤ b ∧ b < w.heap.size := by
  rcases h.2 with ⟨h1, _⟩ | ⟨g, cap, cur, h1, h2, h3, _⟩
  · rw [h1] at hb
    simp [Value.ownBlock] at hb
  · rw [h1] at hb
    have e : g = b := by simpa [Value.ownBlock] using hb
    subst e
    exact ⟨h2, lt_of_block h3⟩
theorem owns_keep {w w' : World} {S : Nat → Prop} {B e k n : Nat} {v : Value} {xs : List Value} (h : w.ownsRow B e k v n xs) (hf : Fr S w w') (hv : ∀ b, v.ownBlock = some b → ¬ S b) : w'.ownsRow B e k v n xs := by
  refine ⟨h.1, ?_⟩
  rcases h.2 with h2 | ⟨g, cap, cur, h1, h2, h3, h4⟩
  · exact .inl h2
  · exact .inr ⟨g, cap, cur, h1, h2, hf.keeps h3 (hv g (by rw [h1]; rfl)), h4⟩
theorem OutG.block {ok : Nat → Prop} {B : Nat} {w : World} {v : Value} {n : Nat} {l : List α} (h : OutG R e k ok B w v n l) {b : Nat} (hb : v.ownBlock = some b) : B ≤ b ∧ b < w.heap.size := by
  obtain ⟨_, cs, _, _, hown, _⟩ := h
  exact owns_block hown hb
theorem OutG.keep (hR : Kept R) {ok : Nat → Prop} {B : Nat} {S : Nat → Prop} {w w' : World} {v : Value} {n : Nat} {l : List α} (h : OutG R e k ok B w v n l) (hf : Fr S w w') (ho : ∀ b, ok b → ¬ S b) (hv : ∀ b, v.ownBlock = some b → ¬ S b) : OutG R e k ok B w' v n l := by
  obtain ⟨h1, cs, h2, h3, hown, h4⟩ := h
  exact ⟨h1, cs, h2, h3, owns_keep hown hf hv, fun j t c hj hc => hR.keep (fun b hb hk => ⟨hf.block b hb (ho b hk.1), hk⟩) t c (h4 j t c hj hc)⟩
theorem OutG.no (hR : Kept R) {ok : Nat → Prop} {B : Nat} {w w' : World} {v : Value} {n : Nat} {l : List α} (h : OutG R e k ok B w v n l) (hf : Fr No w w') : OutG R e k ok B w' v n l := h.keep hR hf (fun _ _ => no_one) (fun _ _ => no_one)
theorem flatten_len {k : Nat} : ∀ (cs : List (List Value)), (∀ c ∈ cs, c.length = k) → cs.flatten.length = cs.length * k
  | [], _ => by simp
  | c :: cs, h => by
    rw [List.flatten_cons, List.length_append, flatten_len cs (fun x hx => h x (List.mem_cons_of_mem _ hx)), h c (List.mem_cons_self ..), List.length_cons, Nat.add_mul]
    omega
theorem flatten_at {k : Nat} : ∀ (cs : List (List Value)) (j i : Nat) (c : List Value), (∀ c ∈ cs, c.length = k) → cs[j]? = some c → i < k → cs.flatten[j * k + i]? = c[i]?
  | [], j, i, c, _, h, _ => by simp at h
  | x :: cs, 0, i, c, h, hc, hi => by
    simp only [List.getElem?_cons_zero, Option.some.injEq] at hc
    subst hc
    rw [List.flatten_cons, Nat.zero_mul, Nat.zero_add, List.getElem?_append_left (by rw [h x (List.mem_cons_self ..)]; exact hi)]
  | x :: cs, j + 1, i, c, h, hc, hi => by
    have hx := h x (List.mem_cons_self ..)
    rw [List.flatten_cons, List.getElem?_append_right (by rw [hx, Nat.add_mul]; omega), hx, ← flatten_at cs j i c (fun y hy => h y (List.mem_cons_of_mem _ hy)) (by simpa using hc) hi]
    congr 1
    rw [Nat.add_mul]
    omega
/-- an element of the row, as it lies -/
theorem OutG.at_ {ok : Nat → Prop} {B : Nat} {w : World} {a : Option Addr} {n cap : Nat} {l : List α} (h : OutG R e k ok B w (.slice a n cap) n l) {j : Nat} {t : α} (hj : l[j]? = some t) :
    ∃ g c, a = some ⟨g, 0, none⟩ ∧ B ≤ g ∧ c.length = k ∧ (∀ (i : Nat) (u : Value), c[i]? = some u → w.cell? ⟨g, j * k + i, none⟩ = some u) ∧ R (fun b => ok b ∧ b ≠ g) w t c ∧ ∃ cur z, w.heap[g]? = some (.cells cur e z) := by
  obtain ⟨h1, cs, h2, h3, hown, h4⟩ := h
  have hjn := (List.getElem?_eq_some_iff.1 hj).1
  rcases hown.2 with ⟨h5, h6⟩ | ⟨g, cap', cur, h5, h6, h7, h8, h9, h10, h11⟩
  · omega
  · cases h5
    have hc : cs[j]? = some (cs[j]'(by omega)) := List.getElem?_eq_getElem (by omega)
    have hm := h3 _ (List.mem_of_getElem? hc)
    refine ⟨g, cs[j]'(by omega), rfl, h6, hm, fun i u hu => ?_, ?_, cur, (0, 0), h7⟩
    · have hi : i < k := by rw [← hm]; exact (List.getElem?_eq_some_iff.1 hu).1
      have h12 := flatten_at cs j i _ h3 hc hi
      have hlt : j * k + i < n * k := by
        have := Nat.mul_le_mul_right k (show j + 1 ≤ n by omega)
        rw [Nat.add_mul] at this
        omega
      rw [hu, ← h11, List.getElem?_take_of_lt hlt] at h12
      rw [cell_of h7, ← h12]
      simp
    · have := h4 j t _ hj hc
      simpa [Av, Value.ownBlock, eq_comm] using this
/-- what a growing row leaves to others -/
structure Grows (B : Nat) (w w' : World) (v v' : Value) : Prop where
  fr : Fr (fun b => B ≤ b) w w'
  av : ∀ b, b < w.heap.size → Av v b → w'.heap[b]? = w.heap[b]? ∧ Av v' b
  own : ∀ b, v'.ownBlock = some b → v.ownBlock = some b ∨ b = w.heap.size
theorem grows_of {w w' : World} {B n g cap m : Nat} {v : Value} {xs : List Value} (hown : w.ownsRow B e k v n xs) (hB : B ≤ w.heap.size) (hg : w.grownBy w' v.ownBlock) (hat : v.ownBlock = some g ∨ g = w.heap.size) : Grows B w w' v (.slice (some ⟨g, 0, none⟩) m cap) := by
  refine ⟨⟨hg.os, hg.tape, hg.output, hg.size, fun b hb hn => hg.block b hb fun e => ?_⟩, fun b hb ha => ⟨hg.block b hb fun e => ha e.symm, fun e => ?_⟩, fun b hb => ?_⟩
  · exact hn (owns_block hown e.symm).1
  · have e : g = b := by simpa [Value.ownBlock] using e
    subst e
    rcases hat with hat | hat
    · exact ha hat
    · omega
  · have e : g = b := by simpa [Value.ownBlock] using hb
    subst e
    exact hat
theorem OutG.push (hR : Kept R) {ok : Nat → Prop} {B : Nat} {w w' : World} {v : Value} {n : Nat} {l : List α} (h1 : l.length = n) {cs : List (List Value)} (h2 : cs.length = n) (h3 : ∀ c ∈ cs, c.length = k) (h4 : ∀ (j : Nat) (t : α) (c : List Value), l[j]? = some t → cs[j]? = some c → R (fun b => ok b ∧ Av v b) w t c)
    {t : α} {c : List Value} (hc : c.length = k) (ht : R (fun b => ok b ∧ Av v b) w t c) {v' : Value} (hown : w'.ownsRow B e k v' (n + 1) (cs.flatten ++ c)) (hg : Grows B w w' v v') : OutG R e k ok B w' v' (n + 1) (l ++ [t]) := by
  refine ⟨by simp [h1], cs ++ [c], by simp [h2], fun x hx => ?_, by rw [List.flatten_append, List.flatten_singleton]; exact hown, fun j t' c' hj hc' => hR.keep (ok := fun b => ok b ∧ Av v b) (w := w) (fun b hb hk => ⟨(hg.av b hb hk.2).1, hk.1, (hg.av b hb hk.2).2⟩) t' c' ?_⟩
  · rcases List.mem_append.1 hx with hx | hx
    · exact h3 x hx
    · rw [List.mem_singleton.1 hx]
      exact hc
  · rcases Nat.lt_or_ge j n with hlt | hge
    · rw [List.getElem?_append_left (by omega)] at hj hc'
      exact h4 j t' c' hj hc'
    · rw [List.getElem?_append_right (by omega)] at hj hc'
      have hj0 : j - l.length = 0 := by
        have := (List.getElem?_eq_some_iff.1 hj).1
        simp at this
        omega
      rw [hj0] at hj
      rw [show j - cs.length = 0 by omega] at hc'
      simp only [List.getElem?_cons_zero, Option.some.injEq] at hj hc'
      subst hj hc'
      exact ht
variable {P : Program}
/-- one element more: out = append(out, x) -/
theorem wpList_push (hR : Kept R) {bytes : Nat} (he : ElemOk P e k bytes) {w : World} {ops : Array Oper} {rest : List Oper} {o : Oper} {a : Act} {Q : Exit → Act → World → Prop} (hgd : o.guard = none) (s x : Operand) (t : TypeId)
    (ho : o.op = .call { callee := .builtin .append, args := #[s, x], argTypes := #[t, t] }) (ht : P.underlying t = some (.slice e)) (ok : Nat → Prop) (B : Nat) (v : Value) (n : Nat) (l : List α) (hs : a.eval s = v) (hv : OutG R e k ok B w v n l)
    (gb : Nat) (c : List Value) (e0 : TypeId) (hx : a.eval x = .slice (some ⟨gb, 0, none⟩) 1 1) (hb : w.heap[gb]? = some (.cells c.toArray e0 (0, 0))) (h1 : ∀ u ∈ c, u.oneCell' = true) (hc : c.length = k) (y : α) (hy : R (fun b => ok b ∧ Av v b) w y c)
    (hn : n + 1 ≤ maxLen) (hbytes : (n + 1) * bytes ≤ 140737488355328) (hB : B ≤ w.heap.size)
    (h : ∀ a' c' w', Hid (OutG R e k ok B w' (.slice a' (n + 1) c') (n + 1) (l ++ [y])) → Hid (Grows B w w' v (.slice a' (n + 1) c')) → wpList P ops Q rest (a.put o.dst (.slice a' (n + 1) c')) w') : wpList P ops Q (o :: rest) a w := by
  obtain ⟨⟨i, z, hi, hz, z1, z2, z3⟩, hk⟩ := he
  obtain ⟨g1, cs, g2, g3, hown, g4⟩ := hv
  refine wpList_append_lies w hgd s x t ho B e i z k bytes ht hi hz z1 z2 z3 hk v n cs.flatten hs hown ⟨gb, 0, none⟩ 1 1 c hx (by omega) (World.news_of_block hb) h1 (by decide) hn hbytes hB _ rfl ?_
  intro g cap w' hown' hg hat _
  have hG := grows_of (m := n + 1) (cap := cap) hown hB hg hat
  exact h _ _ w' (Lib.hid (OutG.push hR g1 g2 g3 g4 hc hy hown' hG)) (Lib.hid hG)
/-- the same at a step of a region that draws its order -/
theorem step_push (hR : Kept R) {bytes : Nat} (he : ElemOk P e k bytes) {w : World} {ops : Array Oper} {o : Oper} {a : Act} {K : Act → World → Prop} {Q : Exit → Act → World → Prop} {E : Prop} (hgd : o.guard = none) (s x : Operand) (t : TypeId)
    (ho : o.op = .call { callee := .builtin .append, args := #[s, x], argTypes := #[t, t] }) (ht : P.underlying t = some (.slice e)) (ok : Nat → Prop) (B : Nat) (v : Value) (n : Nat) (l : List α) (hs : a.eval s = v) (hv : OutG R e k ok B w v n l)
    (gb : Nat) (c : List Value) (e0 : TypeId) (hx : a.eval x = .slice (some ⟨gb, 0, none⟩) 1 1) (hb : w.heap[gb]? = some (.cells c.toArray e0 (0, 0))) (h1 : ∀ u ∈ c, u.oneCell' = true) (hc : c.length = k) (y : α) (hy : R (fun b => ok b ∧ Av v b) w y c)
    (hn : n + 1 ≤ maxLen) (hbytes : (n + 1) * bytes ≤ 140737488355328) (hB : B ≤ w.heap.size)
    (h : ∀ a' c' w', Hid (OutG R e k ok B w' (.slice a' (n + 1) c') (n + 1) (l ++ [y])) → Hid (Grows B w w' v (.slice a' (n + 1) c')) → K (a.put o.dst (.slice a' (n + 1) c')) w') :
    if Region.wanted o (yielded ops a.tmps) = true then Oper.wp P o a w K Q else E := by
  obtain ⟨⟨i, z, hi, hz, z1, z2, z3⟩, hk⟩ := he
  obtain ⟨g1, cs, g2, g3, hown, g4⟩ := hv
  refine step_append_lies w hgd s x t ho B e i z k bytes ht hi hz z1 z2 z3 hk v n cs.flatten hs hown ⟨gb, 0, none⟩ 1 1 c hx (by omega) (World.news_of_block hb) h1 (by decide) hn hbytes hB _ rfl ?_
  intro g cap w' hown' hg hat _
  have hG := grows_of (m := n + 1) (cap := cap) hown hB hg hat
  exact h _ _ w' (Lib.hid (OutG.push hR g1 g2 g3 g4 hc hy hown' hG)) (Lib.hid hG)
/-- somebody's row copied into one's own: out = append(nil, l...) -/
theorem wpList_copied (hR : Kept R) {bytes : Nat} (he : ElemOk P e k bytes) {w : World} {ops : Array Oper} {rest : List Oper} {o : Oper} {a : Act} {Q : Exit → Act → World → Prop} (hgd : o.guard = none) (s x : Operand) (t : TypeId)
    (ho : o.op = .call { callee := .builtin .append, args := #[s, x], argTypes := #[t, t] }) (ht : P.underlying t = some (.slice e)) (ok : Nat → Prop) (hs : a.eval s = .slice none 0 0)
    (ao : Option Addr) (n c : Nat) (l : List α) (hx : a.eval x = .slice ao n c) (hl : l.length = n) (hnone : ao = none → c = 0 ∧ l = []) (cs : List (List Value)) (hcs : cs.length = n) (hk : ∀ x ∈ cs, x.length = k)
    (hcell : ∀ ad, ao = some ad → ∀ j u, cs.flatten[j]? = some u → w.cell? (ad.add j) = some u) (h1 : ∀ u ∈ cs.flatten, u.oneCell' = true) (hy : ∀ (j : Nat) (t : α) (c : List Value), l[j]? = some t → cs[j]? = some c → R ok w t c)
    (hn : n ≤ maxLen) (hbytes : n * bytes ≤ 140737488355328)
    (h : ∀ a' c' w', Hid (OutG R e k ok w.heap.size w' (.slice a' n c') n l) → Hid (Fr No w w') → wpList P ops Q rest (a.put o.dst (.slice a' n c')) w') : wpList P ops Q (o :: rest) a w := by
  obtain ⟨⟨i, z, hi, hz, z1, z2, z3⟩, hk0⟩ := he
  have hown0 : w.ownsRow w.heap.size e k (.slice none 0 0) 0 [] := ⟨by simp, .inl ⟨rfl, rfl⟩⟩
  cases ao with
  | none =>
    obtain ⟨rfl, rfl⟩ := hnone rfl
    subst hl
    refine wpList_append_own_none hgd s x t ho w.heap.size e i k ht hi (.slice none 0 0) 0 [] hs hown0 hx ?_
    exact h _ _ _ (Lib.hid (OutG.nil _ _ _)) (Lib.hid (Fr.refl _ _))
  | some ad =>
    refine wpList_append_own w hgd s x t ho w.heap.size e i z k bytes ht hi hz z1 z2 z3 hk0 (.slice none 0 0) 0 [] hs hown0 ad n c cs.flatten hx (by rw [flatten_len cs hk, hcs]) (hcell ad rfl) h1 (by omega) (by simpa using hbytes) (Nat.le_refl _) ?_
    intro v' w' hown' hg _
    rw [Nat.zero_add, List.nil_append] at hown'
    have hf : Fr No w w' := ⟨hg.os, hg.tape, hg.output, hg.size, fun b hb _ => hg.block b hb (by simp [Value.ownBlock])⟩
    have ho : OutG R e k ok w.heap.size w' v' n l := ⟨hl, cs, hcs, hk, hown', fun j t c hj hc => hR.keep (fun b hb hok => ⟨hf.block b hb no_one, hok, fun e => by
      have := (owns_block hown' e).1
      omega⟩) t c (hy j t c hj hc)⟩
    obtain ⟨a', c', hv'⟩ := ho.slice
    subst hv'
    exact h _ _ _ (Lib.hid ho) (Lib.hid hf)
end
end Go.Proofs.Ythjecikdkdjlaaa
