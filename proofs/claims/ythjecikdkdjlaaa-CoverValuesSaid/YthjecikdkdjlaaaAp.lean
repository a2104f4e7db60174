/- A row that is made element by element: appended to with a zero one, then written. -/
import Derived.Test.YthjecikdkdjlaaaRp
import Derived.Test.YthjecikdkdjlaaaRd
import Derived.ArgAppend
import Derived.Deep.AppendLies
import Derived.Deep.MidRow
import Derived.RangeFuncBox
namespace Go.Proofs.Ythjecikdkdjlaaa
open Go.RowKit

theorem Fr.grownR {w w' : World} {r : Option Nat} {S : Nat → Prop} (h : w.grownBy w' r) (hr : ∀ k, r = some k → S k) : Fr S w w' :=
  ⟨h.os, h.tape, h.output, h.size, fun k hk hn => h.block k hk fun e => hn (hr k e.symm)⟩
theorem zero40 : ∃ i z, Try.prog.info? 40 = some i ∧ i.zero = some z ∧ i.size = 4 ∧ i.bytes = 56 ∧ z.cells.size = 4 := ⟨_, _, rfl, rfl, rfl, rfl, rfl⟩
/-- a row that is being made: somebody else's that is full, or one's own -/
def OutV (N : Nat) (W : World) (v : Value) (n : Nat) (xs : List Value) : Prop :=
  W.ownsRow N 40 4 v n xs ∨ ∃ a, v = .slice a n n ∧ (a = none → n = 0) ∧ xs.length = n * 4 ∧ ∀ b, a = some b → ∀ j u, xs[j]? = some u → W.cell? (b.add j) = some u
theorem OutV.len {N : Nat} {W : World} {v : Value} {n : Nat} {xs : List Value} (h : OutV N W v n xs) : xs.length = n * 4 := by
  rcases h with h | ⟨a, _, _, h, _⟩
  · exact h.1
  · exact h
theorem OutV.slice {N : Nat} {W : World} {v : Value} {n : Nat} {xs : List Value} (h : OutV N W v n xs) : ∃ a c, v = .slice a n c := by
  rcases h with h | ⟨a, h, _⟩
  · rcases h.2 with ⟨h1, h2⟩ | ⟨g, cap, cur, h1, _⟩
    · exact ⟨none, 0, by rw [h1, h2]⟩
    · exact ⟨_, _, h1⟩
  · exact ⟨_, _, h⟩
theorem keeps_row {w w' : World} {N n : Nat} {v : Value} {xs : List Value} (h : w.ownsRow N 40 4 v n xs) (hg : w.grownBy w' v.ownBlock) : KeepsOthers w w' ∧ Fr (fun k => N ≤ k) w w' := by
  rcases h.2 with ⟨rfl, _⟩ | ⟨g, cap, cur, rfl, hb, hgb, _⟩
  · exact ⟨KeepsOthers.of_grownBy hg (fun j o e _ => by simp [Value.ownBlock] at e), Fr.grownR hg (fun k e => by simp [Value.ownBlock] at e)⟩
  · refine ⟨KeepsOthers.of_grownBy hg (fun j o e ho => ?_), Fr.grownR hg (fun k e => ?_)⟩
    · have e : g = j := by simpa [Value.ownBlock] using e
      subst e
      rw [hgb] at ho
      cases ho
      rfl
    · have e : g = k := by simpa [Value.ownBlock] using e
      subst e
      exact hb
theorem run_append_out {w : World} {N : Nat} {v : Value} {n : Nat} {xs : List Value} (t ty : TypeId) (ht : Try.prog.underlying t = some (.slice 40)) (hv : OutV N w v n xs)
    (ad : Addr) (c : Nat) (news : List Value) (hl : news.length = 4) (hnews : ∀ j u, news[j]? = some u → w.cell? (ad.add j) = some u) (h1 : ∀ u ∈ news, u.oneCell' = true)
    (hn : n + 1 ≤ 1073741824) (hN : N ≤ w.heap.size) :
    ∃ g cap w', (Builtin.append_ #[t, t] ty #[v, .slice (some ad) 1 c]).run Try.prog w = .ok (.slice (some ⟨g, 0, none⟩) (n + 1) cap) w' ∧
      w'.ownsRow N 40 4 (.slice (some ⟨g, 0, none⟩) (n + 1) cap) (n + 1) (xs ++ news) ∧ KeepsOthers w w' ∧ Fr (fun k => N ≤ k) w w' := by
  obtain ⟨i, z, hi, hz, hs, hb, hzs⟩ := zero40
  rcases hv with hv | ⟨a, rfl, ha, hx, hc⟩
  · obtain ⟨g, cap, w', r1, r2, r3, _, _⟩ := run_append_lies (P := Try.prog) w t ty N 40 i z 4 56 ht hi hz hs hb hzs (by decide) v n xs hv ad 1 c news (by omega) hnews h1 (by decide) (by unfold maxLen; omega) (by omega) hN _ rfl
    exact ⟨g, cap, w', r1, r2, keeps_row hv r3⟩
  · cases a with
    | none =>
      have hn0 := ha rfl
      subst hn0
      obtain rfl : xs = [] := List.eq_nil_of_length_eq_zero (by omega)
      have hv := World.ownsRow_nil w N 40 4
      obtain ⟨g, cap, w', r1, r2, r3, _, _⟩ := run_append_lies (P := Try.prog) w t ty N 40 i z 4 56 ht hi hz hs hb hzs (by decide) (.slice none 0 0) 0 [] hv ad 1 c news (by omega) hnews h1 (by decide) (by unfold maxLen; omega) (by omega) hN _ rfl
      exact ⟨g, cap, w', r1, r2, keeps_row hv r3⟩
    | some b =>
      obtain ⟨v', w', r1, r2, r3⟩ := run_append_arg_grows (P := Try.prog) w t ty 40 i z 4 56 ht hi hz hs hb hzs (by decide) b n n xs (by omega) (hc b rfl) ad 1 c news (by omega) hnews (by omega) (by unfold maxLen; omega) (by omega)
      obtain ⟨g, cap, rfl, hge, _⟩ := r2.form (by omega)
      refine ⟨g, cap, w', r1, ⟨r2.1, ?_⟩, KeepsOthers.of_grownBy r3 (fun j o e _ => by cases e), Fr.grownR r3 (fun k e => by cases e)⟩
      rcases r2.2 with ⟨h0, h⟩ | ⟨g1, c1, cur, h2, h3, h4⟩
      · omega
      · exact .inr ⟨g1, c1, cur, h2, by omega, h4⟩
theorem step_out {w : World} {ops : Array Oper} {o : Oper} {a : Act} {K : Act → World → Prop} {Q : Exit → Act → World → Prop} {E : Prop} (hgd : o.guard = none) (dst : Option Tmp) (hdst : o.dst = dst) (s x : Operand) (t : TypeId)
    (ho : o.op = .call { callee := .builtin .append, args := #[s, x], argTypes := #[t, t] }) (ht : Try.prog.underlying t = some (.slice 40))
    (N : Nat) (v : Value) (n : Nat) (xs : List Value) (hs : a.eval s = v) (hv : OutV N w v n xs)
    (ad : Addr) (c : Nat) (news : List Value) (hx : a.eval x = .slice (some ad) 1 c) (hl : news.length = 4) (hnews : ∀ j u, news[j]? = some u → w.cell? (ad.add j) = some u) (h1 : ∀ u ∈ news, u.oneCell' = true)
    (hn : n + 1 ≤ 1073741824) (hN : N ≤ w.heap.size)
    (h : ∀ g cap w', w'.ownsRow N 40 4 (.slice (some ⟨g, 0, none⟩) (n + 1) cap) (n + 1) (xs ++ news) → KeepsOthers w w' → Fr (fun k => N ≤ k) w w' → K (a.put dst (.slice (some ⟨g, 0, none⟩) (n + 1) cap)) w') :
    if Region.wanted o (yielded ops a.tmps) = true then Oper.wp Try.prog o a w K Q else E := by
  subst hdst
  have hw : Region.wanted o (yielded ops a.tmps) = true := by simp [Region.wanted, hgd]
  rw [if_pos hw]
  obtain ⟨g, cap, w', hr, h2, h3, h4⟩ := run_append_out t o.type ht hv ad c news hl hnews h1 hn hN
  unfold Oper.wp execOp
  simp only [ho, resolve, invoke, builtin, Sem.run_bind, Sem.run_pure, Result.andThen_ok, List.map_toArray, List.map_cons, List.map_nil, hs, hx, hr]
  exact h g cap w' h2 h3 h4
theorem setCells_block (b : Nat) (t : TypeId) : ∀ (vs : List Value) (o : Nat) (w : World) (cur : Array Value), w.heap[b]? = some (.cells cur t (0, 0)) → o + vs.length ≤ cur.size →
    (w.setCells b o vs).heap[b]? = some (.cells (cur.toList.take o ++ vs ++ cur.toList.drop (o + vs.length)).toArray t (0, 0)) ∧ Fr (Just b) w (w.setCells b o vs) ∧ KeepsOthers w (w.setCells b o vs)
  | [], o, w, cur, h, _ => by
    simp only [World.setCells, List.append_nil, List.length_nil, Nat.add_zero, List.take_append_drop]
    exact ⟨h, Fr.refl _ _, KeepsOthers.refl _⟩
  | v :: r, o, w, cur, h, hb => by
    simp only [List.length_cons] at hb
    obtain ⟨h1, h2, h3⟩ := setCells_block b t r (o + 1) (w.setCell ⟨b, o, none⟩ v) (cur.setIfInBounds o v) (block_setCell h o v) (by simp; omega)
    refine ⟨?_, (Fr.setCell w ⟨b, o, none⟩ v).trans h2 (fun _ _ h => h), (KeepsOthers.setCell w _ v).trans h3⟩
    simp only [World.setCells]
    rw [h1]
    congr 3
    rw [List.length_cons, show o + (r.length + 1) = o + 1 + r.length by omega]
    have hl : o < cur.toList.length := by simp; omega
    have e1 : (cur.setIfInBounds o v).toList = cur.toList.set o v := by simp
    rw [e1, List.take_set, List.drop_set_of_lt (by omega), List.take_add_one, List.getElem?_eq_getElem hl]
    simp only [Option.toList_some]
    have e2 : (List.take o cur.toList ++ [cur.toList[o]]).set o v = List.take o cur.toList ++ [v] := by
      rw [List.set_append_right _ _ (by simp; omega)]
      have : o - (List.take o cur.toList).length = 0 := by simp; omega
      rw [this]
      rfl
    rw [e2]
    simp
/-- the element behind the row's others is written -/
theorem own_store4 {w : World} {N g cap n : Nat} {xs news cs : List Value} (h : w.ownsRow N 40 4 (.slice (some ⟨g, 0, none⟩) (n + 1) cap) (n + 1) (xs ++ news)) (hx : xs.length = n * 4) (hc : cs.length = 4) :
    N ≤ g ∧ w.there g (n * 4) 4 ∧ (w.setCells g (n * 4) cs).ownsRow N 40 4 (.slice (some ⟨g, 0, none⟩) (n + 1) cap) (n + 1) (xs ++ cs) ∧ Fr (Just g) w (w.setCells g (n * 4) cs) ∧ KeepsOthers w (w.setCells g (n * 4) cs) := by
  rcases h.2 with ⟨h0, h1⟩ | ⟨g1, c1, cur, h0, h1, h2, h3, h4, h5, h6⟩
  · omega
  · simp only [Value.slice.injEq, Option.some.injEq, Addr.mk.injEq, and_true, true_and] at h0
    obtain ⟨rfl, rfl⟩ := h0
    have hsz : n * 4 + 4 ≤ cur.size := by rw [h5]; omega
    obtain ⟨k1, k2, k3⟩ := setCells_block g 40 cs (n * 4) w cur h2 (by omega)
    refine ⟨h1, fun j hj => ⟨?_, free_of h2 _⟩, ⟨?_, .inr ⟨g, cap, _, rfl, h1, k1, h3, h4, ?_, ?_⟩⟩, k2, k3⟩
    · rw [cell_of h2, Array.getElem?_eq_getElem (by omega)]
      rfl
    · rw [List.length_append, hx, hc]; omega
    · simp only [List.append_assoc, List.size_toArray, List.length_append, List.length_take, List.length_drop, Array.length_toList, hc, h5]
      omega
    · have ht : cur.toList.take (n * 4) = xs := by
        have := congrArg (List.take (n * 4)) h6
        rw [List.take_take, List.take_append_of_le_length (by omega), List.take_of_length_le (l := xs) (by omega), Nat.min_eq_left (by omega)] at this
        exact this
      simp only [ht]
      rw [List.take_append_of_le_length (by simp [hx, hc]; omega), List.take_of_length_le (by simp [hx, hc]; omega)]
def El.cs (x : El) : List Value := [x.c0, x.c1, x.c2, x.c3]
def OkE (base : Nat) (W : World) (ks : List T) (x : El) : Prop := ∃ t, IsT base W t x.v ∧ (x.i < ks.length → ks[x.i]? = some t)
theorem els_of {base : Nat} {W : World} {ks : List T} {a : Option Addr} (h : Row base (fun _ => True) W a 0 ks) : ∃ el : Nat → { x : El // OkE base W ks x }, (∀ j, (el j).1.i = j) ∧ ∀ j, j < ks.length → ∃ b off, a = some ⟨b, off, none⟩ ∧
    (b < base ∨ ∃ cs z, W.heap[b]? = some (.cells cs 40 z)) ∧ W.cell? ⟨b, off + j * 4, none⟩ = some (el j).1.c0 ∧ W.cell? ⟨b, off + j * 4 + 1, none⟩ = some (el j).1.c1 ∧ W.cell? ⟨b, off + j * 4 + 2, none⟩ = some (el j).1.c2 ∧ W.cell? ⟨b, off + j * 4 + 3, none⟩ = some (el j).1.c3 := by
  have hx : ∀ j, ∃ x : { x : El // OkE base W ks x }, x.1.i = j ∧ (j < ks.length → ∃ b off, a = some ⟨b, off, none⟩ ∧
    (b < base ∨ ∃ cs z, W.heap[b]? = some (.cells cs 40 z)) ∧ W.cell? ⟨b, off + j * 4, none⟩ = some x.1.c0 ∧ W.cell? ⟨b, off + j * 4 + 1, none⟩ = some x.1.c1 ∧ W.cell? ⟨b, off + j * 4 + 2, none⟩ = some x.1.c2 ∧ W.cell? ⟨b, off + j * 4 + 3, none⟩ = some x.1.c3) := by
    intro j
    by_cases hj : j < ks.length
    · obtain ⟨b, off, c0, c1, c2, c3, e, _, hb, d0, d1, d2, d3, hi⟩ := Row.at_ 0 ks h j ks[j] (List.getElem?_eq_getElem hj)
      rw [Nat.zero_add] at d0 d1 d2 d3
      exact ⟨⟨⟨j, c0, c1, c2, c3⟩, ks[j], hi, fun _ => List.getElem?_eq_getElem hj⟩, rfl, fun _ => ⟨b, off, e, hb, d0, d1, d2, d3⟩⟩
    · exact ⟨⟨⟨j, .int .u8 1, .string ⟨#[]⟩, .int .i64 0, .slice none 0 0⟩, anyP, is_anyP W, fun h => absurd h hj⟩, rfl, fun h => absurd h hj⟩
  exact ⟨fun j => (hx j).choose, fun j => (hx j).choose_spec.1, fun j => (hx j).choose_spec.2⟩
theorem flat4_at : ∀ (es : List El) (j i : Nat), i < 4 → (es.flatMap El.cs)[j * 4 + i]? = (es[j]?).bind (fun x => x.cs[i]?)
  | [], j, i, _ => by simp
  | x :: r, 0, i, hi => by
    simp only [List.flatMap_cons, Nat.zero_mul, Nat.zero_add, List.getElem?_cons_zero, Option.bind_some]
    exact List.getElem?_append_left (by simp [El.cs]; omega)
  | x :: r, j + 1, i, hi => by
    simp only [List.flatMap_cons, List.getElem?_cons_succ]
    rw [List.getElem?_append_right (by simp [El.cs]; omega), ← flat4_at r j i hi]
    congr 1
    simp [El.cs]
    omega
theorem flat4_len (es : List El) : (es.flatMap El.cs).length = es.length * 4 := by
  induction es with
  | nil => rfl
  | cons x r ih =>
    simp only [List.flatMap_cons, List.length_append, ih, List.length_cons]
    simp [El.cs]
    omega
theorem row_of_els {base N : Nat} {W : World} {v : Value} {n : Nat} {es : List El} {ts : List T} (h : W.ownsRow N 40 4 v n (es.flatMap El.cs)) (hl : es.length = ts.length) (hi : ∀ (j : Nat) (t : T) (x : El), ts[j]? = some t → es[j]? = some x → IsT base W t x.v) : RowV base W v ts := by
  have hn : n = ts.length := by
    have := h.1
    rw [flat4_len] at this
    omega
  rcases h.2 with ⟨rfl, h0⟩ | ⟨g, cap, cur, rfl, h1, h2, h3, h4, h5, h6⟩
  · have : ts = [] := List.eq_nil_of_length_eq_zero (by omega)
    subst this
    exact ⟨none, 0, rfl, Nat.le_refl _, by simp [Row]⟩
  · refine ⟨some ⟨g, 0, none⟩, cap, by rw [hn], by omega, Row.of_at 0 _ fun j t hj => ?_⟩
    have hjl : j < es.length := by rw [hl]; exact (List.getElem?_eq_some_iff.1 hj).1
    have hx : es[j]? = some es[j] := List.getElem?_eq_getElem hjl
    have hcell : ∀ i u, i < 4 → (es[j]).cs[i]? = some u → W.cell? ⟨g, 0 + (0 + j) * 4 + i, none⟩ = some u := fun i u hi hu => by
      rw [cell_of h2]
      have h7 := flat4_at es j i hi
      rw [hx, Option.bind_some, hu, ← h6, List.getElem?_take_of_lt (by omega)] at h7
      rw [← h7]
      simp
    exact ⟨g, 0, _, _, _, _, rfl, trivial, .inr ⟨cur, (0, 0), h2⟩, hcell 0 _ (by omega) rfl, hcell 1 _ (by omega) rfl, hcell 2 _ (by omega) rfl, hcell 3 _ (by omega) rfl, hi j t _ hj hx⟩
/-- types stay where but a box and new blocks are written -/
def Sl (B1 N : Nat) (k : Nat) : Prop := k = B1 ∨ N ≤ k
theorem isT_loop {base B1 : Nat} {W0 W : World} {t : T} {v : Value} {cs : Array Value} {ty : TypeId} (h : IsT base W0 t v) (hf : Fr (Sl B1 W0.heap.size) W0 W) (hb : base ≤ B1) (hB : W0.heap[B1]? = some (.cells cs ty (0, 0))) (hty : ty ≠ 40) : IsT base W t v := by
  refine Is.keep (fun b hb1 _ hb2 => hf.block b hb1 ?_) (fun _ h => h) t v h
  rintro (rfl | h1)
  · rcases hb2 with h2 | ⟨cs', z, h2⟩
    · omega
    · rw [hB] at h2
      simp only [Option.some.injEq, Obj.cells.injEq] at h2
      exact hty h2.2.1
  · omega
/-- the row that is being made, behind so many rounds -/
def Making (W0 : World) (B1 nl : Nat) (ar : Option Addr) (E0 : List El) (pre : List El) (W : World) : Prop :=
  Fr (Sl B1 W0.heap.size) W0 W ∧ ∃ v, Boxed W B1 58 v ∧ (W.ownsRow W0.heap.size 40 4 v (nl + pre.length) ((E0 ++ pre).flatMap El.cs) ∨ (pre = [] ∧ v = .slice ar nl nl))
theorem fr_turned {W W' : World} {r : Option Nat} {S : Nat → Prop} {W0 : World} (h : Fr S W0 W) (hg : W.grownBy W' r) (hr : ∀ k, r = some k → S k) : Fr S W0 W' := h.trans (Fr.grownR hg hr) (fun _ _ h => h)
theorem Making.turned {W0 W W' : World} {B1 nl : Nat} {ar : Option Addr} {E0 pre : List El} {r : Option Nat} (h : Making W0 B1 nl ar E0 pre W) (hg : W.grownBy W' r) (hr : ∀ k, r = some k → W0.heap.size ≤ k ∧ ∃ o : Obj, W.heap[k]? = some o ∧ o.isCells = false) : Making W0 B1 nl ar E0 pre W' := by
  obtain ⟨h1, v, h2, h3⟩ := h
  refine ⟨fr_turned h1 hg (fun k e => .inr (hr k e).1), v, boxed_own B1 58 (fun (_ : Unit) => v) () W W' r h2 hg (fun k e => (hr k e).2), ?_⟩
  rcases h3 with h3 | h3
  · left
    refine h3.kept hg ?_
    rcases h3.2 with ⟨h4, _⟩ | ⟨g, cap, cur, h4, _, h5, _⟩
    · exact .inl (by rw [h4]; rfl)
    · refine .inr fun e => ?_
      obtain ⟨o, ho, hc⟩ := (hr g (by rw [← e, h4]; rfl)).2
      rw [h5] at ho
      cases ho
      cases hc
  · exact .inr h3
theorem Making.out {W0 W : World} {B1 nl : Nat} {ar : Option Addr} {E0 pre : List El} (h : Making W0 B1 nl ar E0 pre W) (hB : W0.heap[B1]? = some (.cells #[.slice ar nl nl] 58 (0, 0))) (hnone : ar = none → nl = 0) (hl : E0.length = nl)
    (hc : ∀ j, j < nl → ∃ b off, ar = some ⟨b, off, none⟩ ∧ b ≠ B1 ∧ ∃ x, E0[j]? = some x ∧ W0.cell? ⟨b, off + j * 4, none⟩ = some x.c0 ∧ W0.cell? ⟨b, off + j * 4 + 1, none⟩ = some x.c1 ∧ W0.cell? ⟨b, off + j * 4 + 2, none⟩ = some x.c2 ∧ W0.cell? ⟨b, off + j * 4 + 3, none⟩ = some x.c3) :
    ∃ v, Boxed W B1 58 v ∧ (∃ a c, v = .slice a (nl + pre.length) c) ∧ ∀ W', Fr No W W' → OutV W0.heap.size W' v (nl + pre.length) ((E0 ++ pre).flatMap El.cs) := by
  obtain ⟨h1, v, h2, h3⟩ := h
  refine ⟨v, h2, ?_, ?_⟩
  · rcases h3 with h3 | ⟨rfl, rfl⟩
    · exact OutV.slice (.inl h3)
    · exact ⟨_, _, rfl⟩
  · intro W' hf
    rcases h3 with h3 | ⟨rfl, rfl⟩
    · exact .inl (owns_no h3 hf)
    · refine .inr ⟨ar, rfl, hnone, by rw [flat4_len]; simp [hl], fun b hb j u hu => ?_⟩
      rw [List.append_nil] at hu
      have hj : j < nl * 4 := by
        have := (List.getElem?_eq_some_iff.1 hu).1
        rw [flat4_len, hl] at this
        exact this
      obtain ⟨b1, off, e1, hne, x, hx, d0, d1, d2, d3⟩ := hc (j / 4) (by omega)
      rw [e1] at hb
      simp only [Option.some.injEq] at hb
      subst hb
      rw [addr_add]
      have hj4 : j = j / 4 * 4 + j % 4 := by omega
      have hu2 := flat4_at E0 (j / 4) (j % 4) (by omega)
      rw [← hj4, hu, hx, Option.bind_some] at hu2
      have hk : ∀ {a : Addr} {u : Value}, a.block = b1 → W0.cell? a = some u → W'.cell? a = some u := fun ha hc => by
        have hlt := World.block_lt_of_cell? W0 _ hc
        refine hf.cell (h1.cellS ?_ hc)
        rintro (h | h)
        · exact hne (ha.symm.trans h)
        · omega
      have h4 : j % 4 = 0 ∨ j % 4 = 1 ∨ j % 4 = 2 ∨ j % 4 = 3 := by omega
      rcases h4 with h4 | h4 | h4 | h4 <;> rw [h4] at hu2 <;> simp only [El.cs, List.getElem?_cons_zero, List.getElem?_cons_succ, Option.some.injEq] at hu2 <;> subst hu2
      · rw [show off + j = off + j / 4 * 4 by omega]
        exact hk rfl d0
      · rw [show off + j = off + j / 4 * 4 + 1 by omega]
        exact hk rfl d1
      · rw [show off + j = off + j / 4 * 4 + 2 by omega]
        exact hk rfl d2
      · rw [show off + j = off + j / 4 * 4 + 3 by omega]
        exact hk rfl d3
theorem there_fr {w w' : World} {S : Nat → Prop} {b o n : Nat} (h : w.there b o n) (hf : Fr S w w') (hn : ¬ S b) : w'.there b o n := fun j hj => by
  obtain ⟨h1, h2⟩ := h j hj
  obtain ⟨u, hu⟩ := Option.isSome_iff_exists.1 h1
  have hb := hf.block b (World.block_lt_of_cell? w _ hu) hn
  exact ⟨by rw [World.cell?_of_block hb]; exact h1, by rw [World.frozen?_of_block hb]; exact h2⟩
theorem making_done {W0 W w4 : World} {B1 nl q g cap : Nat} {ar : Option Addr} {E0 pre : List El} {v : Value} {news : List Value} (h : Making W0 B1 nl ar E0 pre W) (hk : KeepsOthers W w4) (hf : Fr (fun k => W0.heap.size ≤ k) W w4) (hb : Boxed W B1 58 v)
    (hown : w4.ownsRow W0.heap.size 40 4 (.slice (some ⟨g, 0, none⟩) (q + 1) cap) (q + 1) ((E0 ++ pre).flatMap El.cs ++ news)) (x : El) (hq : nl + pre.length = q) (hl : E0.length = nl) (hB : B1 < W0.heap.size) :
    Boxed w4 B1 58 v ∧ w4.there g (q * 4) 4 ∧ Boxed (w4.setCells g (q * 4) x.cs) B1 58 v ∧ (w4.setCell ⟨B1, 0, none⟩ (.slice (some ⟨g, 0, none⟩) (q + 1) cap)).there g (q * 4) 4 ∧
    ∀ W'', (W'' = (w4.setCells g (q * 4) x.cs).setCell ⟨B1, 0, none⟩ (.slice (some ⟨g, 0, none⟩) (q + 1) cap) ∨ W'' = (w4.setCell ⟨B1, 0, none⟩ (.slice (some ⟨g, 0, none⟩) (q + 1) cap)).setCells g (q * 4) x.cs) →
      KeepsOthers W W'' ∧ Fr (Sl B1 W0.heap.size) W W'' ∧ Making W0 B1 nl ar E0 (pre ++ [x]) W'' := by
  have hxl : ((E0 ++ pre).flatMap El.cs).length = q * 4 := by rw [flat4_len, List.length_append, hl, hq]
  have hb4 : Boxed w4 B1 58 v := hf.keeps hb (by omega)
  obtain ⟨hNg, hth, ho2, hf2, hk2⟩ := own_store4 hown hxl (cs := x.cs) rfl
  have hfs := Fr.setCell w4 ⟨B1, 0, none⟩ (.slice (some ⟨g, 0, none⟩) (q + 1) cap)
  have hown3 : (w4.setCell ⟨B1, 0, none⟩ (.slice (some ⟨g, 0, none⟩) (q + 1) cap)).ownsRow W0.heap.size 40 4 (.slice (some ⟨g, 0, none⟩) (q + 1) cap) (q + 1) ((E0 ++ pre).flatMap El.cs ++ news) :=
    hown.kept (grownBy_setCell' w4 B1 _) (.inr fun e => by simp [Value.ownBlock] at e; omega)
  obtain ⟨_, hth3, ho3, hf3, hk3⟩ := own_store4 hown3 hxl (cs := x.cs) rfl
  have hb2 : Boxed (w4.setCells g (q * 4) x.cs) B1 58 v := hf2.keeps hb4 (fun e => by have : B1 = g := e; omega)
  have hF4 : Fr (Sl B1 W0.heap.size) W w4 := hf.mono (fun i _ h => .inr h)
  refine ⟨hb4, hth, hb2, hth3, ?_⟩
  have hend : (E0 ++ (pre ++ [x])).flatMap El.cs = (E0 ++ pre).flatMap El.cs ++ x.cs := by
    rw [← List.append_assoc, List.flatMap_append]
    simp
  have hq' : nl + (pre ++ [x]).length = q + 1 := by simp; omega
  rintro W'' (rfl | rfl)
  · have hfs2 := Fr.setCell (w4.setCells g (q * 4) x.cs) ⟨B1, 0, none⟩ (.slice (some ⟨g, 0, none⟩) (q + 1) cap)
    have hF : Fr (Sl B1 W0.heap.size) W ((w4.setCells g (q * 4) x.cs).setCell ⟨B1, 0, none⟩ (.slice (some ⟨g, 0, none⟩) (q + 1) cap)) :=
      (hF4.trans hf2 (fun i _ e => .inr (by have : i = g := e; omega))).trans hfs2 (fun i _ e => .inl e)
    refine ⟨(hk.trans hk2).trans (KeepsOthers.setCell _ _ _), hF, h.1.trans hF (fun _ _ h => h), _, hb2.set _, .inl ?_⟩
    rw [hq', hend]
    exact ho2.kept (grownBy_setCell' _ B1 _) (.inr fun e => by simp [Value.ownBlock] at e; omega)
  · have hF : Fr (Sl B1 W0.heap.size) W ((w4.setCell ⟨B1, 0, none⟩ (.slice (some ⟨g, 0, none⟩) (q + 1) cap)).setCells g (q * 4) x.cs) :=
      (hF4.trans hfs (fun i _ e => .inl e)).trans hf3 (fun i _ e => .inr (by have : i = g := e; omega))
    refine ⟨(hk.trans (KeepsOthers.setCell _ _ _)).trans hk3, hF, h.1.trans hF (fun _ _ h => h), _, hf3.keeps (hb4.set _) (fun e => by have : B1 = g := e; omega), .inl ?_⟩
    rw [hq', hend]
    exact ho3
theorem step_store4 {w : World} {ops : Array Oper} {o : Oper} {a : Act} {K : Act → World → Prop} {Q : Exit → Act → World → Prop} {E : Prop} (hgd : o.guard = none) (hdst : o.dst = none) (x y : Operand) (ho : o.op = .store 40 x y)
    (b off : Nat) (cells : Array Value) (hx : a.eval x = .pointer (some ⟨b, off, none⟩)) (hy : a.eval y = .agg cells) (hc : cells.size = 4) (ht : w.there b off 4) (h1 : cells.all (·.oneCell') = true)
    (h : K a (w.setCells b off cells.toList)) : if Region.wanted o (yielded ops a.tmps) = true then Oper.wp Try.prog o a w K Q else E := by
  have hw : Region.wanted o (yielded ops a.tmps) = true := by simp [Region.wanted, hgd]
  rw [if_pos hw]
  exact wp_store_mid 40 x y ho b off cells hx hy (by rw [hc]; exact ht) (by rw [hc]; exact size40) h1 (by rw [hdst]; exact h)
theorem stays_loop {base B1 : Nat} {W0 W : World} {cs : Array Value} {ty : TypeId} (hf : Fr (Sl B1 W0.heap.size) W0 W) (hb : base ≤ B1) (hB : W0.heap[B1]? = some (.cells cs ty (0, 0))) (hty : ty ≠ 40) : Stays base (fun _ => True) W0 W := fun b hb1 _ hb2 => hf.block b hb1 (by
  rintro (rfl | h1)
  · rcases hb2 with h2 | ⟨cs', z, h2⟩
    · omega
    · rw [hB] at h2
      simp only [Option.some.injEq, Obj.cells.injEq] at h2
      exact hty h2.2.1
  · omega)
theorem row_made {base B1 nl : Nat} {W0 W : World} {ar : Option Addr} {E0 pre : List El} {ts0 ts1 : List T} (h : Making W0 B1 nl ar E0 pre W) (hb : base ≤ B1) (hB : W0.heap[B1]? = some (.cells #[.slice ar nl nl] 58 (0, 0)))
    (hrow : Row base (fun _ => True) W0 ar 0 ts0) (hnl : ts0.length = nl) (hl : E0.length = nl) (hE : ∀ (j : Nat) (t : T) (x : El), ts0[j]? = some t → E0[j]? = some x → IsT base W0 t x.v) (hpl : pre.length = ts1.length)
    (hP : ∀ (j : Nat) (t : T) (x : El), ts1[j]? = some t → pre[j]? = some x → IsT base W0 t x.v) (v : Value) (hv : Boxed W B1 58 v) : RowV base W v (ts0 ++ ts1) := by
  obtain ⟨h1, v', h2, h3⟩ := h
  have hvv : v' = v := by
    have e := (show W.heap[B1]? = some (.cells #[v'] 58 (0, 0)) from h2).symm.trans hv
    simpa using e
  subst hvv
  rcases h3 with h3 | ⟨rfl, rfl⟩
  · refine row_of_els h3 (by simp [hl, hnl, hpl]) fun j t x ht hx => ?_
    refine isT_loop ?_ h1 hb hB (by decide)
    rcases Nat.lt_or_ge j nl with hj | hj
    · rw [List.getElem?_append_left (by omega)] at ht hx
      exact hE j t x ht hx
    · rw [List.getElem?_append_right (by omega)] at ht hx
      rw [hnl] at ht
      rw [hl] at hx
      exact hP _ t x ht hx
  · have : ts1 = [] := List.eq_nil_of_length_eq_zero (by simpa using hpl.symm)
    subst this
    rw [List.append_nil]
    exact ⟨ar, nl, by rw [hnl], by omega, Row.keep (stays_loop h1 hb hB (by decide)) (fun _ h => h) ar 0 ts0 hrow⟩
theorem downTo_at {α : Type} (f : Nat → α) (n j : Nat) (hj : j < n) : (downTo f n n)[j]? = some (f (n - 1 - j)) := by simp [downTo, hj]
end Go.Proofs.Ythjecikdkdjlaaa
