/- slices.Backward over a row of expressions: whatever is done with each. -/
import Derived.Test.YtjabhmepafofmaaDoorG05
import Derived.RangeFuncNested
import Derived.RangeFuncBound
import Derived.RangeFuncCalls
import Derived.RangeFuncLeaves
import Derived.Shelf.Abstract
import Derived.Shelf.RegionOpen
import Derived.OwnWalkIn
import Derived.TacticsInMore
import Derived.LoopNIn
import Derived.LoopIn
import Derived.RangeFuncWrites
set_option linter.unusedVariables false
set_option linter.unusedSimpArgs false
namespace Go.Proofs.YtjabhmepafofmaaDoor
open Go.RowKit Go.Shelf
attribute [local go_sem] Oper.semAt_some

/-- an element as it is handed over: its place, its cells -/
structure El where
  i : Nat
  c0 : Value
  c1 : Value
  c2 : Value
  c3 : Value
  c4 : Value
  c5 : Value
  c6 : Value
def intZ : Value → Int
  | .int _ p => p
  | _ => 0
def El.v (x : El) : Value := .agg #[x.c0, x.c1, x.c2, x.c3, x.c4, x.c5, x.c6]
/-- so many elements, the last one first -/
def downTo {α : Type} (f : Nat → α) (len k : Nat) : List α := (List.range k).map fun j => f (len - 1 - j)
theorem downTo_succ {α : Type} (f : Nat → α) (len k : Nat) : downTo f len (k + 1) = downTo f len k ++ [f (len - 1 - k)] := by simp [downTo, List.range_succ]
theorem downTo_length {α : Type} (f : Nat → α) (len k : Nat) : (downTo f len k).length = k := by simp [downTo]
theorem Fr.cellS {S : Nat → Prop} {w w' : World} (h : Fr S w w') {a : Addr} (hn : ¬ S a.block) {v : Value} (hc : w.cell? a = some v) : w'.cell? a = some v :=
  (World.cell?_of_block (h.block _ (World.block_lt_of_cell? w _ hc) hn)).trans hc
set_option maxRecDepth 100000 in
set_option maxHeartbeats 4000000 in
theorem back1_in {Ok : El → Prop} (F : Fence) (n : Nat) (h95 : F.fn 95) (hro : F.round = none) (hn : 1 ≤ n) (l Bs b off len cap : Nat) (S : Nat → Prop) (hlen : len ≤ 1152921504606846976) (hb : ¬ S b) (el : Nat → { x : El // Ok x }) (J Jx : List { x : El // Ok x } → World → Prop)
    (hi : ∀ j, j < len → (el j).1.i = j)
    (hY : ∀ pre (x : { x : El // Ok x }) W, J pre W → pre.length < len → YieldAt F (n - 1) Tryd.prog l #[.int .i64 (x.1.i : Int), .agg #[x.1.c0, x.1.c1, x.1.c2, x.1.c3, x.1.c4, x.1.c5, x.1.c6]] W fun e W' =>
      (e = .returned (.bool true) ∧ J (pre ++ [x]) W' ∧ Fr S W W') ∨ (e = .returned (.bool false) ∧ Jx (pre ++ [x]) W'))
    (W : World) (hBs : W.cell? ⟨Bs, 0, none⟩ = some (.slice (some ⟨b, off, none⟩) len cap)) (hBn : ¬ S Bs)
    (hc : ∀ j, j < len → W.cell? ⟨b, off + j * 7, none⟩ = some (el j).1.c0 ∧ W.cell? ⟨b, off + j * 7 + 1, none⟩ = some (el j).1.c1 ∧ W.cell? ⟨b, off + j * 7 + 2, none⟩ = some (el j).1.c2 ∧ W.cell? ⟨b, off + j * 7 + 3, none⟩ = some (el j).1.c3 ∧ W.cell? ⟨b, off + j * 7 + 4, none⟩ = some (el j).1.c4 ∧ W.cell? ⟨b, off + j * 7 + 5, none⟩ = some (el j).1.c5 ∧ W.cell? ⟨b, off + j * 7 + 6, none⟩ = some (el j).1.c6) (h0 : J [] W) :
    CallsIn F n Tryd.prog 95 #[.func (.yield l) #[] #[], .pointer (some ⟨Bs, 0, none⟩)] W fun e W' => (∃ v, e = .returned v) ∧
      ((∃ ys, ys = downTo el len len ∧ J ys W') ∨ (∃ pre, (∃ k, k ≤ len ∧ pre = downTo el len k) ∧ Jx pre W')) := by
  refine callsIn_of_wp Tryd.func95 rfl h95 ?_ hro
  simp only [Tryd.ntmps95, List.size_toArray, List.length_cons, List.length_nil, Nat.reduceAdd, Nat.reduceSub, Array.replicate_succ, Array.replicate_zero, List.push_toArray, List.append_toArray, List.nil_append, List.cons_append]
  gi_wp2
  gi_loopw [3] (fun i wr => ∃ k : Nat, k ≤ len ∧ i = .int .i64 ((len : Int) - 1 - k) ∧ J (downTo el len k) wr ∧ Fr S W wr)
    (fun i _ => (intZ i + 1).toNat)
  case atStart => exact ⟨0, Nat.zero_le _, by simp, h0, Fr.refl _ _⟩
  case round =>
    obtain ⟨k, hk, rfl, hJs, hnx⟩ := hrel
    have hcx := fun j (h : j < len) => (⟨hnx.cellS hb (hc j h).1, hnx.cellS hb (hc j h).2.1, hnx.cellS hb (hc j h).2.2.1, hnx.cellS hb (hc j h).2.2.2.1, hnx.cellS hb (hc j h).2.2.2.2.1, hnx.cellS hb (hc j h).2.2.2.2.2.1, hnx.cellS hb (hc j h).2.2.2.2.2.2⟩ : _ ∧ _ ∧ _ ∧ _ ∧ _ ∧ _ ∧ _)
    have hbx := hnx.cellS hBn hBs
    by_cases hlt : k < len
    · obtain ⟨j, hj⟩ : ∃ j, len - 1 - k = j := ⟨_, rfl⟩
      have hjl : j < len := by omega
      have hji : (len : Int) - 1 - k = j := by omega
      obtain ⟨fn, tmps, assign, body, hy, hR⟩ := hY _ (el j) wr hJs (by rw [downTo_length]; exact hlt)
      rw [hi j hjl] at hy
      obtain ⟨d0, d1, d2, d3, d4, d5, d6⟩ := hcx j hjl
      rw [hji]
      have k0 : (0 : Int) ≤ (j : Int) := by omega
      have k1 : (j : Int) < (len : Int) := by omega
      gi_wp2
      refine hR.mono ?_
      rintro e W3 (⟨rfl, hJ3, hk3⟩ | ⟨rfl, hJx3⟩)
      · gi_wp2
        go_roundw
        case rel => exact ⟨k + 1, by omega, by first | (simp; done) | (simp; omega), by rw [downTo_succ, hj]; exact hJ3, hnx.trans hk3 (fun _ _ h => h)⟩
        case measure => first | (simp [intZ]; done) | (simp [intZ]; omega)
      · gi_wp2
        refine bodyPost_ret (results_none rfl _ _ _) rfl ?_
        exact ⟨⟨_, rfl⟩, .inr ⟨_, ⟨k + 1, by omega, by rw [downTo_succ, hj]⟩, hJx3⟩⟩
    · obtain rfl : k = len := by omega
      have hneg : ¬ (0 : Int) ≤ (k : Int) - 1 - k := by omega
      gi_wp2
      go_end0
      first | exact ⟨⟨_, rfl⟩, .inl ⟨_, rfl, hJs⟩⟩ | exact ⟨⟨_, rfl⟩, .inl hJs⟩
set_option maxRecDepth 100000 in
set_option maxHeartbeats 2000000 in
theorem back0_in {Ok : El → Prop} (F : Fence) (n : Nat) (h95 : F.fn 95) (hro : F.round = none) (l Bs cap : Nat) (a : Option Addr) (J : List { x : El // Ok x } → World → Prop) (W : World) (hBs : W.cell? ⟨Bs, 0, none⟩ = some (.slice a 0 cap)) (h0 : J [] W) :
    CallsIn F n Tryd.prog 95 #[.func (.yield l) #[] #[], .pointer (some ⟨Bs, 0, none⟩)] W fun e W' => (∃ v, e = .returned v) ∧ J [] W' := by
  refine callsIn_of_wp Tryd.func95 rfl h95 ?_ hro
  simp only [Tryd.ntmps95, List.size_toArray, List.length_cons, List.length_nil, Nat.reduceAdd, Nat.reduceSub, Array.replicate_succ, Array.replicate_zero, List.push_toArray, List.append_toArray, List.nil_append, List.cons_append]
  gi_wp2
  gi_loopw [3] (fun i wr => i = .int .i64 (-1) ∧ J [] wr) (fun _ _ => 0)
  case atStart => exact ⟨rfl, h0⟩
  case round =>
    obtain ⟨rfl, hJs⟩ := hrel
    gi_wp2
    go_end0
    first | exact ⟨⟨_, rfl⟩, hJs⟩ | exact hJs
/-- the function value that slices.Backward hands back -/
theorem back_stops {Ok : El → Prop} (F : Fence) (n : Nat) (h95 : F.fn 95) (hro : F.round = none) (hn : 1 ≤ n) (Bs len cap : Nat) (a : Option Addr) (S : Nat → Prop) (hlen : len ≤ 1152921504606846976) (el : Nat → { x : El // Ok x }) (hi : ∀ j, j < len → (el j).1.i = j) (w : World)
    (hBs : w.cell? ⟨Bs, 0, none⟩ = some (.slice a len cap)) (hBn : ¬ S Bs) (hS : 0 < len → ∀ b, S b → ∀ off, a ≠ some ⟨b, off, none⟩)
    (hc : ∀ j, j < len → ∃ b off, a = some ⟨b, off, none⟩ ∧ w.cell? ⟨b, off + j * 7, none⟩ = some (el j).1.c0 ∧ w.cell? ⟨b, off + j * 7 + 1, none⟩ = some (el j).1.c1 ∧ w.cell? ⟨b, off + j * 7 + 2, none⟩ = some (el j).1.c2 ∧ w.cell? ⟨b, off + j * 7 + 3, none⟩ = some (el j).1.c3 ∧ w.cell? ⟨b, off + j * 7 + 4, none⟩ = some (el j).1.c4 ∧ w.cell? ⟨b, off + j * 7 + 5, none⟩ = some (el j).1.c5 ∧ w.cell? ⟨b, off + j * 7 + 6, none⟩ = some (el j).1.c6) :
    SeqStopsK F n Tryd.prog 95 #[.pointer (some ⟨Bs, 0, none⟩)] (fun x : { x : El // Ok x } => #[.int .i64 (x.1.i : Int), .agg #[x.1.c0, x.1.c1, x.1.c2, x.1.c3, x.1.c4, x.1.c5, x.1.c6]]) (Fr S) (fun ys => ys = downTo el len len) (fun _ => True) len w := fun l J Jx W hW _ _ hY h0 => by
  have hBs' := (Fr.ofBelow hW).cell hBs
  by_cases hz : len = 0
  · subst hz
    exact (back0_in F n h95 hro l Bs cap a J W hBs' h0).mono fun e W' ⟨he, hj⟩ => ⟨he, .inl ⟨[], rfl, hj⟩⟩
  · obtain ⟨b, off, rfl, _⟩ := hc 0 (by omega)
    have hcells : ∀ j, j < len → W.cell? ⟨b, off + j * 7, none⟩ = some (el j).1.c0 ∧ W.cell? ⟨b, off + j * 7 + 1, none⟩ = some (el j).1.c1 ∧ W.cell? ⟨b, off + j * 7 + 2, none⟩ = some (el j).1.c2 ∧ W.cell? ⟨b, off + j * 7 + 3, none⟩ = some (el j).1.c3 ∧ W.cell? ⟨b, off + j * 7 + 4, none⟩ = some (el j).1.c4 ∧ W.cell? ⟨b, off + j * 7 + 5, none⟩ = some (el j).1.c5 ∧ W.cell? ⟨b, off + j * 7 + 6, none⟩ = some (el j).1.c6 := by
      intro j hj
      obtain ⟨b1, o1, e1, k0, k1, k2, k3, k4, k5, k6⟩ := hc j hj
      simp only [Option.some.injEq, Addr.mk.injEq, and_true] at e1
      obtain ⟨rfl, rfl⟩ := e1
      exact ⟨(Fr.ofBelow hW).cell k0, (Fr.ofBelow hW).cell k1, (Fr.ofBelow hW).cell k2, (Fr.ofBelow hW).cell k3, (Fr.ofBelow hW).cell k4, (Fr.ofBelow hW).cell k5, (Fr.ofBelow hW).cell k6⟩
    refine (back1_in F n h95 hro hn l Bs b off len cap S hlen (fun h => hS (by omega) b h off rfl) el J Jx hi hY W hBs' hBn hcells h0).mono ?_
    rintro e W' ⟨he, ⟨ys, rfl, hj⟩ | ⟨pre, _, hj⟩⟩
    · exact ⟨he, .inl ⟨_, rfl, hj⟩⟩
    · exact ⟨he, .inr ⟨_, trivial, hj⟩⟩
set_option maxHeartbeats 1000000 in
theorem backward_any (a : Option Addr) (len cap : Nat) (w : World) : Calls Tryd.prog 94 #[.slice a len cap] w fun e w' => e = .returned (.func (.func 95) #[] #[.pointer (some ⟨w.heap.size, 0, none⟩)]) ∧ w' = w.alloc (.cells #[.slice a len cap] 29) := by
  go_enter Tryd.func94, Tryd.ntmps94
  go_wp2_with fail
  go_ret
  exact ⟨rfl, rfl⟩
end Go.Proofs.YtjabhmepafofmaaDoor
namespace Go.Proofs.YtjabhmepafofmaaDoor
open Go.RowKit

theorem list_of {α : Type} {P : Nat → α → Prop} : ∀ n : Nat, (∀ j, j < n → ∃ c, P j c) → ∃ cs : List α, cs.length = n ∧ ∀ (j : Nat) (c : α), cs[j]? = some c → P j c
  | 0, _ => ⟨[], rfl, fun j c h => by simp at h⟩
  | n + 1, h => by
    obtain ⟨cs, h1, h2⟩ := list_of n fun j hj => h j (by omega)
    obtain ⟨c, hc⟩ := h n (Nat.lt_succ_self n)
    refine ⟨cs ++ [c], by simp [h1], fun j d hd => ?_⟩
    rcases Nat.lt_or_ge j n with hj | hj
    · rw [List.getElem?_append_left (by omega)] at hd
      exact h2 j d hd
    · have hl := (List.getElem?_eq_some_iff.1 hd).1
      simp only [List.length_append, List.length_singleton] at hl
      obtain rfl : j = n := by omega
      rw [List.getElem?_append_right (by omega), h1, Nat.sub_self] at hd
      cases hd
      exact hc
/-- somebody's row as lists of cells -/
theorem hx_rows {ok : Nat → Prop} {w : World} {k n cp : Nat} {a : Option Addr} {ls : List (List X)} (hk : 0 < k) (h : Hx ok w (.row k ls) (.slice a n cp)) (hn : 0 < n) :
    ∃ g off, ∃ cs : List (List Value), a = some ⟨g, off, none⟩ ∧ ls.length = n ∧ cs.length = n ∧ (∀ c ∈ cs, c.length = k) ∧ (∀ (j : Nat) (u : Value), cs.flatten[j]? = some u → w.cell? ⟨g, off + j, none⟩ = some u) ∧
      ∀ (j : Nat) (x : List X) (c : List Value), ls[j]? = some x → cs[j]? = some c → Hc ok w x c := by
  have hl : ls.length = n := by
    obtain ⟨a', c', e⟩ := hx_slice h
    cases e
    rfl
  obtain ⟨x0, hx0⟩ : ∃ x, ls[0]? = some x := ⟨_, List.getElem?_eq_getElem (by omega)⟩
  obtain ⟨g, off, _, rfl, _⟩ := hx_at h hx0
  obtain ⟨cs, h1, h2⟩ := list_of (P := fun j c => c.length = k ∧ (∀ (m : Nat) (u : Value), c[m]? = some u → w.cell? ⟨g, off + j * k + m, none⟩ = some u) ∧ ∀ x, ls[j]? = some x → Hc ok w x c) n fun j hj => by
    obtain ⟨x, hx⟩ : ∃ x, ls[j]? = some x := ⟨_, List.getElem?_eq_getElem (by omega)⟩
    obtain ⟨g', off', c, e, _, hc, hcell, hxc⟩ := hx_at h hx
    cases e
    exact ⟨c, hc, hcell, fun y hy => by
      rw [hx] at hy
      cases hy
      exact hxc⟩
  have hlen : ∀ c ∈ cs, c.length = k := fun c hc => by
    obtain ⟨j, hj⟩ := List.getElem?_of_mem hc
    exact (h2 j c hj).1
  refine ⟨g, off, cs, rfl, hl, h1, hlen, fun j u hu => ?_, fun j x c hx hc => (h2 j c hc).2.2 x hx⟩
  have hjl : j < cs.flatten.length := (List.getElem?_eq_some_iff.1 hu).1
  rw [flatten_len cs hlen, h1] at hjl
  have hdm : j / k * k + j % k = j := by
    have := Nat.div_add_mod j k
    rw [Nat.mul_comm] at this
    exact this
  have hq : j / k < n := (Nat.div_lt_iff_lt_mul hk).2 hjl
  obtain ⟨c, hc⟩ : ∃ c, cs[j / k]? = some c := ⟨_, List.getElem?_eq_getElem (by omega)⟩
  have hf := flatten_at cs (j / k) (j % k) c hlen hc (Nat.mod_lt _ hk)
  rw [hdm, hu] at hf
  have := (h2 _ c hc).2.1 (j % k) u hf.symm
  rw [Nat.add_assoc, hdm] at this
  exact this
section
variable {α : Type} {R : (Nat → Prop) → World → α → List Value → Prop} {e k : Nat} {P : Program}
theorem OutG.pushes (hR : Kept R) {ok : Nat → Prop} {B m : Nat} {w w' : World} {v : Value} {n : Nat} {l l2 : List α} (h1 : l.length = n) {cs : List (List Value)} (h2 : cs.length = n) (h3 : ∀ c ∈ cs, c.length = k) (h4 : ∀ (j : Nat) (t : α) (c : List Value), l[j]? = some t → cs[j]? = some c → R (fun b => ok b ∧ Av v b) w t c)
    {ds : List (List Value)} (hd : ds.length = m) (hl2 : l2.length = m) (hk : ∀ c ∈ ds, c.length = k) (ht : ∀ (j : Nat) (t : α) (c : List Value), l2[j]? = some t → ds[j]? = some c → R (fun b => ok b ∧ Av v b) w t c) {v' : Value} (hown : w'.ownsRow B e k v' (n + m) (cs.flatten ++ ds.flatten)) (hg : Grows B w w' v v') :
    OutG R e k ok B w' v' (n + m) (l ++ l2) := by
  refine ⟨by simp [h1, hl2], cs ++ ds, by simp [h2, hd], fun x hx => ?_, by rw [List.flatten_append]; exact hown, fun j t' c' hj hc' => hR.keep (ok := fun b => ok b ∧ Av v b) (w := w) (fun b hb hk => ⟨(hg.av b hb hk.2).1, hk.1, (hg.av b hb hk.2).2⟩) t' c' ?_⟩
  · rcases List.mem_append.1 hx with hx | hx
    · exact h3 x hx
    · exact hk x hx
  · rcases Nat.lt_or_ge j n with hlt | hge
    · rw [List.getElem?_append_left (by omega)] at hj hc'
      exact h4 j t' c' hj hc'
    · rw [List.getElem?_append_right (by omega)] at hj hc'
      rw [show j - l.length = j - n by omega] at hj
      rw [show j - cs.length = j - n by omega] at hc'
      exact ht _ t' c' hj hc'
/-- a row behind one's own: out = append(out, l...) -/
theorem wpList_pushes (hR : Kept R) {bytes : Nat} (he : ElemOk P e k bytes) {w : World} {ops : Array Oper} {rest : List Oper} {o : Oper} {a : Act} {Q : Exit → Act → World → Prop} (hgd : o.guard = none) (s x : Operand) (t : TypeId)
    (ho : o.op = .call { callee := .builtin .append, args := #[s, x], argTypes := #[t, t] }) (ht : P.underlying t = some (.slice e)) (ok : Nat → Prop) (B : Nat) (v : Value) (n : Nat) (l : List α) (hs : a.eval s = v) (hv : OutG R e k ok B w v n l)
    (g off m cp : Nat) (l2 : List α) (ds : List (List Value)) (hx : a.eval x = .slice (some ⟨g, off, none⟩) m cp) (hm : 0 < m) (hl2 : l2.length = m) (hd : ds.length = m) (hdk : ∀ c ∈ ds, c.length = k) (hcell : ∀ (j : Nat) (u : Value), ds.flatten[j]? = some u → w.cell? ⟨g, off + j, none⟩ = some u)
    (h1 : ∀ u ∈ ds.flatten, u.oneCell' = true) (hy : ∀ (j : Nat) (t : α) (c : List Value), l2[j]? = some t → ds[j]? = some c → R (fun b => ok b ∧ Av v b) w t c)
    (hn : n + m ≤ maxLen) (hbytes : (n + m) * bytes ≤ 140737488355328) (hB : B ≤ w.heap.size)
    (h : ∀ a' c' w', Hid (OutG R e k ok B w' (.slice a' (n + m) c') (n + m) (l ++ l2)) → Hid (Grows B w w' v (.slice a' (n + m) c')) → wpList P ops Q rest (a.put o.dst (.slice a' (n + m) c')) w') : wpList P ops Q (o :: rest) a w := by
  obtain ⟨⟨i, z, hi, hz, z1, z2, z3⟩, hk⟩ := he
  obtain ⟨g1, cs, g2, g3, hown, g4⟩ := hv
  refine wpList_append_lies w hgd s x t ho B e i z k bytes ht hi hz z1 z2 z3 hk v n cs.flatten hs hown ⟨g, off, none⟩ m cp ds.flatten hx (by rw [flatten_len ds hdk, hd]) (fun j u hj => by
    have h0 := hcell j u hj
    simp only [Addr.add]
    split
    · rename_i hj0
      have hj0 : j = 0 := by simpa using hj0
      subst hj0
      exact h0
    · exact h0) h1 hm hn hbytes hB _ rfl ?_
  intro g cap w' hown' hg hat _
  have hG := grows_of (m := n + m) (cap := cap) hown hB hg hat
  exact h _ _ w' (Lib.hid (OutG.pushes hR g1 g2 g3 g4 hd hl2 hdk hy hown' hG)) (Lib.hid hG)
end
/-- cells of an expression are one cell each -/
theorem oneE {ok : Nat → Prop} {w : World} {t : E} {cs : List Value} (h : Hc ok w (xE t) cs) : ∀ u ∈ cs, u.oneCell' = true := by
  obtain ⟨k, s, n, u, b1, m1, c1, b2, m2, c2, b3, m3, c3, rfl⟩ := hcE h
  simp [Value.oneCell']
theorem more_ne {α : Type} {l : List Tok} {sb : ByteArray} {one : Pr α} : ∀ (n : Nat) (acc : List α) (p q : Nat) (x : List α), acc ≠ [] → Pr.run l (more sb one n acc) p = .ok x q → x ≠ []
  | 0, acc, p, q, x, _, h => by cases h
  | n + 1, acc, p, q, x, ha, h => by
    simp only [more, run_bind, run_skip, Re.andThen] at h
    cases hs : seesB (l.getD p zTok) [sb] with
    | false =>
      simp only [hs, Bool.false_eq_true, if_false, Pr.run, Re.ok.injEq] at h
      rw [← h.1]
      exact ha
    | true =>
      simp only [hs, if_true, run_bind] at h
      cases hr : Pr.run l one (p + 1) with
      | out => rw [hr] at h; cases h
      | fail r => rw [hr] at h; cases h
      | ok y r =>
        rw [hr] at h
        exact more_ne n _ _ _ _ (by simp) h
theorem some_ne {α : Type} {l : List Tok} {sb : ByteArray} {one : Pr α} {n p q : Nat} {x : List α} (h : Pr.run l (some_ n sb one) p = .ok x q) : x ≠ [] := by
  simp only [some_, run_bind] at h
  cases hr : Pr.run l one p with
  | out => rw [hr] at h; cases h
  | fail r => rw [hr] at h; cases h
  | ok y r =>
    rw [hr] at h
    exact more_ne n _ _ _ _ (by simp) h
end Go.Proofs.YtjabhmepafofmaaDoor
namespace Go.Proofs.YtjabhmepafofmaaDoor
open Go.RowKit
theorem more_len {α : Type} {l : List Tok} {sb : ByteArray} {one : Pr α} : ∀ (n : Nat) (acc : List α) (p q : Nat) (x : List α), acc.length ≤ p + 1 → Pr.run l (more sb one n acc) p = .ok x q → x.length ≤ q + 1
  | 0, acc, p, q, x, _, h => by cases h
  | n + 1, acc, p, q, x, ha, h => by
    simp only [more, run_bind, run_skip, Re.andThen] at h
    cases hs : seesB (l.getD p zTok) [sb] with
    | false =>
      simp only [hs, Bool.false_eq_true, if_false, Pr.run, Re.ok.injEq] at h
      obtain ⟨rfl, rfl⟩ := h
      exact ha
    | true =>
      simp only [hs, if_true, run_bind] at h
      cases hr : Pr.run l one (p + 1) with
      | out => rw [hr] at h; cases h
      | fail r => rw [hr] at h; cases h
      | ok y r =>
        rw [hr] at h
        have := run_mono l _ _ _ _ hr
        exact more_len n _ _ _ _ (by simp; omega) h
theorem some_len {α : Type} {l : List Tok} {sb : ByteArray} {one : Pr α} {n p q : Nat} {x : List α} (h : Pr.run l (some_ n sb one) p = .ok x q) : x.length ≤ q + 1 := by
  simp only [some_, run_bind] at h
  cases hr : Pr.run l one p with
  | out => rw [hr] at h; cases h
  | fail r => rw [hr] at h; cases h
  | ok y r =>
    rw [hr] at h
    exact more_len n _ _ _ _ (by simp) h
end Go.Proofs.YtjabhmepafofmaaDoor
namespace Go.Proofs.YtjabhmepafofmaaDoor
open Go.RowKit

def IsCells (w : World) (b : Nat) : Prop := ∃ cs t z, w.heap[b]? = some (.cells cs t z)
theorem isCells_of {w : World} {g o : Nat} {u : Value} (h : w.cell? ⟨g, o, none⟩ = some u) : IsCells w g := by
  unfold World.cell? at h
  simp only at h
  split at h
  · rename_i h1
    exact ⟨_, _, _, h1⟩
  · cases h
mutual
theorem Hx.keepC {ok ok' : Nat → Prop} {w w' : World} (hs : ∀ b, IsCells w b → ok b → w'.heap[b]? = w.heap[b]? ∧ ok' b) : ∀ (x : X) (v : Value), Hx ok w x v → Hx ok' w' x v
  | .lit u, v, h => by
    simp only [Hx] at h ⊢
    exact h
  | .row k l, v, h => by
    simp only [Hx] at h ⊢
    obtain ⟨a, c, e, h1, h2, hr⟩ := h
    exact ⟨a, c, e, h1, h2, Hrow.keepC hs k a 0 l hr⟩
theorem Hrow.keepC {ok ok' : Nat → Prop} {w w' : World} (hs : ∀ b, IsCells w b → ok b → w'.heap[b]? = w.heap[b]? ∧ ok' b) (k : Nat) (a : Option Addr) : ∀ (i : Nat) (l : List (List X)), Hrow ok w k a i l → Hrow ok' w' k a i l
  | _, [], _ => by simp [Hrow]
  | i, x :: r, h => by
    simp only [Hrow] at h ⊢
    obtain ⟨⟨g, off, c, e, ho, hl, hc, hk, hx⟩, hr⟩ := h
    have hlt : IsCells w g := by
      cases c with
      | nil => simp at hl; omega
      | cons u d => exact isCells_of (hc 0 u rfl)
    obtain ⟨hk', ho'⟩ := hs g hlt ho
    exact ⟨⟨g, off, c, e, ho', hl, fun j u hu => (World.cell?_of_block hk').trans (hc j u hu), hk, Hc.keepC hs x c hx⟩, Hrow.keepC hs k a (i + 1) r hr⟩
theorem Hc.keepC {ok ok' : Nat → Prop} {w w' : World} (hs : ∀ b, IsCells w b → ok b → w'.heap[b]? = w.heap[b]? ∧ ok' b) : ∀ (l : List X) (c : List Value), Hc ok w l c → Hc ok' w' l c
  | [], c, h => by
    simp only [Hc] at h ⊢
    exact h
  | x :: r, c, h => by
    simp only [Hc] at h ⊢
    obtain ⟨u, d, e, h1, h2⟩ := h
    exact ⟨u, d, e, Hx.keepC hs x u h1, Hc.keepC hs r d h2⟩
end
end Go.Proofs.YtjabhmepafofmaaDoor
namespace Go.Proofs.YtjabhmepafofmaaDoor
open Go.RowKit

theorem Fr.grownR {w w' : World} {r : Option Nat} {S : Nat → Prop} (h : w.grownBy w' r) (hr : ∀ k, r = some k → S k) : Fr S w w' :=
  ⟨h.os, h.tape, h.output, h.size, fun k hk hn => h.block k hk fun e => hn (hr k e.symm)⟩
def Sl (B1 N : Nat) (k : Nat) : Prop := k = B1 ∨ N ≤ k
/-- an element is an expression of the list -/
def OkE (B g4 gr : Nat) (W0 : World) (L : List E) (x : El) : Prop := ∃ t, L[x.i]? = some t ∧ Hc (fun b => B ≤ b ∧ b ≠ g4 ∧ b ≠ gr ∧ b < W0.heap.size) W0 (xE t) [x.c0, x.c1, x.c2, x.c3, x.c4, x.c5, x.c6]
def seqP (L : List E) (e0 : E) (pre : List El) : E := pre.foldl (fun e x => Gr.mkE 14 nob [L.getD x.i zE, e]) e0
def Seqing (W0 : World) (B g4 gr : Nat) (L : List E) (e0 : E) (pre : List El) (W : World) : Prop :=
  Fr (Sl g4 W0.heap.size) W0 W ∧ ∃ cs, W.heap[g4]? = some (.cells (List.toArray cs) 32 (0, 0)) ∧ Hc (fun b => B ≤ b ∧ b ≠ g4 ∧ b ≠ gr) W (xE (seqP L e0 pre)) cs
theorem Seqing.turned {W0 W W' : World} {B g4 gr : Nat} {L : List E} {e0 : E} {pre : List El} {r : Option Nat} (h : Seqing W0 B g4 gr L e0 pre W) (hg : W.grownBy W' r) (hr : ∀ k, r = some k → W0.heap.size ≤ k ∧ ∃ o : Obj, W.heap[k]? = some o ∧ o.isCells = false) : Seqing W0 B g4 gr L e0 pre W' := by
  obtain ⟨h1, cs, h2, h3⟩ := h
  have keep : ∀ b, IsCells W b → W'.heap[b]? = W.heap[b]? := fun b ⟨cs, t, z, hb⟩ => hg.block b (lt_of_block hb) fun e => by
    obtain ⟨_, o, ho, hc⟩ := hr b e.symm
    rw [hb] at ho
    cases ho
    cases hc
  exact ⟨h1.trans (Fr.grownR hg (fun k e => .inr (hr k e).1)) (fun _ _ h => h), cs, (keep g4 ⟨_, _, _, h2⟩).trans h2, h3.keepC fun b hb ho => ⟨keep b hb, ho⟩⟩
/-- a round: two blocks are made, the box is written anew -/
theorem Seqing.step {W0 W W1 : World} {B g4 gr : Nat} {L : List E} {e0 : E} {pre : List El} (h : Seqing W0 B g4 gr L e0 pre W) {x : El} (hx : OkE B g4 gr W0 L x) (hB : B ≤ W0.heap.size) (hgr : gr < W0.heap.size) (h4 : g4 < W0.heap.size) {cs cn : List Value} {ga : Nat} (hcs : W.heap[g4]? = some (.cells (List.toArray cs) 32 (0, 0)))
    (hf : Fr (Sl g4 W.heap.size) W W1) (hga : W.heap.size ≤ ga) (ha : W1.heap[ga]? = some (.cells (List.toArray ([x.c0, x.c1, x.c2, x.c3, x.c4, x.c5, x.c6] ++ cs)) 32 (0, 0)))
    (hb : W1.heap[g4]? = some (.cells (List.toArray cn) 32 (0, 0))) (hcn : cn = [.int .u8 14, .string ⟨#[]⟩, .int .i64 0, .string ⟨#[]⟩, .slice (some ⟨ga, 0, none⟩) 2 2, .slice none 0 0, .slice none 0 0]) : Seqing W0 B g4 gr L e0 (pre ++ [x]) W1 := by
  obtain ⟨h1, cs', h2, h3⟩ := h
  rw [hcs] at h2
  simp only [Option.some.injEq, Obj.cells.injEq, List.toArray_inj, and_true] at h2
  obtain ⟨rfl⟩ := h2
  obtain ⟨t, ht, hxt⟩ := hx
  have hsz := h1.size
  have hl : cs.length = 7 := by rw [h3.len, xE_len]
  refine ⟨h1.trans hf (fun i hi hs => by rcases hs with h | h; exact .inl h; exact .inr (Nat.le_trans hsz h)), cn, hb, ?_⟩
  have e : seqP L e0 (pre ++ [x]) = Gr.mkE 14 nob [t, seqP L e0 pre] := by
    simp only [seqP, List.foldl_append, List.foldl_cons, List.foldl_nil, List.getD_eq_getElem?_getD, ht, Option.getD_some]
  rw [e, hcn]
  refine hcE_kids 14 nob 0 nob (hx_two (c := [x.c0, x.c1, x.c2, x.c3, x.c4, x.c5, x.c6]) (d := cs) ha ⟨by omega, by omega, by omega⟩ rfl hl (by decide) ?_ ?_)
  · refine ((hxt.fr h1 (fun b hb hs => ?_)).fr hf (fun b hb hs => ?_)).mono (fun b _ hb => ⟨hb.1, hb.2.1, hb.2.2.1⟩)
    · rcases hs with h | h
      · exact hb.2.1 h
      · have := hb.2.2.2
        omega
    · rcases hs with h | h
      · exact hb.2.1 h
      · have := hb.2.2.2
        omega
  · refine Hc.keep (fun b hb ho => ⟨hf.block b hb (fun hs => ?_), ho⟩) _ _ h3
    rcases hs with h | h
    · exact ho.2.1 h
    · omega
end Go.Proofs.YtjabhmepafofmaaDoor
namespace Go.Proofs.YtjabhmepafofmaaDoor
open Go.RowKit
theorem seqP_down (L : List E) (e0 : E) (f : Nat → El) (m : Nat) (hm : m ≤ L.length) (hi : ∀ j, j < m → (f j).i = j) : ∀ k, k ≤ m → seqP L e0 (downTo f m k) = Gr.seqE ((L.take m).drop (m - k)) e0
  | 0, _ => by
    rw [Nat.sub_zero, List.drop_of_length_le (by simp; omega)]
    rfl
  | k + 1, hk => by
    have ih := seqP_down L e0 f m hm hi k (by omega)
    have hlt : m - (k + 1) < (L.take m).length := by simp; omega
    rw [downTo_succ, List.drop_eq_getElem_cons hlt, show m - (k + 1) + 1 = m - k by omega]
    have e : seqP L e0 (downTo f m k ++ [f (m - 1 - k)]) = Gr.mkE 14 nob [L.getD (f (m - 1 - k)).i zE, seqP L e0 (downTo f m k)] := by
      simp only [seqP, List.foldl_append, List.foldl_cons, List.foldl_nil]
    rw [e, ih, hi _ (by omega), show m - 1 - k = m - (k + 1) by omega]
    simp only [Gr.seqE]
    congr 2
    rw [List.getElem_take, List.getD_eq_getElem?_getD, List.getElem?_eq_getElem (by omega)]
    rfl
theorem seqs_down (L : List E) (f : Nat → El) (m : Nat) (hm : L.length = m + 1) (hi : ∀ j, j < m → (f j).i = j) : seqP L (L.getLastD zE) (downTo f m m) = Gr.seqs L := by
  rw [seqP_down L _ f m (by omega) hi m (Nat.le_refl _), Nat.sub_self, List.drop_zero, Gr.seqs]
  congr 1
  rw [List.dropLast_eq_take, hm]
  rfl
end Go.Proofs.YtjabhmepafofmaaDoor
namespace Go.Proofs.YtjabhmepafofmaaDoor
open Go.RowKit
/-- the elements of a row of expressions, as the iterator hands them over -/
theorem els_of {B g4 gr n cv : Nat} {W0 : World} {L : List E} {av : Option Addr} (h : Hx (fun b => B ≤ b ∧ b ≠ g4 ∧ b ≠ gr ∧ b < W0.heap.size) W0 (.row 7 (L.map xE)) (.slice av n cv)) (hn : 0 < n) (hL : L.length = n) :
    ∃ el : Nat → { x : El // OkE B g4 gr W0 L x }, (∀ j, j < n → (el j).1.i = j) ∧ ∀ j, j < n → ∃ b off, av = some ⟨b, off, none⟩ ∧ (B ≤ b ∧ b ≠ g4 ∧ b ≠ gr ∧ b < W0.heap.size) ∧ W0.cell? ⟨b, off + j * 7, none⟩ = some (el j).1.c0 ∧ W0.cell? ⟨b, off + j * 7 + 1, none⟩ = some (el j).1.c1 ∧
      W0.cell? ⟨b, off + j * 7 + 2, none⟩ = some (el j).1.c2 ∧ W0.cell? ⟨b, off + j * 7 + 3, none⟩ = some (el j).1.c3 ∧ W0.cell? ⟨b, off + j * 7 + 4, none⟩ = some (el j).1.c4 ∧ W0.cell? ⟨b, off + j * 7 + 5, none⟩ = some (el j).1.c5 ∧ W0.cell? ⟨b, off + j * 7 + 6, none⟩ = some (el j).1.c6 := by
  have key : ∀ j, j < n → ∃ x : El, x.i = j ∧ OkE B g4 gr W0 L x ∧ ∃ b off, av = some ⟨b, off, none⟩ ∧ (B ≤ b ∧ b ≠ g4 ∧ b ≠ gr ∧ b < W0.heap.size) ∧ W0.cell? ⟨b, off + j * 7, none⟩ = some x.c0 ∧ W0.cell? ⟨b, off + j * 7 + 1, none⟩ = some x.c1 ∧
      W0.cell? ⟨b, off + j * 7 + 2, none⟩ = some x.c2 ∧ W0.cell? ⟨b, off + j * 7 + 3, none⟩ = some x.c3 ∧ W0.cell? ⟨b, off + j * 7 + 4, none⟩ = some x.c4 ∧ W0.cell? ⟨b, off + j * 7 + 5, none⟩ = some x.c5 ∧ W0.cell? ⟨b, off + j * 7 + 6, none⟩ = some x.c6 := fun j hj => by
    obtain ⟨t, ht⟩ : ∃ t, L[j]? = some t := ⟨_, List.getElem?_eq_getElem (by omega)⟩
    obtain ⟨g, off, c, e, ho, _, hcell, hx⟩ := hx_at h (j := j) (x := xE t) (by rw [List.getElem?_map, ht]; rfl)
    have hx2 := hx
    obtain ⟨k, s, m, u, b1, m1, c1, b2, m2, c2, b3, m3, c3, rfl⟩ := hcE hx
    exact ⟨⟨j, _, _, _, _, _, _, _⟩, rfl, ⟨t, ht, hx2⟩, g, off, e, ho, hcell 0 _ rfl, hcell 1 _ rfl, hcell 2 _ rfl, hcell 3 _ rfl, hcell 4 _ rfl, hcell 5 _ rfl, hcell 6 _ rfl⟩
  refine ⟨fun j => if hj : j < n then ⟨(key j hj).choose, (key j hj).choose_spec.2.1⟩ else ⟨(key 0 hn).choose, (key 0 hn).choose_spec.2.1⟩, fun j hj => ?_, fun j hj => ?_⟩
  · simp only [hj, dif_pos]
    exact (key j hj).choose_spec.1
  · simp only [hj, dif_pos]
    exact (key j hj).choose_spec.2.2
end Go.Proofs.YtjabhmepafofmaaDoor
namespace Go.Proofs.YtjabhmepafofmaaDoor
open Go.RowKit
theorem hx_of_own {e k B n : Nat} {ok ok' : Nat → Prop} {w : World} {a : Option Addr} {c : Nat} {ls : List (List X)} (h : OutG RX e k ok B w (.slice a n c) n ls) (hk : 0 < k) (h1 : ∀ b, (Value.slice a n c).ownBlock = some b → B ≤ b → b < w.heap.size → ok' b) (h2 : ∀ b, b < w.heap.size → ok b → ok' b) : Hx ok' w (.row k ls) (.slice a n c) := by
  have h0 := h
  obtain ⟨hn, cs, hc, hkc, hown, hr⟩ := h
  simp only [Hx]
  refine ⟨a, c, by rw [hn], ?_, ?_, Hrow.of_at hk 0 _ fun j x hj => ?_⟩
  · intro e
    rcases hown.2 with ⟨h2, h3⟩ | ⟨g, cap, cur, h2, _⟩
    · cases h2
      exact ⟨rfl, List.eq_nil_of_length_eq_zero hn⟩
    · cases h2
      cases e
  · rcases hown.2 with ⟨h2, h3⟩ | ⟨g, cap, cur, h2, _, _, h4, h5, _⟩
    · cases h2
      exact ⟨by omega, Nat.zero_le _⟩
    · cases h2
      exact ⟨by omega, h5⟩
  · obtain ⟨g, d, rfl, hB, hl, hcell, hx, cur, z, hb⟩ := h0.at_ hj
    refine ⟨g, 0, d, rfl, h1 g rfl hB (lt_of_block hb), hl, fun m u hu => ?_, Hc.mono hx (fun b hb ho => h2 b hb ho.1)⟩
    rw [Nat.zero_add, Nat.zero_add]
    exact hcell m u hu
end Go.Proofs.YtjabhmepafofmaaDoor
namespace Go.Proofs.YtjabhmepafofmaaDoor
open Go.RowKit

theorem setFrom_keeps (g : Nat) : ∀ (i : Nat) (vs : List Value) (w : World), KeepsOthers w (setFrom g i vs w)
  | _, [], w => KeepsOthers.refl _
  | i, v :: r, w => (KeepsOthers.setCell w ⟨g, i, none⟩ v).trans (setFrom_keeps g (i + 1) r _)
theorem seq_body {W0 W W1 : World} {B g4 gr : Nat} {L : List E} {e0 : E} {pre : List El} (h : Seqing W0 B g4 gr L e0 pre W) {x : El} (hx : OkE B g4 gr W0 L x) (hB : B ≤ W0.heap.size) (hgr : gr < W0.heap.size) (h4 : g4 < W0.heap.size) {cs : List Value} (hcs : W.heap[g4]? = some (.cells (List.toArray cs) 32 (0, 0))) (hl : cs.length = 7)
    (hW : W1 = (setFrom g4 0 [.int .u8 14, .string ⟨#[]⟩, .int .i64 0, .string ⟨#[]⟩, .slice (some ⟨W.heap.size, 0, none⟩) 2 2, .slice none 0 0, .slice none 0 0] W).alloc (.cells (List.toArray ([x.c0, x.c1, x.c2, x.c3, x.c4, x.c5, x.c6] ++ cs)) 32)) :
    KeepsFrom W0.heap.size W W1 ∧ Fr (Sl g4 W0.heap.size) W W1 ∧ Seqing W0 B g4 gr L e0 (pre ++ [x]) W1 := by
  have hsz := h.1.size
  have hg := lt_of_block hcs
  have hs := setFrom_size g4 0 [.int .u8 14, .string ⟨#[]⟩, .int .i64 0, .string ⟨#[]⟩, .slice (some ⟨W.heap.size, 0, none⟩) 2 2, .slice none 0 0, .slice none 0 0] W
  have hf : Fr (Just g4) W W1 := by
    rw [hW]
    exact (setFrom_fr g4 0 _ W).then (Fr.alloc _ _)
  refine ⟨?_, hf.mono (fun i _ e => .inl e), ?_⟩
  · rw [hW]
    exact ((setFrom_keeps g4 0 _ W).trans (KeepsOthers.alloc _ _)).from _
  · refine h.step hx hB hgr h4 hcs (hf.mono (fun i _ e => .inl e)) (Nat.le_refl _) ?_ ?_ rfl
    · rw [hW]
      have := new_block (setFrom g4 0 [.int .u8 14, .string ⟨#[]⟩, .int .i64 0, .string ⟨#[]⟩, .slice (some ⟨W.heap.size, 0, none⟩) 2 2, .slice none 0 0, .slice none 0 0] W) (.cells (List.toArray ([x.c0, x.c1, x.c2, x.c3, x.c4, x.c5, x.c6] ++ cs)) 32)
      rw [hs] at this
      exact this
    · rw [hW]
      exact (Fr.alloc _ _).keeps (setFrom_all (old := cs) _ hcs hl) no_one
theorem putObj_fr (W : World) (D : Nat) (o : Obj) : Fr (Just D) W (W.putObj D o) := Fr.grownR (grownBy_putObj' W D o) (fun k e => by cases e; rfl)
/-- behind the loop: what is handed back -/
theorem seq_done {W0 W : World} {B g4 gr D m1 : Nat} {L : List E} {y : E} {el : Nat → El} (hI : Seqing W0 B g4 gr L y (downTo el m1 m1) W) (hi : ∀ j, j < m1 → (el j).i = j) (hL : L.length = m1 + 1) (hy : L.getLastD zE = y) (hD : W0.heap.size ≤ D) (hKD : W.heap[D]? = some (.deferred (some []))) (hgr : gr < W0.heap.size)
    {cs old : List Value} (hcs : W.heap[g4]? = some (.cells (List.toArray cs) 32 (0, 0))) (hr : W.heap[gr]? = some (.cells (List.toArray old) 32 (0, 0))) (hl : old.length = 7) (hl2 : cs.length = 7) :
    ((setFrom gr 0 cs W).putObj D (.deferred none)).heap[gr]? = some (.cells (List.toArray cs) 32 (0, 0)) ∧ (setFrom gr 0 cs W).heap[D]? = some (.deferred (some [])) ∧
      Hc (fun b => B ≤ b) ((setFrom gr 0 cs W).putObj D (.deferred none)) (xE (Gr.seqs L)) cs ∧ Fr (fun k => k = g4 ∨ k = gr ∨ W0.heap.size ≤ k) W0 ((setFrom gr 0 cs W).putObj D (.deferred none)) := by
  obtain ⟨h1, cs', h2, h3⟩ := hI
  rw [hcs] at h2
  simp only [Option.some.injEq, Obj.cells.injEq, List.toArray_inj, and_true] at h2
  obtain ⟨rfl⟩ := h2
  have hne : gr ≠ D := by omega
  have hfs := setFrom_fr gr 0 cs W
  have hk2 : (setFrom gr 0 cs W).heap[D]? = some (.deferred (some [])) := hfs.keeps hKD (fun (e : D = gr) => hne e.symm)
  refine ⟨(putObj_fr _ D _).keeps (setFrom_all (old := old) cs hr (by omega)) (fun (e : gr = D) => hne e), hk2, ?_, ?_⟩
  · rw [← seqs_down L el m1 hL hi, hy]
    have h4 := h3.fr hfs (fun b hb (e : b = gr) => hb.2.2 e)
    refine h4.keepC fun b hb ho => ⟨(putObj_fr _ D _).block b (by obtain ⟨_, _, _, hb⟩ := hb; exact lt_of_block hb) (fun (e : b = D) => ?_), ho.1⟩
    obtain ⟨_, _, _, hb⟩ := hb
    rw [e, hk2] at hb
    cases hb
  · exact ((h1.mono (T := fun k => k = g4 ∨ k = gr ∨ W0.heap.size ≤ k) (fun i _ h => h.elim .inl (fun h => .inr (.inr h)))).trans hfs (fun i _ (e : i = gr) => .inr (.inl e))).trans (putObj_fr _ D _) (fun i _ (e : i = D) => .inr (.inr (by omega)))
end Go.Proofs.YtjabhmepafofmaaDoor
