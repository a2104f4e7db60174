/- Copy of the document's set. -/
import Derived.Test.YtdbfmckikmddcaaDoorWg
import Derived.Deep.RegionLaw
import Derived.Deep.AppendLies
namespace Go.Proofs.YtdbfmckikmddcaaDoor
open Go.RowKit
/-- what Copy answers, in cells -/
def RawSaid (w : World) (n : Nat) (xs : List Value) (e : Ending) (w' : World) : Prop :=
  ∃ g cap cur, e = .returned (.pointer (some ⟨w.heap.size, 0, none⟩)) ∧ Fr No w w' ∧ w.heap.size ≤ g ∧ w'.heap[w.heap.size]? = some (.cells #[.slice (some ⟨g, 0, none⟩) n cap] 51 (0, 0)) ∧ w'.heap[g]? = some (.cells cur 4 (0, 0)) ∧ n ≤ cap ∧ cur.toList.take n = xs
set_option maxHeartbeats 1000000 in
theorem rcopy_zero (b cap : Nat) (a : Option Addr) (w : World) (c0 : w.cell? ⟨b, 0, none⟩ = some (.slice a 0 cap)) :
    Calls Tryd.prog 20 #[.pointer (some ⟨b, 0, none⟩)] w fun e w' => e = .returned (.pointer (some ⟨w.heap.size, 0, none⟩)) ∧ Fr No w w' ∧ w'.heap[w.heap.size]? = some (.cells #[.slice none 0 0] 51 (0, 0)) := by
  have hlt := World.block_lt_of_cell? w _ c0
  go_enter Tryd.func20, Tryd.ntmps20
  go_wp2_with fail
  cases a
  all_goals
    go_region
    go_wp2
    go_ret
    exact ⟨rfl, (Fr.alloc _ _).then (Fr.drew _), new_block _ _⟩
theorem news_at {c : Nat} {xs : List Value} (w W : World) (hW : ∀ k, k < w.heap.size → W.heap[k]? = w.heap[k]?) (hc : Hid (∀ j u, xs[j]? = some u → w.cell? ⟨c, j, none⟩ = some u ∧ u.oneCell' = true)) :
    ∀ j u, xs[j]? = some u → W.cell? ((⟨c, 0, none⟩ : Addr).add j) = some u := by
  intro j u hu
  have h1 := (hc.out j u hu).1
  rw [addr_add, Nat.zero_add]
  exact (World.cell?_of_block (hW _ (World.block_lt_of_cell? w _ h1))).trans h1
theorem one_at {c : Nat} {xs : List Value} {w : World} (hc : Hid (∀ j u, xs[j]? = some u → w.cell? ⟨c, j, none⟩ = some u ∧ u.oneCell' = true)) : ∀ u ∈ xs, u.oneCell' = true := by
  intro u hu
  obtain ⟨j, hj⟩ := List.getElem?_of_mem hu
  exact (hc.out j u hj).2
theorem grown_new {w w1 : World} {o : Obj} (hg : ((w.alloc o).drew).grownBy w1 (Value.ownBlock (.slice none 0 0))) : w1.heap[w.heap.size]? = some o ∧ Fr No w w1 := by
  refine ⟨(hg.block w.heap.size (by simp) (by simp [Value.ownBlock])).trans (new_block w o), ⟨hg.os, hg.tape, hg.output, ?_, fun k hk _ => (hg.block k (by simp; omega) (by simp [Value.ownBlock])).trans (Below.heap_alloc w o k hk)⟩⟩
  have := hg.size
  simp at this
  omega
theorem raw_end {w w1 : World} {g n cap : Nat} {xs : List Value} (h1 : w1.heap[w.heap.size]? = some (.cells #[.slice none 0 0] 51 (0, 0))) (hf : Fr No w w1) (ho : w1.ownsRow w.heap.size 4 1 (.slice (some ⟨g, 0, none⟩) (0 + n) cap) (0 + n) ([] ++ xs)) :
    RawSaid w n xs (.returned (.pointer (some ⟨w.heap.size, 0, none⟩))) (w1.setCell ⟨w.heap.size, 0, none⟩ (.slice (some ⟨g, 0, none⟩) n cap)) := by
  rw [Nat.zero_add, List.nil_append] at ho
  obtain ⟨_, ⟨e, _⟩ | ⟨g', cap', cur, e, hgb, hblk, hnc, _, _, htk⟩⟩ := ho
  · cases e
  · simp only [Value.slice.injEq, Option.some.injEq, Addr.mk.injEq] at e
    obtain ⟨⟨rfl, _⟩, _, rfl⟩ := e
    have hne : g ≠ w.heap.size := by
      intro e
      subst e
      rw [h1] at hblk
      simp at hblk
    refine ⟨g, cap, cur, rfl, hf.trans (Fr.setCell w1 ⟨w.heap.size, 0, none⟩ _) (fun i hi e => by unfold Just at e; simp at e; omega), hgb, block_setCell h1 0 _, ?_, hnc, by simpa using htk⟩
    exact (Fr.setCell w1 ⟨w.heap.size, 0, none⟩ _).keeps hblk hne
/-- what Copy answers: a set of its own -/
def RCopySaid (w : World) (n : Nat) (f : Nat → Bool) (e : Ending) (w' : World) : Prop :=
  ∃ b c, e = .returned (.pointer (some ⟨b, 0, none⟩)) ∧ Fr No w w' ∧ IsRef w' b c n f ∧ w.heap.size ≤ b ∧ w.heap.size ≤ c
set_option maxHeartbeats 1000000 in
theorem rcopy_some (b c n cap : Nat) (xs : List Value) (w : World) (hn : n ≤ 65536) (h0 : 0 < n) (hx : Hid (xs.length = n * 1)) (hc : Hid (∀ j u, xs[j]? = some u → w.cell? ⟨c, j, none⟩ = some u ∧ u.oneCell' = true)) (c0 : w.cell? ⟨b, 0, none⟩ = some (.slice (some ⟨c, 0, none⟩) n cap)) :
    Calls Tryd.prog 20 #[.pointer (some ⟨b, 0, none⟩)] w (RawSaid w n xs) := by
  have hlt := World.block_lt_of_cell? w _ c0
  obtain ⟨i0, hi, hz0, hz1, hz2⟩ := info_parts info4
  have HN : Hid (∀ u : World, u.ownsRow w.heap.size 4 1 (.slice none 0 0) 0 []) := Lib.hid fun u => ⟨rfl, .inl ⟨rfl, rfl⟩⟩
  have H1 : Hid (0 + n ≤ maxLen) := Lib.hid (by unfold maxLen; omega)
  have H2 : Hid ((0 + n) * 1 ≤ 140737488355328) := Lib.hid (by omega)
  go_enter Tryd.func20, Tryd.ntmps20
  go_wp2_with fail
  go_region_law (first | (refine step_append_lies _ (by rfl) _ _ _ (by rfl) w.heap.size 4 i0 (.bool false) 1 1 Tryd.underlying49 hi hz0 hz1 hz2 rfl (by decide) (.slice none 0 0) 0 [] (by rfl) (HN.out _) ⟨c, 0, none⟩ n cap xs (by rfl) hx.out (news_at w _ (fun k hk => Below.heap_alloc _ _ _ hk) hc) (one_at hc) h0 H1.out H2.out (by simp) (w.heap.size + 1) (by simp) ?_; intro g cap' w1 hown hg hat hlt1; have hb := Lib.hid (grown_new hg); have kc : w1.cell? ⟨w.heap.size, 0, none⟩ = some (.slice none 0 0) := (cell_of hb.out.1 0).trans rfl; have kf := free_of hb.out.1 0; have HO := Lib.hid hown; clear hown hg hat hlt1))
  all_goals
    go_wp2
    go_ret
    exact raw_end hb.out.1 hb.out.2 HO.out
theorem rcopy_any (b c n : Nat) (f : Nat → Bool) (w : World) (h : IsRef w b c n f) :
    Calls Tryd.prog 20 #[.pointer (some ⟨b, 0, none⟩)] w (RCopySaid w n f) := by
  obtain ⟨a, cap, c0, ha, _⟩ := h.cells
  have hs := h.small
  by_cases hn : n = 0
  · subst hn
    refine (rcopy_zero b cap a w c0).mono ?_
    rintro e w' ⟨rfl, hf, h1⟩
    exact ⟨w.heap.size, w.heap.size + 1, rfl, hf, ⟨⟨none, 0, Nat.le_refl _, h1, fun h => by omega⟩, h.top, hs⟩, Nat.le_refl _, by omega⟩
  · rw [ha (by omega)] at c0
    refine (rcopy_some b c n cap ((List.range n).map fun q => .bool (f q)) w hs (by omega) (Lib.hid (by simp)) (Lib.hid fun j u hu => ?_) c0).mono ?_
    · obtain ⟨hj, he⟩ := List.getElem?_eq_some_iff.1 hu
      simp at hj he
      subst he
      exact ⟨(h.bit hj).1, rfl⟩
    · rintro e w' ⟨g, cap, cur, rfl, hf, hg, h1, h2, h3, h4⟩
      refine ⟨w.heap.size, g, rfl, hf, ⟨⟨some ⟨g, 0, none⟩, cap, h3, h1, fun _ => ⟨rfl, cur, h2, fun q hq => ?_⟩⟩, h.top, hs⟩, Nat.le_refl _, hg⟩
      have h5 : (cur.toList.take n)[q]? = some (.bool (f q)) := by rw [h4]; simp [hq]
      rw [List.getElem?_take, if_pos hq] at h5
      rw [← Array.getElem?_toList]; exact h5
end Go.Proofs.YtdbfmckikmddcaaDoor
