/- Copy of the program's set. -/
import Derived.Test.YtdbfmckikmddcaaDoorWe
import Derived.Deep.RegionHeld3
namespace Go.Proofs.YtdbfmckikmddcaaDoor
open Go.RowKit
theorem addr_add (c off j : Nat) : (⟨c, off, none⟩ : Addr).add j = ⟨c, off + j, none⟩ := by
  unfold Addr.add
  split
  · subst_vars; rfl
  · rfl
theorem own_empty (w : World) : (w.alloc (.cells #[] 54)).ownsRow w.heap.size 54 1 (.slice (some ⟨w.heap.size, 0, none⟩) 0 0) 0 [] :=
  ⟨rfl, .inr ⟨w.heap.size, 0, #[], rfl, Nat.le_refl _, new_block w _, Nat.le_refl _, by unfold maxLen; omega, rfl, rfl⟩⟩
/-- what a clone of words answers: words of its own -/
def CloneSaid (w : World) (l : Nat) (xs : List Value) (e : Ending) (w' : World) : Prop :=
  ∃ g cap cur, e = .returned (.slice (some ⟨g, 0, none⟩) l cap) ∧ Fr No w w' ∧ w.heap.size ≤ g ∧ w'.heap[g]? = some (.cells cur 54 (0, 0)) ∧ l ≤ cap ∧ cur.toList.take l = xs
set_option maxHeartbeats 400000 in
theorem clone_any (c l k : Nat) (xs : List Value) (w : World) (hl : l ≤ 1024) (hx : xs.length = l) (hc : Hid (∀ j u, xs[j]? = some u → w.cell? ⟨c, j, none⟩ = some u ∧ u.oneCell' = true)) :
    Calls Tryd.prog 33 #[.slice (some ⟨c, 0, none⟩) l k] w (CloneSaid w l xs) := by
  obtain ⟨i0, hi, hz0, hz1, hz2⟩ := info_parts info54
  have hnil := fun (u : World) => Lib.run_eql_slice_nil u 56 54 (some ⟨c, 0, none⟩) l k 0 0 Tryd.underlying56
  have H := Lib.hid hx
  clear hx
  go_enter Tryd.func33, Tryd.ntmps33
  go_wp2_with (at_builtin; refine wpList_append_own _ rfl _ _ 56 rfl w.heap.size 54 i0 (.int .u64 0) 1 8 Tryd.underlying56 hi hz0 hz1 hz2 rfl (by decide) _ _ _ rfl (own_empty w) ⟨c, 0, none⟩ l k xs rfl ?c1 ?c2 ?c3 ?c4 ?c5 ?c6 ?_)
  case c1 => rw [H.out]; omega
  case c2 =>
    intro j u hu
    have h1 := (hc.out j u hu).1
    rw [addr_add, Nat.zero_add, (Below.alloc (Below.refl w.heap.size w) (Nat.le_refl _) _).cell (World.block_lt_of_cell? w _ h1)]
    exact h1
  case c3 => intro u hu; obtain ⟨j, hj⟩ := List.getElem?_of_mem hu; exact (hc.out j u hj).2
  case c4 => unfold maxLen; omega
  case c5 => omega
  case c6 => simp
  intro v' w1 hown hg hiff
  go_wp2
  go_ret
  obtain ⟨_, ⟨rfl, _⟩ | ⟨g, cap, cur, rfl, hgb, hblk, hnc, _, _, htk⟩⟩ := hown
  · exact absurd rfl hiff
  · exact ⟨g, cap, cur, rfl, Fr.ofBelow (((Below.refl _ _).alloc (Nat.le_refl _) _).grown hg (by simp) (fun k hk => by simp [Value.ownBlock] at hk; omega)), hgb, hblk, hnc, by simpa using htk⟩
theorem copy_nil (w : World) : Calls Tryd.prog 19 #[.pointer none] w fun e w' => e = .returned (.pointer none) ∧ w = w' := by
  go_enter Tryd.func19, Tryd.ntmps19
  go_wp2
  go_ret
  exact ⟨rfl, rfl⟩
/-- what Copy answers: a set of its own -/
def CopySaid (w : World) (n : Nat) (f : Nat → Bool) (e : Ending) (w' : World) : Prop :=
  ∃ b c, e = .returned (.pointer (some ⟨b, 0, none⟩)) ∧ Fr No w w' ∧ IsBits w' b c n f ∧ w.heap.size ≤ b ∧ w.heap.size ≤ c
theorem Fr.cell {w w' : World} (h : Fr No w w') {a : Addr} {v : Value} (hc : w.cell? a = some v) : w'.cell? a = some v :=
  (World.cell?_of_block (h.block _ (World.block_lt_of_cell? w _ hc) (fun x => x))).trans hc
def CopyRaw (w : World) (n l : Nat) (xs : List Value) (e : Ending) (w' : World) : Prop :=
  ∃ b g cap cur, e = .returned (.pointer (some ⟨b, 0, none⟩)) ∧ Fr No w w' ∧ w.heap.size ≤ b ∧ w.heap.size ≤ g ∧ w'.heap[b]? = some (.cells #[.int .i64 n, .slice (some ⟨g, 0, none⟩) l cap] 58 (0, 0)) ∧ w'.heap[g]? = some (.cells cur 54 (0, 0)) ∧ l ≤ cap ∧ cur.toList.take l = xs
set_option maxHeartbeats 400000 in
theorem copy_walk (b c n l k : Nat) (xs : List Value) (w : World) (hl : l ≤ 1024) (hx : Hid (xs.length = l)) (hc : Hid (∀ j u, xs[j]? = some u → w.cell? ⟨c, j, none⟩ = some u ∧ u.oneCell' = true))
    (c0 : w.cell? ⟨b, 0, none⟩ = some (.int .i64 n)) (c1 : w.cell? ⟨b, 1, none⟩ = some (.slice (some ⟨c, 0, none⟩) l k)) :
    Calls Tryd.prog 19 #[.pointer (some ⟨b, 0, none⟩)] w (CopyRaw w n l xs) := by
  go_enter Tryd.func19, Tryd.ntmps19
  go_wp2_with fail
  go_region_held3 (fun w' => w'.cell? ⟨b, 0, none⟩ = some (.int .i64 n) ∧ w'.cell? ⟨b, 1, none⟩ = some (.slice (some ⟨c, 0, none⟩) l k))
    (first | go_keep | (exact ⟨hf.cell c0, hf.cell c1⟩))
    (first | (go_at_call 33; refine (clone_any c l k xs _ hl hx.out ?_).mono ?_; (exact Lib.hid (fun j u hu => ⟨by simpa using (hc.out j u hu).1, (hc.out j u hu).2⟩)); rintro e w' ⟨g, cap, cur, rfl, hf, hgb, hblk, hnc, htk⟩))
  go_wp2
  go_ret
  have hlt := lt_of_block hblk
  refine ⟨w'.heap.size, g, cap, cur, rfl, ((Fr.drew w).then hf).then (Fr.alloc _ _), hf.size, hgb, new_block _ _, ?_, hnc, htk⟩
  rw [Below.heap_alloc _ _ _ hlt]
  exact hblk
theorem copy_any (b c n : Nat) (f : Nat → Bool) (w : World) (h : IsBits w b c n f) :
    Calls Tryd.prog 19 #[.pointer (some ⟨b, 0, none⟩)] w (CopySaid w n f) := by
  obtain ⟨k, c0, c1, hk⟩ := h.cells
  have hs := h.small
  refine (copy_walk b c n ((n + 63) / 64) k ((List.range ((n + 63) / 64)).map fun q => .int .u64 (Plain.W f q)) w (by omega) (Lib.hid (by simp)) (Lib.hid fun j u hu => ?_) c0 c1).mono ?_
  · obtain ⟨hj, he⟩ := List.getElem?_eq_some_iff.1 hu
    simp at hj he
    subst he
    exact ⟨(h.word hj).1, rfl⟩
  · rintro e w' ⟨b', g, cap, cur, rfl, hf, hb, hg, h1, h2, h3, h4⟩
    refine ⟨b', g, rfl, hf, ⟨⟨cap, h3, h1⟩, ⟨cur, h2, fun q hq => ?_⟩, h.top, hs⟩, hb, hg⟩
    have h5 : (cur.toList.take ((n + 63) / 64))[q]? = some (.int .u64 (Plain.W f q)) := by rw [h4]; simp [hq]
    rw [List.getElem?_take, if_pos hq] at h5
    rw [← Array.getElem?_toList]; exact h5
end Go.Proofs.YtdbfmckikmddcaaDoor
