/- What lies in memory for a set of numbers, the program's and the document's; what a call leaves as it was; New, Size, Has, Set, Clear of the program's. -/
import Derived.Test.YtdbfmckikmddcaaDoorWc
import Derived.Deep.QuietTactic
import Derived.BigQuiet
namespace Go.Proofs.YtdbfmckikmddcaaDoor
open Go.RowKit

/-- the blocks that were there, but those of S, are as they were -/
structure Fr (S : Nat → Prop) (w w' : World) : Prop where
  os : w'.os = w.os
  tape : w'.tape = w.tape
  output : w'.output = w.output
  size : w.heap.size ≤ w'.heap.size
  block : ∀ k, k < w.heap.size → ¬ S k → w'.heap[k]? = w.heap[k]?
def No (_ : Nat) : Prop := False
def Just (c : Nat) (k : Nat) : Prop := k = c
theorem Fr.refl (S : Nat → Prop) (w : World) : Fr S w w := ⟨rfl, rfl, rfl, Nat.le_refl _, fun _ _ _ => rfl⟩
theorem Fr.trans {S T : Nat → Prop} {a b c : World} (h : Fr S a b) (k : Fr T b c) (hs : ∀ i, i < a.heap.size → T i → S i) : Fr S a c :=
  ⟨k.os.trans h.os, k.tape.trans h.tape, k.output.trans h.output, Nat.le_trans h.size k.size,
    fun i hi hn => (k.block i (Nat.lt_of_lt_of_le hi h.size) (fun ht => hn (hs i hi ht))).trans (h.block i hi hn)⟩
theorem Fr.then {S : Nat → Prop} {a b c : World} (h : Fr S a b) (k : Fr No b c) : Fr S a c := h.trans k fun _ _ h => h.elim
theorem Fr.mono {S T : Nat → Prop} {a b : World} (h : Fr S a b) (hs : ∀ i, i < a.heap.size → S i → T i) : Fr T a b :=
  ⟨h.os, h.tape, h.output, h.size, fun i hi hn => h.block i hi fun s => hn (hs i hi s)⟩
theorem Fr.drew (w : World) : Fr No w w.drew := ⟨rfl, rfl, rfl, Nat.le_refl _, fun _ _ _ => rfl⟩
theorem Fr.alloc (w : World) (o : Obj) : Fr No w (w.alloc o) := ⟨rfl, rfl, rfl, by simp, fun _ h _ => Below.heap_alloc _ _ _ h⟩
theorem Fr.setCell (w : World) (a : Addr) (v : Value) : Fr (Just a.block) w (w.setCell a v) :=
  ⟨rfl, rfl, rfl, by simp [World.setCell], fun k _ hn => Below.heap_setCell _ _ _ _ hn⟩
theorem Fr.below {S : Nat → Prop} {w w' : World} (h : Fr S w w') (B : Nat) (hB : B ≤ w.heap.size) (hs : ∀ i, S i → B ≤ i) : Below B w w' :=
  ⟨h.os, h.tape, h.output, h.size, fun k hk => h.block k (by omega) fun s => by have := hs k s; omega⟩
theorem Fr.ofBelow {w w' : World} (h : Below w.heap.size w w') : Fr No w w' := ⟨h.os, h.tape, h.output, h.size, fun k hk _ => h.block k hk⟩
/-- a block that is known is there -/
theorem lt_of_block {w : World} {b : Nat} {o : Obj} (h : w.heap[b]? = some o) : b < w.heap.size := (Array.getElem?_eq_some_iff.1 h).1
theorem Fr.keeps {S : Nat → Prop} {w w' : World} (h : Fr S w w') {b : Nat} {o : Obj} (hb : w.heap[b]? = some o) (hn : ¬ S b) : w'.heap[b]? = some o :=
  (h.block b (lt_of_block hb) hn).trans hb
theorem cell_of {w : World} {b : Nat} {arr : Array Value} {t : TypeId} {z : Nat × Nat} (h : w.heap[b]? = some (.cells arr t z)) (i : Nat) : w.cell? ⟨b, i, none⟩ = arr[i]? := by
  simp [World.cell?, h]
theorem free_of {w : World} {b : Nat} {arr : Array Value} {t : TypeId} (h : w.heap[b]? = some (.cells arr t (0, 0))) (i : Nat) : w.frozen? ⟨b, i, none⟩ = false := by
  simp [World.frozen?, h]
theorem block_setCell {w : World} {b : Nat} {arr : Array Value} {t : TypeId} {z : Nat × Nat} (h : w.heap[b]? = some (.cells arr t z)) (i : Nat) (v : Value) :
    (w.setCell ⟨b, i, none⟩ v).heap[b]? = some (.cells (arr.setIfInBounds i v) t z) := by
  simp [World.setCell, Array.getElem?_modify, h]

theorem new_block (w : World) (o : Obj) : (w.alloc o).heap[w.heap.size]? = some o := by
  show (w.heap.push o)[w.heap.size]? = some o
  simp
theorem size_alloc (w : World) (o : Obj) : (w.alloc o).heap.size = w.heap.size + 1 := by
  show (w.heap.push o).size = _
  simp
theorem madeCells_at (z : Value) (n k : Nat) (hk : k < n) : (madeCells #[z] n)[k]? = some z := by
  rw [← Array.getElem?_toList, toList_madeCells_one, List.getElem?_replicate, if_pos hk]
/-- a set of the program's: its count, and its words -/
structure IsBits (w : World) (b c n : Nat) (f : Nat → Bool) : Prop where
  head : ∃ k, (n + 63) / 64 ≤ k ∧ w.heap[b]? = some (.cells #[.int .i64 n, .slice (some ⟨c, 0, none⟩) ((n + 63) / 64 : Nat) k] 58 (0, 0))
  words : ∃ arr, w.heap[c]? = some (.cells arr 54 (0, 0)) ∧ ∀ k, k < (n + 63) / 64 → arr[k]? = some (.int .u64 (Plain.W f k))
  top : ∀ j, n ≤ j → f j = false
  small : n ≤ 65536

theorem IsBits.keep {S : Nat → Prop} {w w' : World} {b c n : Nat} {f : Nat → Bool} (h : IsBits w b c n f) (hf : Fr S w w') (hb : ¬ S b) (hc : ¬ S c) : IsBits w' b c n f := by
  obtain ⟨⟨k, hk, h1⟩, ⟨arr, h2, h3⟩, h4, h5⟩ := h
  exact ⟨⟨k, hk, hf.keeps h1 hb⟩, ⟨arr, hf.keeps h2 hc, h3⟩, h4, h5⟩
theorem IsBits.lt {w : World} {b c n : Nat} {f : Nat → Bool} (h : IsBits w b c n f) : b < w.heap.size ∧ c < w.heap.size := by
  obtain ⟨⟨k, hk, h1⟩, ⟨arr, h2, h3⟩, h4, h5⟩ := h
  exact ⟨lt_of_block h1, lt_of_block h2⟩
theorem IsBits.ne {w : World} {b c n : Nat} {f : Nat → Bool} (h : IsBits w b c n f) : b ≠ c := by
  obtain ⟨⟨k, hk, h1⟩, ⟨arr, h2, h3⟩, h4, h5⟩ := h
  intro e
  subst e
  rw [h1] at h2
  simp at h2
/-- a number's word is turned -/
theorem IsBits.put {w : World} {b c n : Nat} {f : Nat → Bool} (h : IsBits w b c n f) (i : Nat) (hi : i < n) (v : Bool) :
    IsBits (w.setCell ⟨c, i / 64, none⟩ (.int .u64 (Plain.W (Plain.upd f i v) (i / 64)))) b c n (Plain.upd f i v) := by
  have hne := h.ne
  obtain ⟨⟨k, hk, h1⟩, ⟨arr, h2, h3⟩, h4, h5⟩ := h
  refine ⟨⟨k, hk, (Fr.setCell w ⟨c, i / 64, none⟩ _).keeps h1 hne⟩, ⟨_, block_setCell h2 _ _, fun q hq => ?_⟩, fun j hj => ?_, h5⟩
  · by_cases e : q = i / 64
    · subst e
      have hlt : i / 64 < arr.size := (Array.getElem?_eq_some_iff.1 (h3 _ hq)).1
      simp [hlt]
    · rw [Array.getElem?_setIfInBounds, if_neg (by omega), h3 q hq]
      cases v
      · rw [Plain.W_clear, if_neg e]
      · rw [Plain.W_set, if_neg e]
  · have : j ≠ i := by omega
    simp [Plain.upd, this, h4 j hj]

/-- is a number in? -/
def mem (n : Nat) (f : Nat → Bool) (i : Int) : Bool := decide (0 ≤ i) && decide (i < n) && f i.toNat

theorem info54 : (Tryd.prog.info? 54).map (fun i => (i.zero, i.size, i.bytes)) = some (some (.int .u64 0), 1, 8) := by kernel_rfl
theorem info4 : (Tryd.prog.info? 4).map (fun i => (i.zero, i.size, i.bytes)) = some (some (.bool false), 1, 1) := by kernel_rfl

set_option maxHeartbeats 400000 in
theorem new_ok (n : Nat) (w : World) (hn : n ≤ 65536) :
    Calls Tryd.prog 14 #[.int .i64 n] w fun e w' => e = .returned (.tuple #[.pointer (some ⟨w.heap.size + 1, 0, none⟩), .int .i64 0]) ∧ Fr No w w' ∧ IsBits w' (w.heap.size + 1) w.heap.size n (fun _ => false) := by
  obtain ⟨l, hl⟩ : ∃ l, Hid ((n + 63) / 64 = l) := ⟨_, rfl⟩
  obtain ⟨i0, hi, hz0, hz1, hz2⟩ := info_parts info54
  have hmk : ∀ u : World, (Instr.makeSlice 56 (.int .i64 (l : Int)) (.int .i64 (l : Int))).run Tryd.prog u =
      .ok (.slice (some ⟨u.heap.size, 0, none⟩) l l) (u.alloc (.cells (madeCells #[.int .u64 0] l) 54)) := fun u => by
    have h0 := hl.out
    have h := run_make (P := Tryd.prog) u 56 54 i0 (.int .u64 0) Tryd.underlying56 hi hz0 .i64 .i64 (l : Int) (l : Int) (by omega) (Int.le_refl _) (by rw [hz2]; omega) (by omega)
    simpa [hz1, Value.cells] using h
  have e1 : ((n : Int) + 64 - 1) / 64 = (l : Int) := by
    have h0 := hl.out
    omega
  go_enter Tryd.func14, Tryd.ntmps14
  go_wp2
  go_ret2
  refine ⟨rfl, (Fr.alloc _ _).then (Fr.alloc _ _), ?_⟩
  have h0 := hl.out
  refine ⟨⟨l, by omega, ?_⟩, ⟨madeCells #[.int .u64 0] l, ?_, fun k hk => ?_⟩, fun _ _ => rfl, hn⟩
  · rw [h0, ← size_alloc w (.cells (madeCells #[.int .u64 0] l) 54)]; exact new_block _ _
  · rw [Below.heap_alloc _ _ _ (by simp)]; exact new_block _ _
  · rw [madeCells_at _ _ _ (by omega), Plain.W_none]
    rfl
end Go.Proofs.YtdbfmckikmddcaaDoor
