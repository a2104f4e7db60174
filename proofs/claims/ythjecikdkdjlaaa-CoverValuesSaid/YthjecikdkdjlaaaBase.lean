/- What a call leaves as it was; types as a tree, and what lies in memory for one. -/
import Derived.Test.YthjecikdkdjlaaaRows
import Derived.WalkKit
import Derived.WalkSpells
import Derived.WalkLawsBesides
import Derived.Lib.Hide
namespace Go.Proofs.Ythjecikdkdjlaaa
open Go.RowKit

/-- the blocks that were there, but those of S, are as they were -/
structure Fr (S : Nat → Prop) (w w' : World) : Prop where
  os : w'.os = w.os
  tape : w'.tape = w.tape
  output : w'.output = w.output
  size : w.heap.size ≤ w'.heap.size
  block : ∀ k, k < w.heap.size → ¬ S k → w'.heap[k]? = w.heap[k]?
def No (_ : Nat) : Prop := False
def Just (c : Nat) (k : Nat) : Prop := k = c
theorem no_one {x : Nat} : ¬ No x := fun h => h
theorem Fr.refl (S : Nat → Prop) (w : World) : Fr S w w := ⟨rfl, rfl, rfl, Nat.le_refl _, fun _ _ _ => rfl⟩
theorem Fr.trans {S T : Nat → Prop} {a b c : World} (h : Fr S a b) (k : Fr T b c) (hs : ∀ i, i < a.heap.size → T i → S i) : Fr S a c :=
  ⟨k.os.trans h.os, k.tape.trans h.tape, k.output.trans h.output, Nat.le_trans h.size k.size,
    fun i hi hn => (k.block i (Nat.lt_of_lt_of_le hi h.size) (fun ht => hn (hs i hi ht))).trans (h.block i hi hn)⟩
theorem Fr.then {S : Nat → Prop} {a b c : World} (h : Fr S a b) (k : Fr No b c) : Fr S a c := h.trans k fun _ _ h => h.elim
/-- blocks of the call's own are written: what was there stays -/
theorem Fr.own {a b c : World} {T : Nat → Prop} (h : Fr No a b) (k : Fr T b c) (hT : ∀ i, T i → a.heap.size ≤ i) : Fr No a c :=
  h.trans k fun i hi e => by have := hT i e; omega
theorem Fr.mono {S T : Nat → Prop} {a b : World} (h : Fr S a b) (hs : ∀ i, i < a.heap.size → S i → T i) : Fr T a b :=
  ⟨h.os, h.tape, h.output, h.size, fun i hi hn => h.block i hi fun s => hn (hs i hi s)⟩
theorem Fr.drew (w : World) : Fr No w w.drew := ⟨rfl, rfl, rfl, Nat.le_refl _, fun _ _ _ => rfl⟩
theorem Fr.drewN (w : World) (q : Nat) : Fr No w (w.drewN q) := ⟨rfl, rfl, rfl, Nat.le_refl _, fun _ _ _ => rfl⟩
theorem Fr.alloc (w : World) (o : Obj) : Fr No w (w.alloc o) := ⟨rfl, rfl, rfl, by simp, fun _ h _ => Below.heap_alloc _ _ _ h⟩
theorem Fr.setCell (w : World) (a : Addr) (v : Value) : Fr (Just a.block) w (w.setCell a v) :=
  ⟨rfl, rfl, rfl, by simp [World.setCell], fun k _ hn => Below.heap_setCell _ _ _ _ hn⟩
theorem Fr.below {S : Nat → Prop} {w w' : World} (h : Fr S w w') (B : Nat) (hB : B ≤ w.heap.size) (hs : ∀ i, S i → B ≤ i) : Below B w w' :=
  ⟨h.os, h.tape, h.output, h.size, fun k hk => h.block k (by omega) fun s => by have := hs k s; omega⟩
theorem Fr.ofBelow {w w' : World} (h : Below w.heap.size w w') : Fr No w w' := ⟨h.os, h.tape, h.output, h.size, fun k hk _ => h.block k hk⟩
theorem Fr.cell {w w' : World} (h : Fr No w w') {a : Addr} {v : Value} (hc : w.cell? a = some v) : w'.cell? a = some v :=
  (World.cell?_of_block (h.block _ (World.block_lt_of_cell? w _ hc) no_one)).trans hc
theorem lt_of_block {w : World} {b : Nat} {o : Obj} (h : w.heap[b]? = some o) : b < w.heap.size := (Array.getElem?_eq_some_iff.1 h).1
theorem Fr.keeps {S : Nat → Prop} {w w' : World} (h : Fr S w w') {b : Nat} {o : Obj} (hb : w.heap[b]? = some o) (hn : ¬ S b) : w'.heap[b]? = some o :=
  (h.block b (lt_of_block hb) hn).trans hb
theorem cell_of {w : World} {b : Nat} {arr : Array Value} {t : TypeId} {z : Nat × Nat} (h : w.heap[b]? = some (.cells arr t z)) (i : Nat) : w.cell? ⟨b, i, none⟩ = arr[i]? := by
  simp [World.cell?, h]
theorem free_of {w : World} {b : Nat} {arr : Array Value} {t : TypeId} (h : w.heap[b]? = some (.cells arr t (0, 0))) (i : Nat) : w.frozen? ⟨b, i, none⟩ = false := by
  simp [World.frozen?, h]
theorem block_setCell {w : World} {b : Nat} {arr : Array Value} {t : TypeId} {z : Nat × Nat} (h : w.heap[b]? = some (.cells arr t z)) (i : Nat) (v : Value) :
    (w.setCell ⟨b, i, none⟩ v).heap[b]? = some (.cells (arr.setIfInBounds i v) t z) := by
  simp [World.setCell, Array.getElem?_modify, h]
theorem new_block (w : World) (o : Obj) : (w.alloc o).heap[w.heap.size]? = some o := by
  show (w.heap.push o)[w.heap.size]? = some o
  simp
theorem size_alloc (w : World) (o : Obj) : (w.alloc o).heap.size = w.heap.size + 1 := by
  show (w.heap.push o).size = _
  simp
theorem addr_add (c off j : Nat) : (⟨c, off, none⟩ : Addr).add j = ⟨c, off + j, none⟩ := by
  unfold Addr.add
  split
  · subst_vars; rfl
  · rfl
theorem swap_same {f : FuncId} {args : Array Value} {w : World} {v : Value} (h : Calls Try.prog f args w fun e w' => e = .returned v ∧ w = w') : Calls Try.prog f args w fun e w' => e = .returned v ∧ w' = w :=
  h.mono fun _ _ ⟨h1, h2⟩ => ⟨h1, h2.symm⟩

/-- a type, as the fields have it -/
inductive T where
  | mk (kind : Nat) (name : ByteArray) (num : Int) (kids : List T)
namespace T
def kind : T → Nat | .mk k _ _ _ => k
def name : T → ByteArray | .mk _ s _ _ => s
def num : T → Int | .mk _ _ n _ => n
def kids : T → List T | .mk _ _ _ l => l
end T

mutual
/-- a value is a type: its head, and its kids' row; the blocks of rows meet 'ok', and are of old memory or rows of types -/
def Is (B0 : Nat) (ok : Nat → Prop) (w : World) : T → Value → Prop
  | .mk k s n l, v => ∃ a cap, v = .agg #[.int .u8 k, .string s, .int .i64 n, .slice a l.length cap] ∧ Row B0 ok w a 0 l
/-- a row of types, from place i on -/
def Row (B0 : Nat) (ok : Nat → Prop) (w : World) (a : Option Addr) : Nat → List T → Prop
  | _, [] => True
  | i, t :: r => (∃ b off c0 c1 c2 c3, a = some ⟨b, off, none⟩ ∧ ok b ∧ (b < B0 ∨ ∃ cs z, w.heap[b]? = some (.cells cs 40 z)) ∧ w.cell? ⟨b, off + i * 4, none⟩ = some c0 ∧ w.cell? ⟨b, off + i * 4 + 1, none⟩ = some c1 ∧
      w.cell? ⟨b, off + i * 4 + 2, none⟩ = some c2 ∧ w.cell? ⟨b, off + i * 4 + 3, none⟩ = some c3 ∧ Is B0 ok w t (.agg #[c0, c1, c2, c3])) ∧ Row B0 ok w a (i + 1) r
end

/-- blocks that must stay for types to stay -/
def Stays (B0 : Nat) (ok : Nat → Prop) (w w' : World) : Prop := ∀ b, b < w.heap.size → ok b → (b < B0 ∨ ∃ cs z, w.heap[b]? = some (.cells cs 40 z)) → w'.heap[b]? = w.heap[b]?
mutual
theorem Is.keep {B0 : Nat} {ok ok' : Nat → Prop} {w w' : World} (hs : Stays B0 ok w w') (ho : ∀ b, ok b → ok' b) : ∀ (t : T) (v : Value), Is B0 ok w t v → Is B0 ok' w' t v
  | .mk k s n l, v, h => by
    simp only [Is] at h ⊢
    obtain ⟨a, cap, e, hr⟩ := h
    exact ⟨a, cap, e, Row.keep hs ho a 0 l hr⟩
theorem Row.keep {B0 : Nat} {ok ok' : Nat → Prop} {w w' : World} (hs : Stays B0 ok w w') (ho : ∀ b, ok b → ok' b) (a : Option Addr) : ∀ (i : Nat) (l : List T), Row B0 ok w a i l → Row B0 ok' w' a i l
  | _, [], _ => by simp [Row]
  | i, t :: r, h => by
    simp only [Row] at h ⊢
    obtain ⟨⟨b, off, c0, c1, c2, c3, e, hok, hb, h0, h1, h2, h3, ht⟩, hr⟩ := h
    have hlt : b < w.heap.size := World.block_lt_of_cell? w _ h0
    have hk := hs b hlt hok hb
    refine ⟨⟨b, off, c0, c1, c2, c3, e, ho b hok, ?_, (World.cell?_of_block hk).trans h0, (World.cell?_of_block hk).trans h1, (World.cell?_of_block hk).trans h2, (World.cell?_of_block hk).trans h3, Is.keep hs ho t _ ht⟩, Row.keep hs ho a (i + 1) r hr⟩
    rcases hb with hb | ⟨cs, z, hb⟩
    · exact .inl hb
    · exact .inr ⟨cs, z, hk.trans hb⟩
end
theorem Stays.of_no {B0 : Nat} {ok : Nat → Prop} {w w' : World} (h : Fr No w w') : Stays B0 ok w w' := fun b hb _ _ => h.block b hb no_one
theorem Is.no {B0 : Nat} {ok : Nat → Prop} {w w' : World} {t : T} {v : Value} (h : Is B0 ok w t v) (hf : Fr No w w') : Is B0 ok w' t v := h.keep (Stays.of_no hf) (fun _ h => h)
theorem Is.mono {B0 : Nat} {ok ok' : Nat → Prop} {w : World} {t : T} {v : Value} (h : Is B0 ok w t v) (ho : ∀ b, ok b → ok' b) : Is B0 ok' w t v := h.keep (fun _ _ _ _ => rfl) ho
theorem Row.at_ {B0 : Nat} {ok : Nat → Prop} {w : World} {a : Option Addr} : ∀ (i : Nat) (l : List T), Row B0 ok w a i l → ∀ (j : Nat) (t : T), l[j]? = some t →
    ∃ b off c0 c1 c2 c3, a = some ⟨b, off, none⟩ ∧ ok b ∧ (b < B0 ∨ ∃ cs z, w.heap[b]? = some (.cells cs 40 z)) ∧ w.cell? ⟨b, off + (i + j) * 4, none⟩ = some c0 ∧ w.cell? ⟨b, off + (i + j) * 4 + 1, none⟩ = some c1 ∧
      w.cell? ⟨b, off + (i + j) * 4 + 2, none⟩ = some c2 ∧ w.cell? ⟨b, off + (i + j) * 4 + 3, none⟩ = some c3 ∧ Is B0 ok w t (.agg #[c0, c1, c2, c3])
  | _, [], _, j, t, h => by simp at h
  | i, x :: r, h, 0, t, hj => by
    simp only [Row] at h
    simp only [List.getElem?_cons_zero, Option.some.injEq] at hj
    subst hj
    exact h.1
  | i, x :: r, h, j + 1, t, hj => by
    simp only [Row] at h
    have := Row.at_ (i + 1) r h.2 j t (by simpa using hj)
    rw [show i + (j + 1) = i + 1 + j by omega]
    exact this
end Go.Proofs.Ythjecikdkdjlaaa
