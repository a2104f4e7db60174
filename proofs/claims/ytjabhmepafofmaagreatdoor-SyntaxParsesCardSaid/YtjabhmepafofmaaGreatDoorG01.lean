/- Base, Gn, Ast, Gram -/
import Derived.Test.YtjabhmepafofmaaGreatDoorRows
import Derived.WalkKit
import Derived.WalkSpells
import Derived.WalkLawsBesides
import Derived.Lib.Hide
import Derived.Deep.AppendLies
import Derived.Laws.AppendOwn
import Derived.Laws.AppendOwnNone
set_option linter.unusedVariables false
set_option linter.unusedSimpArgs false
namespace Go.Proofs.YtjabhmepafofmaaGreatDoor
open Go.RowKit
/-- the blocks that were there, but those of S, are as they were -/
structure Fr (S : Nat → Prop) (w w' : World) : Prop where
 os : w'.os = w.os
 tape : w'.tape = w.tape
 output : w'.output = w.output
 size : w.heap.size ≤ w'.heap.size
 block : ∀ k, k < w.heap.size → ¬ S k → w'.heap[k]? = w.heap[k]?
def No (_ : Nat) : Prop := False
def Just (c : Nat) (k : Nat) : Prop := k = c
theorem no_one {x : Nat} : ¬ No x := fun h => h
theorem Fr.refl (S : Nat → Prop) (w : World) : Fr S w w := ⟨rfl, rfl, rfl, Nat.le_refl _, fun _ _ _ => rfl⟩
theorem Fr.trans {S T : Nat → Prop} {a b c : World} (h : Fr S a b) (k : Fr T b c) (hs : ∀ i, i < a.heap.size → T i → S i) : Fr S a c :=
 ⟨k.os.trans h.os, k.tape.trans h.tape, k.output.trans h.output, Nat.le_trans h.size k.size,
  fun i hi hn => (k.block i (Nat.lt_of_lt_of_le hi h.size) (fun ht => hn (hs i hi ht))).trans (h.block i hi hn)⟩
theorem Fr.then {S : Nat → Prop} {a b c : World} (h : Fr S a b) (k : Fr No b c) : Fr S a c := h.trans k fun _ _ h => h.elim
/-- blocks of the call's own are written: what was there stays -/
theorem Fr.own {a b c : World} {T : Nat → Prop} (h : Fr No a b) (k : Fr T b c) (hT : ∀ i, T i → a.heap.size ≤ i) : Fr No a c :=
 h.trans k fun i hi e => by have := hT i e; omega
theorem Fr.mono {S T : Nat → Prop} {a b : World} (h : Fr S a b) (hs : ∀ i, i < a.heap.size → S i → T i) : Fr T a b :=
 ⟨h.os, h.tape, h.output, h.size, fun i hi hn => h.block i hi fun s => hn (hs i hi s)⟩
theorem Fr.drew (w : World) : Fr No w w.drew := ⟨rfl, rfl, rfl, Nat.le_refl _, fun _ _ _ => rfl⟩
theorem Fr.drewN (w : World) (q : Nat) : Fr No w (w.drewN q) := ⟨rfl, rfl, rfl, Nat.le_refl _, fun _ _ _ => rfl⟩
theorem Fr.alloc (w : World) (o : Obj) : Fr No w (w.alloc o) := ⟨rfl, rfl, rfl, by simp, fun _ h _ => Below.heap_alloc _ _ _ h⟩
theorem Fr.setCell (w : World) (a : Addr) (v : Value) : Fr (Just a.block) w (w.setCell a v) :=
 ⟨rfl, rfl, rfl, by simp [World.setCell], fun k _ hn => Below.heap_setCell _ _ _ _ hn⟩
theorem Fr.below {S : Nat → Prop} {w w' : World} (h : Fr S w w') (B : Nat) (hB : B ≤ w.heap.size) (hs : ∀ i, S i → B ≤ i) : Below B w w' :=
 ⟨h.os, h.tape, h.output, h.size, fun k hk => h.block k (by omega) fun s => by have := hs k s; omega⟩
theorem Fr.ofBelow {w w' : World} (h : Below w.heap.size w w') : Fr No w w' := ⟨h.os, h.tape, h.output, h.size, fun k hk _ => h.block k hk⟩
theorem Fr.cell {w w' : World} (h : Fr No w w') {a : Addr} {v : Value} (hc : w.cell? a = some v) : w'.cell? a = some v :=
 (World.cell?_of_block (h.block _ (World.block_lt_of_cell? w _ hc) no_one)).trans hc
theorem lt_of_block {w : World} {b : Nat} {o : Obj} (h : w.heap[b]? = some o) : b < w.heap.size := (Array.getElem?_eq_some_iff.1 h).1
theorem Fr.keeps {S : Nat → Prop} {w w' : World} (h : Fr S w w') {b : Nat} {o : Obj} (hb : w.heap[b]? = some o) (hn : ¬ S b) : w'.heap[b]? = some o :=
 (h.block b (lt_of_block hb) hn).trans hb
theorem cell_of {w : World} {b : Nat} {arr : Array Value} {t : TypeId} {z : Nat × Nat} (h : w.heap[b]? = some (.cells arr t z)) (i : Nat) : w.cell? ⟨b, i, none⟩ = arr[i]? := by
 simp [World.cell?, h]
theorem free_of {w : World} {b : Nat} {arr : Array Value} {t : TypeId} (h : w.heap[b]? = some (.cells arr t (0, 0))) (i : Nat) : w.frozen? ⟨b, i, none⟩ = false := by
 simp [World.frozen?, h]
theorem block_setCell {w : World} {b : Nat} {arr : Array Value} {t : TypeId} {z : Nat × Nat} (h : w.heap[b]? = some (.cells arr t z)) (i : Nat) (v : Value) :
  (w.setCell ⟨b, i, none⟩ v).heap[b]? = some (.cells (arr.setIfInBounds i v) t z) := by
 simp [World.setCell, Array.getElem?_modify, h]
theorem new_block (w : World) (o : Obj) : (w.alloc o).heap[w.heap.size]? = some o := by
 show (w.heap.push o)[w.heap.size]? = some o
 simp
theorem size_alloc (w : World) (o : Obj) : (w.alloc o).heap.size = w.heap.size + 1 := by
 show (w.heap.push o).size = _
 simp
theorem addr_add (c off j : Nat) : (⟨c, off, none⟩ : Addr).add j = ⟨c, off + j, none⟩ := by
 unfold Addr.add
 split
 ·
  subst_vars; rfl
 ·
  rfl
theorem swap_same {f : FuncId} {args : Array Value} {w : World} {v : Value} (h : Calls Tryz.prog f args w fun e w' => e = .returned v ∧ w = w') : Calls Tryz.prog f args w fun e w' => e = .returned v ∧ w' = w :=
 h.mono fun _ _ ⟨h1, h2⟩ => ⟨h1, h2.symm⟩
/-- a tree of memory cells: a plain value, or a row of structs of k cells -/
inductive X where
 | lit (v : Value)
 | row (k : Nat) (l : List (List X))
mutual
/-- a value holds a tree; the blocks of rows meet 'ok' -/
def Hx (ok : Nat → Prop) (w : World) : X → Value → Prop
 | .lit u, v => v = u
 | .row k l, v => ∃ a c, v = .slice a l.length c ∧ (a = none → c = 0 ∧ l = []) ∧ (l.length ≤ c ∧ c ≤ maxLen) ∧ Hrow ok w k a 0 l
/-- a row of structs, from place i on -/
def Hrow (ok : Nat → Prop) (w : World) (k : Nat) (a : Option Addr) : Nat → List (List X) → Prop
 | _, [] => True
 | i, x :: r => (∃ g off c, a = some ⟨g, off, none⟩ ∧ ok g ∧ c.length = k ∧ (∀ (j : Nat) (u : Value), c[j]? = some u → w.cell? ⟨g, off + i * k + j, none⟩ = some u) ∧ 0 < k ∧ Hc ok w x c) ∧ Hrow ok w k a (i + 1) r
/-- a struct's cells -/
def Hc (ok : Nat → Prop) (w : World) : List X → List Value → Prop
 | [], c => c = []
 | x :: r, c => ∃ u d, c = u :: d ∧ Hx ok w x u ∧ Hc ok w r d
end
mutual
theorem Hx.keep {ok ok' : Nat → Prop} {w w' : World} (hs : ∀ b, b < w.heap.size → ok b → w'.heap[b]? = w.heap[b]? ∧ ok' b) : ∀ (x : X) (v : Value), Hx ok w x v → Hx ok' w' x v
 | .lit u, v, h => by
  simp only [Hx] at h ⊢
  exact h
 | .row k l, v, h => by
  simp only [Hx] at h ⊢
  obtain ⟨a, c, e, h1, h2, hr⟩ := h
  exact ⟨a, c, e, h1, h2, Hrow.keep hs k a 0 l hr⟩
theorem Hrow.keep {ok ok' : Nat → Prop} {w w' : World} (hs : ∀ b, b < w.heap.size → ok b → w'.heap[b]? = w.heap[b]? ∧ ok' b) (k : Nat) (a : Option Addr) : ∀ (i : Nat) (l : List (List X)), Hrow ok w k a i l → Hrow ok' w' k a i l
 | _, [], _ => by simp [Hrow]
 | i, x :: r, h => by
  simp only [Hrow] at h ⊢
  obtain ⟨⟨g, off, c, e, ho, hl, hc, hk, hx⟩, hr⟩ := h
  have hlt : g < w.heap.size := by
   cases c with
   | nil => simp at hl; omega
   | cons u d => exact World.block_lt_of_cell? w _ (hc 0 u rfl)
  obtain ⟨hk', ho'⟩ := hs g hlt ho
  exact ⟨⟨g, off, c, e, ho', hl, fun j u hu => (World.cell?_of_block hk').trans (hc j u hu), hk, Hc.keep hs x c hx⟩, Hrow.keep hs k a (i + 1) r hr⟩
theorem Hc.keep {ok ok' : Nat → Prop} {w w' : World} (hs : ∀ b, b < w.heap.size → ok b → w'.heap[b]? = w.heap[b]? ∧ ok' b) : ∀ (l : List X) (c : List Value), Hc ok w l c → Hc ok' w' l c
 | [], c, h => by
  simp only [Hc] at h ⊢
  exact h
 | x :: r, c, h => by
  simp only [Hc] at h ⊢
  obtain ⟨u, d, e, h1, h2⟩ := h
  exact ⟨u, d, e, Hx.keep hs x u h1, Hc.keep hs r d h2⟩
end
theorem Hc.no {ok : Nat → Prop} {w w' : World} {l : List X} {c : List Value} (h : Hc ok w l c) (hf : Fr No w w') : Hc ok w' l c := h.keep (fun b hb ho => ⟨hf.block b hb no_one, ho⟩)
theorem Hc.fr {ok : Nat → Prop} {S : Nat → Prop} {w w' : World} {l : List X} {c : List Value} (h : Hc ok w l c) (hf : Fr S w w') (hs : ∀ b, ok b → ¬ S b) : Hc ok w' l c := h.keep (fun b hb ho => ⟨hf.block b hb (hs b ho), ho⟩)
theorem Hc.mono {ok ok' : Nat → Prop} {w : World} {l : List X} {c : List Value} (h : Hc ok w l c) (ho : ∀ b, b < w.heap.size → ok b → ok' b) : Hc ok' w l c := h.keep (fun b hb hk => ⟨rfl, ho b hb hk⟩)
theorem Hc.len {ok : Nat → Prop} {w : World} : ∀ {l : List X} {c : List Value}, Hc ok w l c → c.length = l.length
 | [], c, h => by
  simp only [Hc] at h
  rw [h]
  rfl
 | x :: r, c, h => by
  simp only [Hc] at h
  obtain ⟨u, d, rfl, _, h2⟩ := h
  simp [Hc.len h2]
theorem Hc.append {ok : Nat → Prop} {w : World} : ∀ {l m : List X} {c d : List Value}, Hc ok w l c → Hc ok w m d → Hc ok w (l ++ m) (c ++ d)
 | [], m, c, d, h, h2 => by
  simp only [Hc] at h
  subst h
  exact h2
 | x :: r, m, c, d, h, h2 => by
  simp only [Hc] at h
  obtain ⟨u, e, rfl, h3, h4⟩ := h
  exact ⟨u, e ++ d, rfl, h3, Hc.append h4 h2⟩
theorem Hc.split {ok : Nat → Prop} {w : World} : ∀ {l m : List X} {c : List Value}, Hc ok w (l ++ m) c → ∃ d e, c = d ++ e ∧ Hc ok w l d ∧ Hc ok w m e
 | [], m, c, h => ⟨[], c, rfl, rfl, h⟩
 | x :: r, m, c, h => by
  simp only [List.cons_append, Hc] at h
  obtain ⟨u, d, rfl, h3, h4⟩ := h
  obtain ⟨d1, e, rfl, h5, h6⟩ := Hc.split h4
  exact ⟨u :: d1, e, rfl, ⟨u, d1, rfl, h3, h5⟩, h6⟩
theorem Hrow.at_ {ok : Nat → Prop} {w : World} {k : Nat} {a : Option Addr} : ∀ (i : Nat) (l : List (List X)), Hrow ok w k a i l → ∀ (j : Nat) (x : List X), l[j]? = some x →
  ∃ g off c, a = some ⟨g, off, none⟩ ∧ ok g ∧ c.length = k ∧ (∀ (m : Nat) (u : Value), c[m]? = some u → w.cell? ⟨g, off + (i + j) * k + m, none⟩ = some u) ∧ Hc ok w x c
 | _, [], _, j, x, h => by simp at h
 | i, y :: r, h, 0, x, hj => by
  simp only [Hrow] at h
  simp only [List.getElem?_cons_zero, Option.some.injEq] at hj
  subst hj
  obtain ⟨g, off, c, e, ho, hl, hc, _, hx⟩ := h.1
  exact ⟨g, off, c, e, ho, hl, hc, hx⟩
 | i, y :: r, h, j + 1, x, hj => by
  simp only [Hrow] at h
  have := Hrow.at_ (i + 1) r h.2 j x (by simpa using hj)
  rw [show i + (j + 1) = i + 1 + j by omega]
  exact this
theorem Hrow.of_at {ok : Nat → Prop} {w : World} {k : Nat} {a : Option Addr} (hk : 0 < k) : ∀ (i : Nat) (l : List (List X)), (∀ (j : Nat) (x : List X), l[j]? = some x →
  ∃ g off c, a = some ⟨g, off, none⟩ ∧ ok g ∧ c.length = k ∧ (∀ (m : Nat) (u : Value), c[m]? = some u → w.cell? ⟨g, off + (i + j) * k + m, none⟩ = some u) ∧ Hc ok w x c) → Hrow ok w k a i l
 | _, [], _ => by simp [Hrow]
 | i, y :: r, h => by
  simp only [Hrow]
  refine ⟨?_, Hrow.of_at hk (i + 1) r fun j x hj => ?_⟩
  ·
   obtain ⟨g, off, c, e, ho, hl, hc, hx⟩ := h 0 y rfl
   exact ⟨g, off, c, e, ho, hl, hc, hk, hx⟩
  ·
   have := h (j + 1) x (by simpa using hj)
   rw [show i + (j + 1) = i + 1 + j by omega] at this
   exact this
end Go.Proofs.YtjabhmepafofmaaGreatDoor
namespace Go.Proofs.YtjabhmepafofmaaGreatDoor
open Go.RowKit
/-- blocks that are not a value's own -/
def Av (v : Value) (b : Nat) : Prop := v.ownBlock ≠ some b
section
variable {α : Type}
/-- what holds of an element's cells stays where the blocks that meet 'ok' stay -/
structure Kept (R : (Nat → Prop) → World → α → List Value → Prop) : Prop where
 keep : ∀ {ok ok' : Nat → Prop} {w w' : World}, (∀ b, b < w.heap.size → ok b → w'.heap[b]? = w.heap[b]? ∧ ok' b) → ∀ (t : α) (c : List Value), R ok w t c → R ok' w' t c
/-- what is known of an element's type -/
structure ElemOk (P : Program) (e k bytes : Nat) : Prop where
 ex : ∃ i z, P.info? e = some i ∧ i.zero = some z ∧ i.size = k ∧ i.bytes = bytes ∧ z.cells.size = k
 pos : 0 < k
variable {R : (Nat → Prop) → World → α → List Value → Prop} {e k : Nat}
/-- a row of one's own: its elements' blocks meet 'ok', and are not the row's own -/
def OutG (R : (Nat → Prop) → World → α → List Value → Prop) (e k : Nat) (ok : Nat → Prop) (B : Nat) (w : World) (v : Value) (n : Nat) (l : List α) : Prop :=
 l.length = n ∧ ∃ cs : List (List Value), cs.length = n ∧ (∀ c ∈ cs, c.length = k) ∧ w.ownsRow B e k v n cs.flatten ∧ ∀ (j : Nat) (t : α) (c : List Value), l[j]? = some t → cs[j]? = some c → R (fun b => ok b ∧ Av v b) w t c
theorem OutG.nil (ok : Nat → Prop) (B : Nat) (w : World) : OutG R e k ok B w (.slice none 0 0) 0 [] := ⟨rfl, [], rfl, fun c h => by simp at h, ⟨by simp, .inl ⟨rfl, rfl⟩⟩, fun j t c h => by simp at h⟩
theorem OutG.slice {ok : Nat → Prop} {B : Nat} {w : World} {v : Value} {n : Nat} {l : List α} (h : OutG R e k ok B w v n l) : ∃ a c, v = .slice a n c := by
 obtain ⟨_, cs, _, _, hown, _⟩ := h
 rcases hown.2 with ⟨h1, h2⟩ | ⟨g, cap, cur, h1, _⟩
 ·
  exact ⟨none, 0, by rw [h1, h2]⟩
 ·
  exact ⟨_, _, h1⟩
theorem owns_block {w : World} {B e k n : Nat} {v : Value} {xs : List Value} (h : w.ownsRow B e k v n xs) {b : Nat} (hb : v.ownBlock = some b) : B ≤ b ∧ b < w.heap.size := by
 rcases h.2 with ⟨h1, _⟩ | ⟨g, cap, cur, h1, h2, h3, _⟩
 ·
  rw [h1] at hb
  simp [Value.ownBlock] at hb
 ·
  rw [h1] at hb
  have e : g = b := by simpa [Value.ownBlock] using hb
  subst e
  exact ⟨h2, lt_of_block h3⟩
theorem owns_keep {w w' : World} {S : Nat → Prop} {B e k n : Nat} {v : Value} {xs : List Value} (h : w.ownsRow B e k v n xs) (hf : Fr S w w') (hv : ∀ b, v.ownBlock = some b → ¬ S b) : w'.ownsRow B e k v n xs := by
 refine ⟨h.1, ?_⟩
 rcases h.2 with h2 | ⟨g, cap, cur, h1, h2, h3, h4⟩
 ·
  exact .inl h2
 ·
  exact .inr ⟨g, cap, cur, h1, h2, hf.keeps h3 (hv g (by rw [h1]; rfl)), h4⟩
theorem OutG.block {ok : Nat → Prop} {B : Nat} {w : World} {v : Value} {n : Nat} {l : List α} (h : OutG R e k ok B w v n l) {b : Nat} (hb : v.ownBlock = some b) : B ≤ b ∧ b < w.heap.size := by
 obtain ⟨_, cs, _, _, hown, _⟩ := h
 exact owns_block hown hb
theorem OutG.keep (hR : Kept R) {ok : Nat → Prop} {B : Nat} {S : Nat → Prop} {w w' : World} {v : Value} {n : Nat} {l : List α} (h : OutG R e k ok B w v n l) (hf : Fr S w w') (ho : ∀ b, ok b → ¬ S b) (hv : ∀ b, v.ownBlock = some b → ¬ S b) : OutG R e k ok B w' v n l := by
 obtain ⟨h1, cs, h2, h3, hown, h4⟩ := h
 exact ⟨h1, cs, h2, h3, owns_keep hown hf hv, fun j t c hj hc => hR.keep (fun b hb hk => ⟨hf.block b hb (ho b hk.1), hk⟩) t c (h4 j t c hj hc)⟩
theorem OutG.no (hR : Kept R) {ok : Nat → Prop} {B : Nat} {w w' : World} {v : Value} {n : Nat} {l : List α} (h : OutG R e k ok B w v n l) (hf : Fr No w w') : OutG R e k ok B w' v n l := h.keep hR hf (fun _ _ => no_one) (fun _ _ => no_one)
theorem flatten_len {k : Nat} : ∀ (cs : List (List Value)), (∀ c ∈ cs, c.length = k) → cs.flatten.length = cs.length * k
 | [], _ => by simp
 | c :: cs, h => by
  rw [List.flatten_cons, List.length_append, flatten_len cs (fun x hx => h x (List.mem_cons_of_mem _ hx)), h c (List.mem_cons_self ..), List.length_cons, Nat.add_mul]
  omega
theorem flatten_at {k : Nat} : ∀ (cs : List (List Value)) (j i : Nat) (c : List Value), (∀ c ∈ cs, c.length = k) → cs[j]? = some c → i < k → cs.flatten[j * k + i]? = c[i]?
 | [], j, i, c, _, h, _ => by simp at h
 | x :: cs, 0, i, c, h, hc, hi => by
  simp only [List.getElem?_cons_zero, Option.some.injEq] at hc
  subst hc
  rw [List.flatten_cons, Nat.zero_mul, Nat.zero_add, List.getElem?_append_left (by rw [h x (List.mem_cons_self ..)]; exact hi)]
 | x :: cs, j + 1, i, c, h, hc, hi => by
  have hx := h x (List.mem_cons_self ..)
  rw [List.flatten_cons, List.getElem?_append_right (by rw [hx, Nat.add_mul]; omega), hx, ← flatten_at cs j i c (fun y hy => h y (List.mem_cons_of_mem _ hy)) (by simpa using hc) hi]
  congr 1
  rw [Nat.add_mul]
  omega
/-- an element of the row, as it lies -/
theorem OutG.at_ {ok : Nat → Prop} {B : Nat} {w : World} {a : Option Addr} {n cap : Nat} {l : List α} (h : OutG R e k ok B w (.slice a n cap) n l) {j : Nat} {t : α} (hj : l[j]? = some t) :
  ∃ g c, a = some ⟨g, 0, none⟩ ∧ B ≤ g ∧ c.length = k ∧ (∀ (i : Nat) (u : Value), c[i]? = some u → w.cell? ⟨g, j * k + i, none⟩ = some u) ∧ R (fun b => ok b ∧ b ≠ g) w t c ∧ ∃ cur z, w.heap[g]? = some (.cells cur e z) := by
 obtain ⟨h1, cs, h2, h3, hown, h4⟩ := h
 have hjn := (List.getElem?_eq_some_iff.1 hj).1
 rcases hown.2 with ⟨h5, h6⟩ | ⟨g, cap', cur, h5, h6, h7, h8, h9, h10, h11⟩
 ·
  omega
 ·
  cases h5
  have hc : cs[j]? = some (cs[j]'(by omega)) := List.getElem?_eq_getElem (by omega)
  have hm := h3 _ (List.mem_of_getElem? hc)
  refine ⟨g, cs[j]'(by omega), rfl, h6, hm, fun i u hu => ?_, ?_, cur, (0, 0), h7⟩
  ·
   have hi : i < k := by rw [← hm]; exact (List.getElem?_eq_some_iff.1 hu).1
   have h12 := flatten_at cs j i _ h3 hc hi
   have hlt : j * k + i < n * k := by
    have := Nat.mul_le_mul_right k (show j + 1 ≤ n by omega)
    rw [Nat.add_mul] at this
    omega
   rw [hu, ← h11, List.getElem?_take_of_lt hlt] at h12
   rw [cell_of h7, ← h12]
   simp
  ·
   have := h4 j t _ hj hc
   simpa [Av, Value.ownBlock, eq_comm] using this
/-- what a growing row leaves to others -/
structure Grows (B : Nat) (w w' : World) (v v' : Value) : Prop where
 fr : Fr (fun b => B ≤ b) w w'
 av : ∀ b, b < w.heap.size → Av v b → w'.heap[b]? = w.heap[b]? ∧ Av v' b
 own : ∀ b, v'.ownBlock = some b → v.ownBlock = some b ∨ b = w.heap.size
theorem grows_of {w w' : World} {B n g cap m : Nat} {v : Value} {xs : List Value} (hown : w.ownsRow B e k v n xs) (hB : B ≤ w.heap.size) (hg : w.grownBy w' v.ownBlock) (hat : v.ownBlock = some g ∨ g = w.heap.size) : Grows B w w' v (.slice (some ⟨g, 0, none⟩) m cap) := by
 refine ⟨⟨hg.os, hg.tape, hg.output, hg.size, fun b hb hn => hg.block b hb fun e => ?_⟩, fun b hb ha => ⟨hg.block b hb fun e => ha e.symm, fun e => ?_⟩, fun b hb => ?_⟩
 ·
  exact hn (owns_block hown e.symm).1
 ·
  have e : g = b := by simpa [Value.ownBlock] using e
  subst e
  rcases hat with hat | hat
  ·
   exact ha hat
  ·
   omega
 ·
  have e : g = b := by simpa [Value.ownBlock] using hb
  subst e
  exact hat
theorem OutG.push (hR : Kept R) {ok : Nat → Prop} {B : Nat} {w w' : World} {v : Value} {n : Nat} {l : List α} (h1 : l.length = n) {cs : List (List Value)} (h2 : cs.length = n) (h3 : ∀ c ∈ cs, c.length = k) (h4 : ∀ (j : Nat) (t : α) (c : List Value), l[j]? = some t → cs[j]? = some c → R (fun b => ok b ∧ Av v b) w t c)
  {t : α} {c : List Value} (hc : c.length = k) (ht : R (fun b => ok b ∧ Av v b) w t c) {v' : Value} (hown : w'.ownsRow B e k v' (n + 1) (cs.flatten ++ c)) (hg : Grows B w w' v v') : OutG R e k ok B w' v' (n + 1) (l ++ [t]) := by
 refine ⟨by simp [h1], cs ++ [c], by simp [h2], fun x hx => ?_, by rw [List.flatten_append, List.flatten_singleton]; exact hown, fun j t' c' hj hc' => hR.keep (ok := fun b => ok b ∧ Av v b) (w := w) (fun b hb hk => ⟨(hg.av b hb hk.2).1, hk.1, (hg.av b hb hk.2).2⟩) t' c' ?_⟩
 ·
  rcases List.mem_append.1 hx with hx | hx
  ·
   exact h3 x hx
  ·
   rw [List.mem_singleton.1 hx]
   exact hc
 ·
  rcases Nat.lt_or_ge j n with hlt | hge
  ·
   rw [List.getElem?_append_left (by omega)] at hj hc'
   exact h4 j t' c' hj hc'
  ·
   rw [List.getElem?_append_right (by omega)] at hj hc'
   have hj0 : j - l.length = 0 := by
    have := (List.getElem?_eq_some_iff.1 hj).1
    simp at this
    omega
   rw [hj0] at hj
   rw [show j - cs.length = 0 by omega] at hc'
   simp only [List.getElem?_cons_zero, Option.some.injEq] at hj hc'
   subst hj hc'
   exact ht
variable {P : Program}
/-- one element more: out = append(out, x) -/
theorem wpList_push (hR : Kept R) {bytes : Nat} (he : ElemOk P e k bytes) {w : World} {ops : Array Oper} {rest : List Oper} {o : Oper} {a : Act} {Q : Exit → Act → World → Prop} (hgd : o.guard = none) (s x : Operand) (t : TypeId)
  (ho : o.op = .call { callee := .builtin .append, args := #[s, x], argTypes := #[t, t] }) (ht : P.underlying t = some (.slice e)) (ok : Nat → Prop) (B : Nat) (v : Value) (n : Nat) (l : List α) (hs : a.eval s = v) (hv : OutG R e k ok B w v n l)
  (gb : Nat) (c : List Value) (e0 : TypeId) (hx : a.eval x = .slice (some ⟨gb, 0, none⟩) 1 1) (hb : w.heap[gb]? = some (.cells c.toArray e0 (0, 0))) (h1 : ∀ u ∈ c, u.oneCell' = true) (hc : c.length = k) (y : α) (hy : R (fun b => ok b ∧ Av v b) w y c)
  (hn : n + 1 ≤ maxLen) (hbytes : (n + 1) * bytes ≤ 140737488355328) (hB : B ≤ w.heap.size)
  (h : ∀ a' c' w', Hid (OutG R e k ok B w' (.slice a' (n + 1) c') (n + 1) (l ++ [y])) → Hid (Grows B w w' v (.slice a' (n + 1) c')) → wpList P ops Q rest (a.put o.dst (.slice a' (n + 1) c')) w') : wpList P ops Q (o :: rest) a w := by
 obtain ⟨⟨i, z, hi, hz, z1, z2, z3⟩, hk⟩ := he
 obtain ⟨g1, cs, g2, g3, hown, g4⟩ := hv
 refine wpList_append_lies w hgd s x t ho B e i z k bytes ht hi hz z1 z2 z3 hk v n cs.flatten hs hown ⟨gb, 0, none⟩ 1 1 c hx (by omega) (World.news_of_block hb) h1 (by decide) hn hbytes hB _ rfl ?_
 intro g cap w' hown' hg hat _
 have hG := grows_of (m := n + 1) (cap := cap) hown hB hg hat
 exact h _ _ w' (Lib.hid (OutG.push hR g1 g2 g3 g4 hc hy hown' hG)) (Lib.hid hG)
/-- the same at a step of a region that draws its order -/
theorem step_push (hR : Kept R) {bytes : Nat} (he : ElemOk P e k bytes) {w : World} {ops : Array Oper} {o : Oper} {a : Act} {K : Act → World → Prop} {Q : Exit → Act → World → Prop} {E : Prop} (hgd : o.guard = none) (s x : Operand) (t : TypeId)
  (ho : o.op = .call { callee := .builtin .append, args := #[s, x], argTypes := #[t, t] }) (ht : P.underlying t = some (.slice e)) (ok : Nat → Prop) (B : Nat) (v : Value) (n : Nat) (l : List α) (hs : a.eval s = v) (hv : OutG R e k ok B w v n l)
  (gb : Nat) (c : List Value) (e0 : TypeId) (hx : a.eval x = .slice (some ⟨gb, 0, none⟩) 1 1) (hb : w.heap[gb]? = some (.cells c.toArray e0 (0, 0))) (h1 : ∀ u ∈ c, u.oneCell' = true) (hc : c.length = k) (y : α) (hy : R (fun b => ok b ∧ Av v b) w y c)
  (hn : n + 1 ≤ maxLen) (hbytes : (n + 1) * bytes ≤ 140737488355328) (hB : B ≤ w.heap.size)
  (h : ∀ a' c' w', Hid (OutG R e k ok B w' (.slice a' (n + 1) c') (n + 1) (l ++ [y])) → Hid (Grows B w w' v (.slice a' (n + 1) c')) → K (a.put o.dst (.slice a' (n + 1) c')) w') :
  if Region.wanted o (yielded ops a.tmps) = true then Oper.wp P o a w K Q else E := by
 obtain ⟨⟨i, z, hi, hz, z1, z2, z3⟩, hk⟩ := he
 obtain ⟨g1, cs, g2, g3, hown, g4⟩ := hv
 refine step_append_lies w hgd s x t ho B e i z k bytes ht hi hz z1 z2 z3 hk v n cs.flatten hs hown ⟨gb, 0, none⟩ 1 1 c hx (by omega) (World.news_of_block hb) h1 (by decide) hn hbytes hB _ rfl ?_
 intro g cap w' hown' hg hat _
 have hG := grows_of (m := n + 1) (cap := cap) hown hB hg hat
 exact h _ _ w' (Lib.hid (OutG.push hR g1 g2 g3 g4 hc hy hown' hG)) (Lib.hid hG)
/-- somebody's row copied into one's own: out = append(nil, l...) -/
theorem wpList_copied (hR : Kept R) {bytes : Nat} (he : ElemOk P e k bytes) {w : World} {ops : Array Oper} {rest : List Oper} {o : Oper} {a : Act} {Q : Exit → Act → World → Prop} (hgd : o.guard = none) (s x : Operand) (t : TypeId)
  (ho : o.op = .call { callee := .builtin .append, args := #[s, x], argTypes := #[t, t] }) (ht : P.underlying t = some (.slice e)) (ok : Nat → Prop) (hs : a.eval s = .slice none 0 0)
  (ao : Option Addr) (n c : Nat) (l : List α) (hx : a.eval x = .slice ao n c) (hl : l.length = n) (hnone : ao = none → c = 0 ∧ l = []) (cs : List (List Value)) (hcs : cs.length = n) (hk : ∀ x ∈ cs, x.length = k)
  (hcell : ∀ ad, ao = some ad → ∀ j u, cs.flatten[j]? = some u → w.cell? (ad.add j) = some u) (h1 : ∀ u ∈ cs.flatten, u.oneCell' = true) (hy : ∀ (j : Nat) (t : α) (c : List Value), l[j]? = some t → cs[j]? = some c → R ok w t c)
  (hn : n ≤ maxLen) (hbytes : n * bytes ≤ 140737488355328)
  (h : ∀ a' c' w', Hid (OutG R e k ok w.heap.size w' (.slice a' n c') n l) → Hid (Fr No w w') → wpList P ops Q rest (a.put o.dst (.slice a' n c')) w') : wpList P ops Q (o :: rest) a w := by
 obtain ⟨⟨i, z, hi, hz, z1, z2, z3⟩, hk0⟩ := he
 have hown0 : w.ownsRow w.heap.size e k (.slice none 0 0) 0 [] := ⟨by simp, .inl ⟨rfl, rfl⟩⟩
 cases ao with
 | none =>
  obtain ⟨rfl, rfl⟩ := hnone rfl
  subst hl
  refine wpList_append_own_none hgd s x t ho w.heap.size e i k ht hi (.slice none 0 0) 0 [] hs hown0 hx ?_
  exact h _ _ _ (Lib.hid (OutG.nil _ _ _)) (Lib.hid (Fr.refl _ _))
 | some ad =>
  refine wpList_append_own w hgd s x t ho w.heap.size e i z k bytes ht hi hz z1 z2 z3 hk0 (.slice none 0 0) 0 [] hs hown0 ad n c cs.flatten hx (by rw [flatten_len cs hk, hcs]) (hcell ad rfl) h1 (by omega) (by simpa using hbytes) (Nat.le_refl _) ?_
  intro v' w' hown' hg _
  rw [Nat.zero_add, List.nil_append] at hown'
  have hf : Fr No w w' := ⟨hg.os, hg.tape, hg.output, hg.size, fun b hb _ => hg.block b hb (by simp [Value.ownBlock])⟩
  have ho : OutG R e k ok w.heap.size w' v' n l := ⟨hl, cs, hcs, hk, hown', fun j t c hj hc => hR.keep (fun b hb hok => ⟨hf.block b hb no_one, hok, fun e => by
   have := (owns_block hown' e).1
   omega⟩) t c (hy j t c hj hc)⟩
  obtain ⟨a', c', hv'⟩ := ho.slice
  subst hv'
  exact h _ _ _ (Lib.hid ho) (Lib.hid hf)
end
end Go.Proofs.YtjabhmepafofmaaGreatDoor
namespace Go.Proofs.YtjabhmepafofmaaGreatDoor
open Go.RowKit
structure Tok where
 kind : Nat
 text : ByteArray
 num : Int
 pos : Int
def zTok : Tok := ⟨0, ⟨#[]⟩, 0, 0⟩
/-- a type, or a pattern -/
inductive T where
 | mk (kind : Nat) (name : ByteArray) (num : Int) (kids : List T)
structure C where
 name : ByteArray
 has : Bool
 ty : T
mutual
inductive E where
 | mk (kind : Nat) (name : ByteArray) (num : Int) (text : ByteArray) (kids : List E) (rules : List R) (decs : List D)
inductive R where
 | mk (pat : T) (exp : E)
inductive F where
 | mk (name : ByteArray) (args : List ByteArray) (exp : E)
inductive D where
 | mk (kind : Nat) (name : ByteArray) (vars : List ByteArray) (cons : List C) (funs : List F) (ty : T) (exp : E)
end
def nob : ByteArray := ⟨#[]⟩
def zT : T := .mk 0 nob 0 []
def zE : E := .mk 0 nob 0 nob [] [] []
def xb (s : ByteArray) : X := .lit (.string s)
def xk (k : Nat) : X := .lit (.int .u8 k)
def xi (n : Int) : X := .lit (.int .i64 n)
mutual
def xT : T → List X
 | .mk k s n l => [xk k, xb s, xi n, .row 4 (xTs l)]
def xTs : List T → List (List X)
 | [] => []
 | t :: r => xT t :: xTs r
end
def xC (c : C) : List X := [xb c.name, .lit (.bool c.has)] ++ xT c.ty
mutual
def xE : E → List X
 | .mk k s n t l r d => [xk k, xb s, xi n, xb t, .row 7 (xEs l), .row 11 (xRs r), .row 16 (xDs d)]
def xEs : List E → List (List X)
 | [] => []
 | e :: r => xE e :: xEs r
def xR : R → List X
 | .mk p e => xT p ++ xE e
def xRs : List R → List (List X)
 | [] => []
 | e :: r => xR e :: xRs r
def xF : F → List X
 | .mk s a e => [xb s, .row 1 (a.map fun s => [xb s])] ++ xE e
def xFs : List F → List (List X)
 | [] => []
 | e :: r => xF e :: xFs r
def xD : D → List X
 | .mk k s v c f t e => [xk k, xb s, .row 1 (v.map fun s => [xb s]), .row 6 (c.map xC), .row 9 (xFs f)] ++ (xT t ++ xE e)
def xDs : List D → List (List X)
 | [] => []
 | e :: r => xD e :: xDs r
end
theorem xTs_map : ∀ l : List T, xTs l = l.map xT
 | [] => rfl
 | t :: r => by simp [xTs, xTs_map r]
theorem xEs_map : ∀ l : List E, xEs l = l.map xE
 | [] => rfl
 | t :: r => by simp [xEs, xEs_map r]
theorem xRs_map : ∀ l : List R, xRs l = l.map xR
 | [] => rfl
 | t :: r => by simp [xRs, xRs_map r]
theorem xFs_map : ∀ l : List F, xFs l = l.map xF
 | [] => rfl
 | t :: r => by simp [xFs, xFs_map r]
theorem xDs_map : ∀ l : List D, xDs l = l.map xD
 | [] => rfl
 | t :: r => by simp [xDs, xDs_map r]
theorem xT_len : ∀ t : T, (xT t).length = 4
 | .mk _ _ _ _ => rfl
theorem xE_len : ∀ e : E, (xE e).length = 7
 | .mk _ _ _ _ _ _ _ => rfl
theorem xC_len (c : C) : (xC c).length = 6 := by simp [xC, xT_len]
theorem xR_len : ∀ r : R, (xR r).length = 11
 | .mk p e => by simp [xR, xT_len, xE_len]
theorem xF_len : ∀ r : F, (xF r).length = 9
 | .mk s a e => by simp [xF, xE_len]
theorem xD_len : ∀ d : D, (xD d).length = 16
 | .mk _ _ _ _ _ _ _ => by simp [xD, xT_len, xE_len]
/-- a parser: what it looks at, and what it takes -/
inductive Pr (α : Type) where
 | ret (a : α)
 | fail
 | out
 | look (k : Tok → Pr α)
 | adv (k : Pr α)
/-- what a parser comes to: something, and the next place; a token in the way; it went on too long -/
inductive Re (α : Type) where
 | ok (a : α) (at_ : Nat)
 | fail (at_ : Nat)
 | out
namespace Pr
def bind {α β : Type} : Pr α → (α → Pr β) → Pr β
 | ret a, k => k a
 | fail, _ => fail
 | out, _ => out
 | look f, k => look fun t => bind (f t) k
 | adv m, k => adv (bind m k)
def run (l : List Tok) {α : Type} : Pr α → Nat → Re α
 | ret a, p => .ok a p
 | fail, p => .fail p
 | out, _ => .out
 | look f, p => run l (f (l.getD p zTok)) p
 | adv m, p => run l m (p + 1)
end Pr
def Re.andThen {α β : Type} : Re α → (α → Nat → Re β) → Re β
 | .ok a p, k => k a p
 | .fail p, _ => .fail p
 | .out, _ => .out
theorem run_bind (l : List Tok) {α β : Type} : ∀ (m : Pr α) (k : α → Pr β) (p : Nat), (m.bind k).run l p = (m.run l p).andThen fun a q => (k a).run l q
 | .ret a, k, p => rfl
 | .fail, k, p => rfl
 | .out, k, p => rfl
 | .look f, k, p => run_bind l (f (l.getD p zTok)) k p
 | .adv m, k, p => run_bind l m k (p + 1)
/-! the parser's words -/
def letterB (s : ByteArray) : Bool := if h : 0 < s.size then decide (97 ≤ (s[0]'h).toNat) && decide ((s[0]'h).toNat ≤ 122) else false
def isWordB (t : Tok) : Bool := letterB t.text == decide (t.kind = 6)
def seesB (t : Tok) (texts : List ByteArray) : Bool := (decide (t.kind = 6) || decide (t.kind = 7)) && isWordB t && texts.any fun s => decide (s = t.text)
def skip (texts : List ByteArray) : Pr Bool := .look fun t => if seesB t texts then .adv (.ret true) else .ret false
def must (text : ByteArray) : Pr Unit := .look fun t => if seesB t [text] then .adv (.ret ()) else .fail
def take (kind : Nat) : Pr ByteArray := .look fun t => if t.kind = kind then .adv (.ret t.text) else .fail
/-- more of them, with a sign between each two -/
def more (between : ByteArray) {α : Type} (one : Pr α) : Nat → List α → Pr (List α)
 | 0, _ => .out
 | n + 1, l => (skip [between]).bind fun b => if b then one.bind fun x => more between one n (l ++ [x]) else .ret l
def some_ (n : Nat) (between : ByteArray) {α : Type} (one : Pr α) : Pr (List α) := one.bind fun x => more between one n [x]
end Go.Proofs.YtjabhmepafofmaaGreatDoor
namespace Go.Proofs.YtjabhmepafofmaaGreatDoor
open Go.RowKit
structure Gr where
 ty : Pr T
 row : Pr T
 post : Pr T
 tyAtom : Pr T
 exp : Pr E
 rule : Pr R
 level : Nat → Pr E
 calls : Pr E
 prefix_ : Pr E
 atom : Pr E
 round : Pr E
 let_ : Pr E
 pat : Pr T
 patAtom : Pr T
 patRound : Pr T
 dec : Bool → Pr D
 con : Pr C
 fun_ : Pr F
 vars : Pr (List ByteArray)
def Gr.zero : Gr := ⟨.out, .out, .out, .out, .out, .out, fun _ => .out, .out, .out, .out, .out, .out, .out, .out, .out, fun _ => .out, .out, .out, .out⟩
def next : Pr Tok := .look .ret
namespace Gr
variable (n : Nat) (g : Gr)
def pTy : Pr T := g.row.bind fun t => (skip [⟨#[45, 62]⟩]).bind fun b => if b then g.ty.bind fun u => .ret (.mk 3 nob 0 [t, u]) else .ret t
def pRow : Pr T := (some_ n ⟨#[42]⟩ g.post).bind fun l => match l with
 | [t] => .ret t
 | l => .ret (.mk 4 nob 0 l)
/-- names behind a type -/
def names : Nat → T → Pr T
 | 0, _ => .out
 | n + 1, t => next.bind fun k => if k.kind = 1 then (take 1).bind fun s => names n (.mk 2 s 0 [t]) else .ret t
def pPost : Pr T := g.tyAtom.bind (names n)
def pTyAtom : Pr T := next.bind fun k => if k.kind = 3 then (take 3).bind fun s => .ret (.mk 1 s 0 [])
 else if k.kind = 1 then (take 1).bind fun s => .ret (.mk 2 s 0 [])
 else (must ⟨#[40]⟩).bind fun _ => (some_ n ⟨#[44]⟩ g.ty).bind fun l => (must ⟨#[41]⟩).bind fun _ => match l with
  | [t] => .ret t
  | l => (take 1).bind fun s => .ret (.mk 2 s 0 l)
def pRule : Pr R := g.pat.bind fun x => (must ⟨#[61, 62]⟩).bind fun _ => g.exp.bind fun e => .ret (.mk x e)
def mkE (k : Nat) (s : ByteArray) (l : List E) : E := .mk k s 0 nob l [] []
def pExp : Pr E := (skip [⟨#[102, 110]⟩]).bind fun b => if b then (take 1).bind fun s => (must ⟨#[61, 62]⟩).bind fun _ => g.exp.bind fun e => .ret (mkE 7 s [e])
 else (skip [⟨#[99, 97, 115, 101]⟩]).bind fun b => if b then g.exp.bind fun e => (must ⟨#[111, 102]⟩).bind fun _ => (some_ n ⟨#[124]⟩ g.rule).bind fun r => .ret (.mk 11 nob 0 nob [e] r [])
 else (skip [⟨#[105, 102]⟩]).bind fun b => if b then g.exp.bind fun e => (must ⟨#[116, 104, 101, 110]⟩).bind fun _ => g.exp.bind fun e2 => (must ⟨#[101, 108, 115, 101]⟩).bind fun _ => g.exp.bind fun e3 => .ret (mkE 9 nob [e, e2, e3])
 else (skip [⟨#[114, 97, 105, 115, 101]⟩]).bind fun b => if b then g.exp.bind fun e => .ret (mkE 13 nob [e])
 else (g.level 0).bind fun e => (skip [⟨#[104, 97, 110, 100, 108, 101]⟩]).bind fun b => if b then (some_ n ⟨#[124]⟩ g.rule).bind fun r => .ret (.mk 12 nob 0 nob [e] r []) else .ret e
/-- how the operators of a level stand in rows (0 never, 1 right, 2 left), and which they are -/
def rows : Nat → Nat
 | 2 => 1
 | 3 => 2
 | 4 => 2
 | _ => 0
def ops : Nat → List ByteArray
 | 0 => [⟨#[58, 61]⟩]
 | 1 => [⟨#[60]⟩, ⟨#[60, 61]⟩, ⟨#[62]⟩, ⟨#[62, 61]⟩, ⟨#[61]⟩, ⟨#[60, 62]⟩]
 | 2 => [⟨#[94]⟩]
 | 3 => [⟨#[43]⟩, ⟨#[45]⟩]
 | 4 => [⟨#[42]⟩, ⟨#[100, 105, 118]⟩, ⟨#[109, 111, 100]⟩]
 | _ => []
/-- more operators of a level -/
def opsL (lv : Nat) : Nat → E → Pr E
 | 0, _ => .out
 | m + 1, e => next.bind fun k => if seesB k (ops lv) then .adv ((g.level (if rows lv = 1 then lv else lv + 1)).bind fun e2 => if rows lv = 2 then opsL lv m (mkE 15 k.text [e, e2]) else .ret (mkE 15 k.text [e, e2])) else .ret e
def pLevel (lv : Nat) : Pr E := if lv = 5 then g.calls else (g.level (lv + 1)).bind fun e => g.opsL lv n e
def startsB (k : Tok) : Bool := decide (k.kind = 1) || decide (k.kind = 2) || decide (k.kind = 4) || decide (k.kind = 5) || seesB k [⟨#[116, 114, 117, 101]⟩, ⟨#[102, 97, 108, 115, 101]⟩, ⟨#[108, 101, 116]⟩, ⟨#[40]⟩, ⟨#[33]⟩, ⟨#[126]⟩]
def callsL : Nat → E → Pr E
 | 0, _ => .out
 | m + 1, e => next.bind fun k => if startsB k then g.prefix_.bind fun e2 => callsL m (mkE 8 nob [e, e2]) else .ret e
def pCalls : Pr E := g.prefix_.bind fun e => g.callsL n e
def pPrefix : Pr E := next.bind fun k => (skip [⟨#[33]⟩, ⟨#[126]⟩]).bind fun b => if b then g.prefix_.bind fun e => .ret (mkE 15 k.text [e]) else g.atom
def pAtom : Pr E := next.bind fun k => if k.kind = 1 then .adv (.ret (mkE 1 k.text []))
 else if k.kind = 2 ∨ seesB k [⟨#[116, 114, 117, 101]⟩, ⟨#[102, 97, 108, 115, 101]⟩] = true then .adv (.ret (mkE 2 k.text []))
 else if k.kind = 4 then .adv (.ret (.mk 3 nob k.num nob [] [] []))
 else if k.kind = 5 then .adv (.ret (.mk 4 nob 0 k.text [] [] []))
 else (skip [⟨#[108, 101, 116]⟩]).bind fun b => if b then g.let_ else (must ⟨#[40]⟩).bind fun _ => g.round
def seqE : List E → E → E
 | [], e => e
 | x :: r, e => mkE 14 nob [x, seqE r e]
/-- one behind the other: the last one is what it comes to -/
def seqs (l : List E) : E := seqE l.dropLast (l.getLastD zE)
def pRound : Pr E := (skip [⟨#[41]⟩]).bind fun b => if b then .ret (mkE 5 nob [])
 else g.exp.bind fun e => (skip [⟨#[44]⟩]).bind fun b => if b then (some_ n ⟨#[44]⟩ g.exp).bind fun l => (must ⟨#[41]⟩).bind fun _ => .ret (mkE 6 nob (e :: l))
 else (skip [⟨#[59]⟩]).bind fun b => if b then (some_ n ⟨#[59]⟩ g.exp).bind fun l => (must ⟨#[41]⟩).bind fun _ => .ret (seqs (e :: l))
 else (must ⟨#[41]⟩).bind fun _ => .ret (seqs [e])
def decsL : Nat → List D → Pr (List D)
 | 0, _ => .out
 | m + 1, l => (g.dec false).bind fun d => (must ⟨#[59]⟩).bind fun _ => (skip [⟨#[105, 110]⟩]).bind fun b => if b then .ret (l ++ [d]) else decsL m (l ++ [d])
def pLet : Pr E := (g.decsL n []).bind fun d => g.exp.bind fun e => (must ⟨#[101, 110, 100]⟩).bind fun _ => .ret (.mk 10 nob 0 nob [e] [] d)
def patB (k : Tok) : Bool := decide (k.kind = 1) || decide (k.kind = 4) || decide (k.kind = 2) || seesB k [⟨#[95]⟩, ⟨#[126]⟩, ⟨#[40]⟩, ⟨#[116, 114, 117, 101]⟩, ⟨#[102, 97, 108, 115, 101]⟩]
def pPat : Pr T := next.bind fun k => if k.kind = 2 then (take 2).bind fun s => next.bind fun k2 => if patB k2 then g.patAtom.bind fun x => .ret (.mk 6 s 0 [x]) else .ret (.mk 6 s 0 []) else g.patAtom
def pPatAtom : Pr T := next.bind fun k => if seesB k [⟨#[95]⟩] then .adv (.ret (.mk 1 nob 0 []))
 else if k.kind = 1 then .adv (.ret (.mk 2 k.text 0 []))
 else if k.kind = 4 then .adv (.ret (.mk 3 nob k.num []))
 else if k.kind = 2 ∨ seesB k [⟨#[116, 114, 117, 101]⟩, ⟨#[102, 97, 108, 115, 101]⟩] = true then .adv (.ret (.mk 6 k.text 0 []))
 else (skip [⟨#[126]⟩]).bind fun b => if b then next.bind fun k2 => (take 4).bind fun _ => .ret (.mk 3 nob (IntKind.i64.wrap (-k2.num)) []) else (must ⟨#[40]⟩).bind fun _ => g.patRound
def pPatRound : Pr T := (skip [⟨#[41]⟩]).bind fun b => if b then .ret (.mk 4 nob 0 []) else (some_ n ⟨#[44]⟩ g.pat).bind fun l => (must ⟨#[41]⟩).bind fun _ => match l with
 | [t] => .ret t
 | l => .ret (.mk 5 nob 0 l)
def pCon : Pr C := (take 2).bind fun s => (skip [⟨#[111, 102]⟩]).bind fun b => if b then g.ty.bind fun t => .ret ⟨s, true, t⟩ else .ret ⟨s, false, zT⟩
def argsL : Nat → List ByteArray → Pr (List ByteArray)
 | 0, _ => .out
 | m + 1, l => next.bind fun k => if k.kind = 1 then (take 1).bind fun s => argsL m (l ++ [s]) else .ret l
def pFun : Pr F := (take 1).bind fun s => (take 1).bind fun a => (argsL n [a]).bind fun l => (must ⟨#[61]⟩).bind fun _ => g.exp.bind fun e => .ret (.mk s l e)
def pVars : Pr (List ByteArray) := (skip [⟨#[40]⟩]).bind fun b => if b then (some_ n ⟨#[44]⟩ (take 3)).bind fun l => (must ⟨#[41]⟩).bind fun _ => .ret l
 else next.bind fun k => if k.kind = 3 then (take 3).bind fun s => .ret [s] else .ret []
def pDec (whole : Bool) : Pr D := (skip [⟨#[118, 97, 108]⟩]).bind fun b => if b then (take 1).bind fun s => (must ⟨#[61]⟩).bind fun _ => g.exp.bind fun e => .ret (.mk 3 s [] [] [] zT e)
 else (skip [⟨#[102, 117, 110]⟩]).bind fun b => if b then (some_ n ⟨#[97, 110, 100]⟩ g.fun_).bind fun l => .ret (.mk 4 nob [] [] l zT zE)
 else (skip [⟨#[100, 111]⟩]).bind fun b => if b then g.exp.bind fun e => .ret (.mk 6 nob [] [] [] zT e)
 else if whole = false then .fail
 else (skip [⟨#[100, 97, 116, 97, 116, 121, 112, 101]⟩]).bind fun b => if b then g.vars.bind fun v => (take 1).bind fun s => (must ⟨#[61]⟩).bind fun _ => (some_ n ⟨#[124]⟩ g.con).bind fun l => .ret (.mk 1 s v l [] zT zE)
 else (skip [⟨#[101, 120, 99, 101, 112, 116, 105, 111, 110]⟩]).bind fun b => if b then g.con.bind fun c => .ret (.mk 2 nob [] [c] [] zT zE)
 else (skip [⟨#[114, 111, 111, 116]⟩]).bind fun b => if b then (take 1).bind fun s => (must ⟨#[58]⟩).bind fun _ => g.ty.bind fun t => (must ⟨#[61]⟩).bind fun _ => g.exp.bind fun e => .ret (.mk 5 s [] [] [] t e)
 else .fail
end Gr
def Gr.step (n : Nat) (g : Gr) : Gr where
 ty := g.pTy
 row := g.pRow n
 post := g.pPost n
 tyAtom := g.pTyAtom n
 exp := g.pExp n
 rule := g.pRule
 level := g.pLevel n
 calls := g.pCalls n
 prefix_ := g.pPrefix
 atom := g.pAtom
 round := g.pRound n
 let_ := g.pLet n
 pat := g.pPat
 patAtom := g.pPatAtom
 patRound := g.pPatRound n
 dec := g.pDec n
 con := g.pCon
 fun_ := g.pFun n
 vars := Gr.pVars n
def gram : Nat → Gr
 | 0 => Gr.zero
 | n + 1 => (gram n).step n
end Go.Proofs.YtjabhmepafofmaaGreatDoor
