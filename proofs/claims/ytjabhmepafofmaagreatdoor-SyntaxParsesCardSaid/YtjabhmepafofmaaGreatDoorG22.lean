/- Tb -/
import Derived.Test.YtjabhmepafofmaaGreatDoorG21
import Derived.Deep.CutRange
import Derived.Deep.RegionHeld3
import Derived.Laws.BytesArg
import Derived.Lib.SlBytesConst
import Derived.Maps.AppendAt
import Derived.WalkKit
set_option linter.unusedVariables false
set_option linter.unusedSimpArgs false
namespace Go.Proofs.YtjabhmepafofmaaGreatDoor.Sc
open Go.RowKit
theorem prefix_opens (l : Bs) : List.isPrefixOf [40, 42] l = opens l := by
 match l with
 | [] => rfl
 | [a] => simp [opens, List.isPrefixOf]
 | a :: b :: r =>
  show ((40 : UInt8) == a && ((42 : UInt8) == b && true)) = (decide (a = 40) && decide (b = 42))
  rw [Bool.eq_iff_iff]
  simp only [Bool.and_eq_true, beq_iff_eq, decide_eq_true_eq, and_true]
  exact ⟨fun h => ⟨h.1.symm, h.2.symm⟩, fun h => ⟨h.1.symm, h.2.symm⟩⟩
theorem prefix_closes (l : Bs) : List.isPrefixOf [42, 41] l = closes l := by
 match l with
 | [] => rfl
 | [a] => simp [closes, List.isPrefixOf]
 | a :: b :: r =>
  show ((42 : UInt8) == a && ((41 : UInt8) == b && true)) = (decide (a = 42) && decide (b = 41))
  rw [Bool.eq_iff_iff]
  simp only [Bool.and_eq_true, beq_iff_eq, decide_eq_true_eq, and_true]
  exact ⟨fun h => ⟨h.1.symm, h.2.symm⟩, fun h => ⟨h.1.symm, h.2.symm⟩⟩
def tokA (t : Tok) : Array Value := #[.int .u8 t.kind, .string (mk t.text), .int .i64 t.num, .int .i64 t.pos]
def tokV (t : Tok) : Value := .agg (tokA t)
/-- what a reader hands back -/
def readV : Option (Tok × Nat) → Value
 | none => .tuple #[.agg #[.int .u8 0, .string ⟨#[]⟩, .int .i64 0, .int .i64 0], .int .i64 0]
 | some (t, n) => .tuple #[tokV t, .int .i64 n]
theorem results_cell_tmp {P : Program} {fn : Func} {a t u : Nat} (h : fn.results = #[.cell a t, .tmp u]) (tmps : Array Value) (w : World) (g : Nat) (cs : Array Value)
  (ha : tmps.getD a undef = .pointer (some ⟨g, 0, none⟩)) (hl : (loadVar t ⟨g, 0, none⟩).run P w = .ok (.agg cs) w) :
  (results fn tmps).run P w = .ok (.tuple #[.agg cs, tmps.getD u undef]) w := by
 have e : (asAddr (tmps.getD a undef)).run P w = .ok ⟨g, 0, none⟩ w := by rw [ha]; rfl
 simp only [Array.getD_eq_getD_getElem?] at e ⊢
 simp [results, h, e, hl, Result.andThen]
theorem tok_row (w : World) (g : Nat) (cs : Array Value) (hs : cs.size = 4) (hb : w.heap[g]? = some (.cells cs 31 (0, 0))) :
  (loadVar 31 ⟨g, 0, none⟩).run Tryz.prog w = .ok (.agg cs) w :=
 run_loadVar_row w g 31 31 cs (0, 0) _ hb Tryz.underlying31 rfl (by rw [hs]; kernel_rfl)
theorem last_block (w : World) (o : Obj) : (w.alloc o).heap[w.heap.size]? = some o := by
 show (w.heap.push o)[w.heap.size]? = some o
 simp
theorem below_alloc (w : World) (o : Obj) : Below w.heap.size w (w.alloc o) := (Below.refl _ w).alloc (Nat.le_refl _) _
theorem second_block (w : World) (a b : Obj) : ((w.alloc a).alloc b).heap[w.heap.size]? = some a := by
 show ((w.heap.push a).push b)[w.heap.size]? = some a
 rw [Array.getElem?_push, if_neg (by simp), Array.getElem?_push, if_pos rfl]
theorem below_two (w : World) (a b : Obj) : Below w.heap.size w ((w.alloc a).alloc b) := ((Below.refl _ w).alloc (Nat.le_refl _) _).alloc (by simp) _
theorem numF_big (acc : Nat) (c : UInt8) (r : Bs) (d : Nat) (hc : c.toNat = 48 + d) (h : (4611686018427387903 - d) / 10 < acc) : numF acc (c :: r) = none := by
 have e : c.toNat - 48 = d := by omega
 rw [numF, e, if_pos h]
theorem numF_small (acc : Nat) (c : UInt8) (r : Bs) (d : Nat) (hc : c.toNat = 48 + d) (h : ¬ (4611686018427387903 - d) / 10 < acc) : numF acc (c :: r) = numF (10 * acc + d) r := by
 have e : c.toNat - 48 = d := by omega
 rw [numF, e, if_neg h]
theorem block_setCell {w : World} {b : Nat} {arr : Array Value} {t : TypeId} {z : Nat × Nat} (h : w.heap[b]? = some (.cells arr t z)) (i : Nat) (v : Value) :
  (w.setCell ⟨b, i, none⟩ v).heap[b]? = some (.cells (arr.setIfInBounds i v) t z) := by
 simp [World.setCell, Array.getElem?_modify, h]
theorem four_block {w : World} {b : Nat} {arr : Array Value} {t : TypeId} {z : Nat × Nat} (h : w.heap[b]? = some (.cells arr t z)) (v0 v1 v2 v3 : Value) :
  ((((w.setCell ⟨b, 0, none⟩ v0).setCell ⟨b, 1, none⟩ v1).setCell ⟨b, 2, none⟩ v2).setCell ⟨b, 3, none⟩ v3).heap[b]? =
   some (.cells ((((arr.setIfInBounds 0 v0).setIfInBounds 1 v1).setIfInBounds 2 v2).setIfInBounds 3 v3) t z) :=
 block_setCell (block_setCell (block_setCell (block_setCell h 0 v0) 1 v1) 2 v2) 3 v3
theorem below_setCell {B : Nat} {w w' : World} (h : Below B w w') {b : Nat} (hb : B ≤ b) (i : Nat) (v : Value) : Below B w (w'.setCell ⟨b, i, none⟩ v) :=
 ⟨h.os, h.tape, h.output, by simpa [World.setCell] using h.size, fun k hk => (Below.heap_setCell _ _ _ _ (by show k ≠ b; omega)).trans (h.block k hk)⟩
theorem tokRow_of {w : World} {b : Nat} {v0 v1 v2 v3 : Value} {t : TypeId} (h : w.heap[b]? = some (.cells #[v0, v1, v2, v3] t (0, 0))) :
  w.cell? ⟨b, 0, none⟩ = some v0 ∧ w.cell? ⟨b, 1, none⟩ = some v1 ∧ w.cell? ⟨b, 2, none⟩ = some v2 ∧ w.cell? ⟨b, 3, none⟩ = some v3 ∧ ∀ j, w.frozen? ⟨b, j, none⟩ = false := by
 simp [World.cell?, World.frozen?, h]
def tokCells (ts : List Tok) : List Value := ts.flatMap fun t => (tokA t).toList
def ScanSaid (w : World) (R : Except Nat (List Tok)) (e : Ending) (w' : World) : Prop :=
 Below w.heap.size w w' ∧ match R with
  | .error p => e = .returned (.tuple #[.slice none 0 0, .int .i64 p, .int .i64 10])
  | .ok ts => ∃ v, e = .returned (.tuple #[v, .int .i64 0, .int .i64 0]) ∧ w'.ownsRow w.heap.size 31 4 v ts.length (tokCells ts)
def Spells (v : Value) (s : ByteArray) (w : World) : Prop := ∀ dst, Tryz.prog.underlying dst = some .string → (convert 63 dst v).run Tryz.prog w = .ok (.string s) w
theorem keep_alloc {w w' : World} {o : Obj} (h : Below w.heap.size w w') : Below w.heap.size w (w'.alloc o) := h.alloc h.size o
/-- what a reader has handed back, in parts -/
def Parted (o : Option (Tok × Nat)) (kd nm ps m : Nat) (tx : ByteArray) : Prop :=
 (o = none ∧ m = 0) ∨ ∃ t : Tok, o = some (t, m) ∧ kd = t.kind ∧ tx = mk t.text ∧ nm = t.num ∧ ps = t.pos
theorem readV_parts (o : Option (Tok × Nat)) : ∃ kd nm ps m tx, readV o = .tuple #[.agg #[.int .u8 (kd : Nat), .string tx, .int .i64 (nm : Nat), .int .i64 (ps : Nat)], .int .i64 (m : Nat)] ∧ Parted o kd nm ps m tx := by
 cases o with
 | none => exact ⟨0, 0, 0, 0, ⟨#[]⟩, rfl, .inl ⟨rfl, rfl⟩⟩
 | some p => exact ⟨p.1.kind, p.1.num, p.1.pos, p.2, mk p.1.text, rfl, .inr ⟨p.1, rfl, rfl, rfl, rfl, rfl⟩⟩
def ReadOut (w1 : World) (V : Value) (e : Ending) (w' : World) : Prop := e = .returned V ∧ Below w1.heap.size w1 w'
theorem owns_below {w w' : World} {base : Nat} {v : Value} {n : Nat} {xs : List Value} (h : w.ownsRow base 31 4 v n xs) (hb : Below w.heap.size w w') : w'.ownsRow base 31 4 v n xs := by
 refine ⟨h.1, ?_⟩
 rcases h.2 with h2 | ⟨g, cap, cur, h1, h2, h3, h4⟩
 ·
  exact .inl h2
 ·
  exact .inr ⟨g, cap, cur, h1, h2, (hb.block g (by
   rcases Nat.lt_or_ge g w.heap.size with h | h
   ·
    exact h
   ·
    rw [Array.getElem?_eq_none h] at h3
    cases h3)).trans h3, h4⟩
theorem below_grown {B : Nat} {w w' w2 : World} {v : Value} {n : Nat} {xs : List Value} (h : Below B w w') (hB : B ≤ w.heap.size) (ho : w'.ownsRow B 31 4 v n xs) (hg : w'.grownBy w2 v.ownBlock) : Below B w w2 := by
 refine ⟨hg.os.trans h.os, hg.tape.trans h.tape, hg.output.trans h.output, Nat.le_trans h.size hg.size, fun k hk => (hg.block k (Nat.lt_of_lt_of_le hk (Nat.le_trans hB h.size)) ?_).trans (h.block k hk)⟩
 rcases ho.2 with ⟨rfl, _⟩ | ⟨g, cap, cur, rfl, h2, _⟩
 ·
  simp [Value.ownBlock]
 ·
  simp only [Value.ownBlock]
  intro e
  injection e with e
  omega
theorem row_first {w : World} {b : Nat} {v0 v1 v2 v3 u0 u1 u2 u3 : Value} {t : TypeId} (h : w.heap[b]? = some (.cells #[v0, v1, v2, v3] t (0, 0))) :
  ((((w.setCell ⟨b, 0, none⟩ u0).setCell ⟨b, 1, none⟩ u1).setCell ⟨b, 2, none⟩ u2).setCell ⟨b, 3, none⟩ u3).heap[b]? = some (.cells #[u0, u1, u2, u3] t (0, 0)) := four_block h u0 u1 u2 u3
theorem tok_cells (w : World) (x : List Value) (t : TypeId) (n : Nat) (hn : w.heap.size = n) : ∀ j u, x[j]? = some u → (w.alloc (.cells x.toArray t)).cell? ((⟨n, 0, none⟩ : Addr).add j) = some u := by
 intro j u hj
 subst hn
 have hb := last_block w (.cells x.toArray t)
 have e : ((⟨w.heap.size, 0, none⟩ : Addr).add j) = ⟨w.heap.size, j, none⟩ := by
  unfold Addr.add
  simp only [Nat.zero_add]
  split
  ·
   rename_i h
   subst h
   rfl
  ·
   rfl
 rw [e]
 simp only [World.cell?, hb]
 simpa using hj
set_option maxRecDepth 100000 in
theorem info37 : ∃ i, Tryz.prog.info? 31 = some i ∧ i.zero = some (.agg #[.int .u8 0, .string ⟨#[]⟩, .int .i64 0, .int .i64 0]) ∧ i.size = 4 ∧ i.bytes = 40 := ⟨_, rfl, rfl, rfl, rfl⟩
theorem tok_ones {a c d : Int} {b : ByteArray} {x y z : IntKind} : ∀ u ∈ [Value.int x a, .string b, .int y c, .int z d], u.oneCell' = true := by
 simp [Value.oneCell']
/-- the bytes of a slice -/
def SrcAt (w : World) (a : Option Addr) (l : Bs) : Prop := ∀ i x, l[i]? = some x → ∃ b off, a = some ⟨b, off, none⟩ ∧ w.cell? ⟨b, off + i, none⟩ = some (.int .u8 (x.toNat : Nat))
theorem strOfNums_mk (l : Bs) : strOfNums (l.map fun (c : UInt8) => (c.toNat : Int)) = mk l := by
 unfold strOfNums mk
 congr 1
 simp [Function.comp_def]
theorem SrcAt.spells {w : World} {a : Option Addr} {l : Bs} (h : SrcAt w a l) (n cap : Nat) (hn : l.length = n) : Spells (.slice a n cap) (mk l) w := by
 intro dst hd
 subst hn
 cases l with
 | nil =>
  rw [run_convert_bytes_string w 63 dst 5 _ _ _ Tryz.underlying63 Tryz.underlying5 hd]
  cases a <;> rfl
 | cons c r =>
  obtain ⟨b, off, rfl, _⟩ := h 0 c rfl
  rw [← strOfNums_mk]
  refine run_convert_bytes_arg w 63 5 Tryz.underlying63 Tryz.underlying5 b off _ cap _ (by simp) (fun i hi => ?_) dst hd
  obtain ⟨b', off', h1, h2⟩ := h i _ (List.getElem?_eq_getElem hi)
  simp only [Option.some.injEq, Addr.mk.injEq] at h1
  obtain ⟨rfl, rfl, _⟩ := h1
  rw [h2]
  have e : ((c :: r).map fun (c : UInt8) => (c.toNat : Int))[i]? = some (((c :: r)[i]).toNat : Int) := by rw [List.getElem?_map, List.getElem?_eq_getElem hi]; rfl
  rw [List.getD, e]
  rfl
theorem mk_toList (l : Bs) : (mk l).toList = l := by
 rw [ByteArray.toList_eq]
 exact mk_data l
def Said (w : World) (x : Bool) (e : Ending) (w' : World) : Prop := e = .returned (.bool x) ∧ Below w.heap.size w w'
set_option maxRecDepth 100000 in
set_option maxHeartbeats 2000000 in
theorem in_any (ss : List Bs) (x : Bs) (s : ByteArray) (hs : Hid (s = mk x)) (b off n cap : Nat) (w : World) (hn : n ≤ 1099511627776) (hl : Hid (ss.length = n)) (h1 : Hid (∀ (i : Nat) (y : Bs), ss[i]? = some y → w.cell? ⟨b, off + i, none⟩ = some (.string (mk y)))) :
  Calls Tryz.prog 102 #[.slice (some ⟨b, off, none⟩) n cap, .string s] w fun e w' => e = .returned (.bool (decide (x ∈ ss))) ∧ w' = w := by
 go_enter Tryz.func102, Tryz.ntmps102
 go_wp2_with fail
 go_loopw [5] (fun i wr => ∃ k : Nat, k ≤ n ∧ i = .int .i64 k ∧ wr = w ∧ Hid (x ∉ ss.take k)) (fun i _ => n - (intOf i).toNat)
 case atStart => exact ⟨0, Nat.zero_le _, rfl, rfl, Lib.hid (by simp)⟩
 case round =>
  obtain ⟨k, hk, rfl, rfl, HX⟩ := hrel
  by_cases hkn : k = n
  ·
   go_wp2_with fail
   go_ret
   refine ⟨?_, rfl⟩
   have : x ∉ ss := by
    have := HX.out
    rwa [hkn, ← hl.out, List.take_length] at this
   rw [decide_eq_false this]
   rfl
  ·
   obtain ⟨y, hy⟩ : ∃ y, ss[k]? = some y := ⟨_, List.getElem?_eq_getElem (by rw [hl.out]; omega)⟩
   have c0 := h1.out k y hy
   have HY := Lib.hid hy
   clear hy
   by_cases hxy : y = x
   ·
    have e : mk y = s := by rw [hs.out, hxy]
    rw [e] at c0
    go_wp2_with fail
    go_ret
    refine ⟨?_, rfl⟩
    rw [← hxy, decide_eq_true (List.mem_of_getElem? HY.out)]
    rfl
   ·
    have hne : ((mk y).toList == s.toList) = false := by
     rw [beq_eq_false_iff_ne, hs.out, mk_toList, mk_toList]
     exact hxy
    have HXY := Lib.hid hxy
    clear hxy
    go_wp2_with fail
    refine ⟨⟨k + 1, by omega, rfl, trivial, Lib.hid ?_⟩, by simp [intOf]; omega⟩
    rw [List.take_add_one, HY.out]
    simp only [Option.toList_some, List.mem_append, List.mem_singleton, not_or]
    exact ⟨HX.out, fun e => HXY.out e.symm⟩
theorem below_grown2 {B : Nat} {w w' w2 : World} {e : TypeId} {s : Nat} {v : Value} {n : Nat} {xs : List Value} (h : Below B w w') (hB : B ≤ w.heap.size) (ho : w'.ownsRow B e s v n xs) (hg : w'.grownBy w2 v.ownBlock) : Below B w w2 := by
 refine ⟨hg.os.trans h.os, hg.tape.trans h.tape, hg.output.trans h.output, Nat.le_trans h.size hg.size, fun k hk => (hg.block k (Nat.lt_of_lt_of_le hk (Nat.le_trans hB h.size)) ?_).trans (h.block k hk)⟩
 rcases ho.2 with ⟨rfl, _⟩ | ⟨g, cap, cur, rfl, h2, _⟩
 ·
  simp [Value.ownBlock]
 ·
  simp only [Value.ownBlock]
  intro e
  injection e with e
  omega
def bytesV (l : Bs) : List Value := l.map fun (x : UInt8) => Value.int .u8 (x.toNat : Nat)
theorem srcAt_own {w : World} {base : Nat} {v : Value} {l : Bs} (h : w.ownsRow base 5 1 v l.length (bytesV l)) : ∃ a cap, v = .slice a l.length cap ∧ SrcAt w a l ∧ l.length ≤ cap ∧ cap ≤ maxLen := by
 have hz := fun g => h.cells (g := g)
 rcases h.2 with ⟨rfl, h2⟩ | ⟨g, cap, cur, rfl, h2, _, h3, h4, _⟩
 ·
  refine ⟨none, 0, by rw [h2], fun i t hi => ?_, by omega, Nat.zero_le _⟩
  have : l = [] := List.eq_nil_of_length_eq_zero h2
  subst this
  simp at hi
 ·
  refine ⟨some ⟨g, 0, none⟩, cap, rfl, fun i x hi => ⟨g, 0, rfl, ?_⟩, h3, h4⟩
  have hc := hz g rfl i (.int .u8 (x.toNat : Nat)) (by unfold bytesV; rw [List.getElem?_map, hi]; rfl)
  rw [Nat.zero_add]
  rw [← hc]
  unfold Addr.add
  split
  ·
   rename_i h
   rw [h]
  ·
   simp
set_option maxRecDepth 100000 in
theorem info5 : ∃ i, Tryz.prog.info? 5 = some i ∧ i.zero = some (.int .u8 0) ∧ i.size = 1 ∧ i.bytes = 1 := ⟨_, rfl, rfl, rfl, rfl⟩
theorem SrcAt.cells {w : World} {b off : Nat} {l : Bs} (h : SrcAt w (some ⟨b, off, none⟩) l) : ∀ j u, (bytesV l)[j]? = some u → w.cell? ((⟨b, off, none⟩ : Addr).add j) = some u := by
 intro j u hj
 unfold bytesV at hj
 rw [List.getElem?_map] at hj
 obtain ⟨x, hx, rfl⟩ := Option.map_eq_some_iff.1 hj
 obtain ⟨b', off', e1, e2⟩ := h j x hx
 simp only [Option.some.injEq, Addr.mk.injEq, and_true] at e1
 obtain ⟨rfl, rfl⟩ := e1
 rw [← e2]
 unfold Addr.add
 split
 ·
  rename_i h
  rw [h]
  rfl
 ·
  rfl
theorem SrcAt.take {w : World} {a : Option Addr} {l : Bs} (h : SrcAt w a l) (n : Nat) : SrcAt w a (l.take n) := by
 intro i x hi
 rw [List.getElem?_take] at hi
 split at hi
 ·
  exact h i x hi
 ·
  cases hi
def strV (l : List Bs) : List Value := l.map fun x => Value.string (mk x)
theorem strs_new (w : World) (l : List Bs) (t : TypeId) (z : Nat × Nat) : ∀ (i : Nat) (y : Bs), l[i]? = some y → (w.alloc (.cells (strV l).toArray t z)).cell? ⟨w.heap.size, 0 + i, none⟩ = some (.string (mk y)) := by
 intro i y hi
 have hb := last_block w (.cells (strV l).toArray t z)
 rw [Nat.zero_add]
 simp only [World.cell?, hb]
 simp [strV, hi]
theorem words_new (w : World) : Calls Tryz.prog 103 #[] w fun e w' => e = .returned (.slice (some ⟨w.heap.size, 0, none⟩) 22 22) ∧ w' = w.alloc (.cells (strV words).toArray 9) := by
 go_enter Tryz.func103, Tryz.ntmps103
 go_wp2_with fail
 go_ret
 exact ⟨rfl, rfl⟩
theorem refWord_any (x : Bs) (w : World) : Calls Tryz.prog 90 #[.string (mk x)] w (Said w (decide (x ∈ words))) := by
 go_enter Tryz.func90, Tryz.ntmps90
 go_wp2_with fail
 refine (words_new w).mono ?_
 rintro e w1 ⟨rfl, rfl⟩
 go_wp2_with fail
 refine (in_any words x _ (Lib.hid rfl) w.heap.size 0 22 22 _ (by decide) (Lib.hid rfl) (Lib.hid (strs_new w words 9 (0, 0)))).mono ?_
 rintro e w2 ⟨rfl, rfl⟩
 go_wp2_with fail
 go_ret
 exact ⟨rfl, below_alloc w _⟩
section
variable {P : Program} {ops : Array Oper} {Q : Exit → Act → World → Prop} {md : Region.Mode} {S : World → Prop}
/-- an operation that yields a value in every world that meets S is taken first -/
theorem take_op (i : Nat) (d : Option Tmp) (op : Op) (t : TypeId) (v : Value) {fuel : Nat} {listed : Array Bool} {a : Act} {w : World} (hd : (ops[i]?).map (fun o => (o.dst, o.op, o.type)) = some (d, op, t))
  (hs : Region.noSelect ops = true) (hf : Region.free md ops listed i = true) (hr : (Region.ready md ops listed).contains i = true) (hw : (ops[i]?).map (fun o => Region.wanted o (yielded ops a.tmps)) = some true)
  (hQ : ∀ c a w, Q (.panic c) (a.put d v) w → Q (.panic c) a w)
  (hy : ∀ w, S w → (execOp a.eval { dst := d, op := op, type := t, pos := "", after := #[], guard := none }).run P w = .ok (.value v) w) (hS : S w)
  (h : wpAnyH P md ops Q S fuel (listed.setIfInBounds i true) (a.put d v) w) : wpAnyH P md ops Q S (fuel + 1) listed a w := by
 cases ho : ops[i]? with
 | none => rw [ho] at hd; cases hd
 | some o =>
  rw [ho] at hd hw
  simp only [Option.map_some, Option.some.injEq, Prod.mk.injEq] at hd hw
  obtain ⟨rfl, rfl, rfl⟩ := hd
  exact wpAnyH_take ho hs hf hr hQ (Or.inl ⟨hw, fun w' hS' => hy w' hS'⟩) hS h
end
theorem own_app {w : World} {b : Nat} {v : Value} {l l2 : Bs} {n m : Nat} {news : List Value} (h : w.ownsRow b 5 1 v (n + m) (bytesV l ++ news)) (hn : l.length = n) (hm : l2.length = m) (h2 : bytesV l2 = news) : w.ownsRow b 5 1 v (l ++ l2).length (bytesV (l ++ l2)) := by
 rw [List.length_append, hn, hm]
 have e : bytesV (l ++ l2) = bytesV l ++ news := by rw [← h2]; simp [bytesV]
 rw [e]
 exact h
theorem rsmall_any (c : UInt8) (w : World) : Calls Tryz.prog 66 #[.int .u8 c.toNat] w fun e w' => e = .returned (.bool (small c)) ∧ w' = w := by
 have hc : c.toNat < 256 := c.toNat_lt
 unfold small
 generalize c.toNat = n at hc ⊢
 go_enter Tryz.func66, Tryz.ntmps66
 by_cases h : 97 ≤ n
 ·
  go_wp2_with fail
  go_ret
  simp [h]
  omega
 ·
  go_wp2_with fail
  go_ret
  simp [h]
theorem rgreat_any (c : UInt8) (w : World) : Calls Tryz.prog 67 #[.int .u8 c.toNat] w fun e w' => e = .returned (.bool (great c)) ∧ w' = w := by
 have hc : c.toNat < 256 := c.toNat_lt
 unfold great
 generalize c.toNat = n at hc ⊢
 go_enter Tryz.func67, Tryz.ntmps67
 by_cases h : 65 ≤ n
 ·
  go_wp2_with fail
  go_ret
  simp [h]
  omega
 ·
  go_wp2_with fail
  go_ret
  simp [h]
theorem rdigit_any (c : UInt8) (w : World) : Calls Tryz.prog 69 #[.int .u8 c.toNat] w fun e w' => e = .returned (.bool (digit c)) ∧ w' = w := by
 have hc : c.toNat < 256 := c.toNat_lt
 unfold digit
 generalize c.toNat = n at hc ⊢
 go_enter Tryz.func69, Tryz.ntmps69
 by_cases h : 48 ≤ n
 ·
  go_wp2_with fail
  go_ret
  simp [h]
  omega
 ·
  go_wp2_with fail
  go_ret
  simp [h]
theorem rpart_any (c : UInt8) (w : World) : Calls Tryz.prog 91 #[.int .u8 c.toNat] w fun e w' => e = .returned (.bool (part c)) ∧ w' = w := by
 have hc : c.toNat < 256 := c.toNat_lt
 unfold part
 have c1 := rsmall_any c w
 have c2 := rgreat_any c w
 have c3 := rdigit_any c w
 generalize small c = p1 at c1 ⊢
 generalize great c = p2 at c2 ⊢
 generalize digit c = p3 at c3 ⊢
 generalize c.toNat = n at hc c1 c2 c3 ⊢
 have C1 := Lib.hid c1
 have C2 := Lib.hid c2
 have C3 := Lib.hid c3
 clear c1 c2 c3
 go_enter Tryz.func91, Tryz.ntmps91
 cases p1
 ·
  cases p2
  ·
   cases p3
   ·
    go_wp2_with fail
    refine C1.out.mono ?_
    rintro e w1 ⟨rfl, rfl⟩
    go_wp2_with fail
    refine C2.out.mono ?_
    rintro e w1 ⟨rfl, rfl⟩
    go_wp2_with fail
    refine C3.out.mono ?_
    rintro e w1 ⟨rfl, rfl⟩
    go_wp2_with fail
    go_ret
    simp
    rw [Bool.eq_iff_iff]
    simp
    omega
   ·
    go_wp2_with fail
    refine C1.out.mono ?_
    rintro e w1 ⟨rfl, rfl⟩
    go_wp2_with fail
    refine C2.out.mono ?_
    rintro e w1 ⟨rfl, rfl⟩
    go_wp2_with fail
    refine C3.out.mono ?_
    rintro e w1 ⟨rfl, rfl⟩
    go_wp2_with fail
    go_ret
    simp
  ·
   go_wp2_with fail
   refine C1.out.mono ?_
   rintro e w1 ⟨rfl, rfl⟩
   go_wp2_with fail
   refine C2.out.mono ?_
   rintro e w1 ⟨rfl, rfl⟩
   go_wp2_with fail
   go_ret
   simp
 ·
  go_wp2_with fail
  refine C1.out.mono ?_
  rintro e w1 ⟨rfl, rfl⟩
  go_wp2_with fail
  go_ret
  simp
set_option maxRecDepth 100000 in
set_option maxHeartbeats 1000000 in
theorem rrun_any (l : Bs) (s : ByteArray) (hsl : Hid (s = mk l)) (n : Nat) (hn : n ≤ 1099511627776) (hs : s.size = n) (w : World) :
  Calls Tryz.prog 72 #[.string s] w fun e w' => e = .returned (.int .i64 ((l.takeWhile part).length : Nat)) ∧ w' = w := by
 go_enter Tryz.func72, Tryz.ntmps72
 go_wp2_with fail
 go_loopw [3] (fun i wr => wr = w ∧ ∃ q : Nat, q ≤ n ∧ i = .int .i64 q ∧ Hid (∀ k, k < q → ∀ c, l[k]? = some c → part c = true)) (fun i _ => n - (intOf i).toNat)
 case atStart => exact ⟨rfl, 0, Nat.zero_le _, rfl, Lib.hid fun _ h => by omega⟩
 case round =>
  obtain ⟨rfl, q, hq, rfl, HH⟩ := hrel
  by_cases hlt : q < n
  ·
   have hlt2 : q < s.size := by omega
   have HG : Hid (l[q]? = some s[q]) := by
    have e := hsl.out
    subst e
    exact Lib.hid (mk_get l q hlt2)
   have hc := rpart_any s[q] wr
   cases hp : part s[q]
   ·
    rw [hp] at hc
    have HC := Lib.hid hc
    have HP := Lib.hid hp
    clear hc hp
    go_wp2_with fail
    refine HC.out.mono ?_
    rintro e w2 ⟨rfl, rfl⟩
    go_wp2_with fail
    go_ret
    refine ⟨?_, rfl⟩
    have hl : q < l.length := (List.getElem?_eq_some_iff.1 HG.out).1
    have e : (l.takeWhile part).length = q := by rw [takeWhile_cut part l q _ HH.out HG.out HP.out, List.length_take]; omega
    rw [e]
    rfl
   ·
    rw [hp] at hc
    have HC := Lib.hid hc
    have HP := Lib.hid hp
    clear hc hp
    go_wp2_with fail
    refine HC.out.mono ?_
    rintro e w2 ⟨rfl, rfl⟩
    go_wp2_with fail
    refine ⟨⟨trivial, q + 1, by omega, by go_num, Lib.hid fun k hk c hc => ?_⟩, by simp [intOf]; omega⟩
    by_cases e : k = q
    ·
     subst e
     rw [HG.out] at hc
     injection hc with hc
     rw [← hc]
     exact HP.out
    ·
     exact HH.out k (by omega) c hc
  ·
   go_wp2_with fail
   go_ret
   refine ⟨?_, rfl⟩
   have e : s.size = l.length := by rw [hsl.out, mk_size]
   have e2 : (l.takeWhile part).length = q := by
    rw [takeWhile_all part l]
    ·
     omega
    ·
     intro k hk
     exact HH.out k (by omega)
   rw [e2]
   rfl
theorem begins_any (l t : Bs) (s u : ByteArray) (hsl : Hid (s = mk l)) (hut : Hid (u = mk t)) (n m : Nat) (hn : n ≤ 1099511627776) (hm : m ≤ 1099511627776) (hs : s.size = n) (hu : u.size = m) (w : World) :
  Calls Tryz.prog 65 #[.string s, .string u] w fun e w' => e = .returned (.bool (t.isPrefixOf l)) ∧ w' = w := by
 have HL : Hid (l.length = n) := Lib.hid (by rw [← hs, hsl.out, mk_size])
 have HM : Hid (t.length = m) := Lib.hid (by rw [← hu, hut.out, mk_size])
 go_enter Tryz.func65, Tryz.ntmps65
 by_cases h : m ≤ n
 ·
  have he : ((s.extract 0 m).toList == u.toList) = t.isPrefixOf l := by
   rw [hsl.out, hut.out, mk_take, mk_toList, mk_toList, Bool.eq_iff_iff, beq_iff_eq, List.isPrefixOf_iff_prefix, List.prefix_iff_eq_take, HM.out]
   exact ⟨fun h => h.symm, fun h => h.symm⟩
  generalize t.isPrefixOf l = b at he ⊢
  go_wp2_with fail
  go_ret
  exact ⟨rfl, rfl⟩
 ·
  have he : t.isPrefixOf l = false := by
   cases hb : t.isPrefixOf l with
   | false => rfl
   | true =>
    have := (List.isPrefixOf_iff_prefix.1 hb).length_le
    rw [HL.out, HM.out] at this
    omega
  rw [he]
  clear he
  go_wp2_with fail
  go_ret
  exact ⟨rfl, rfl⟩
theorem ropens_call (l : Bs) (s : ByteArray) (h : Hid (s = mk l)) (n : Nat) (hn : n ≤ 1099511627776) (hs : s.size = n) (w : World) :
  Calls Tryz.prog 65 #[.string s, .string ⟨#[40, 42]⟩] w fun e w' => e = .returned (.bool (opens l)) ∧ w' = w := by
 have := begins_any l [40, 42] s ⟨#[40, 42]⟩ h (Lib.hid rfl) n 2 hn (by decide) hs rfl w
 rw [← prefix_opens]
 exact this
theorem rcloses_call (l : Bs) (s : ByteArray) (h : Hid (s = mk l)) (n : Nat) (hn : n ≤ 1099511627776) (hs : s.size = n) (w : World) :
  Calls Tryz.prog 65 #[.string s, .string ⟨#[42, 41]⟩] w fun e w' => e = .returned (.bool (closes l)) ∧ w' = w := by
 have := begins_any l [42, 41] s ⟨#[42, 41]⟩ h (Lib.hid rfl) n 2 hn (by decide) hs rfl w
 rw [← prefix_closes]
 exact this
def blankI (l : Bs) : Int := match blank l with | some k => (k : Int) | none => -1
theorem white_val (c : UInt8) : white c = true ↔ (c.toNat = 32 ∨ c.toNat = 9 ∨ c.toNat = 10 ∨ c.toNat = 13) := by
 unfold white
 simp only [Bool.or_eq_true, decide_eq_true_eq]
 constructor
 ·
  rintro (((rfl | rfl) | rfl) | rfl) <;> decide
 ·
  intro h
  have e : c = UInt8.ofNat c.toNat := by simp
  rcases h with h | h | h | h <;> rw [h] at e <;> rw [e] <;> decide
set_option maxRecDepth 100000 in
set_option maxHeartbeats 2000000 in
theorem rblank_any (c : UInt8) (r : Bs) (s : ByteArray) (hsl : Hid (s = mk (c :: r))) (n : Nat) (hn : n ≤ 1099511627776) (hs : s.size = n) (w : World) :
  Calls Tryz.prog 43 #[.string s] w fun e w' => e = .returned (.int .i64 (blankI (c :: r))) ∧ w' = w := by
 obtain ⟨l, hlr⟩ : ∃ l, c :: r = l := ⟨_, rfl⟩
 have hln : l.length = n := by rw [← hs, hsl.out, mk_size, hlr]
 have hn1 : 1 ≤ n := by rw [← hln, ← hlr]; simp
 have h00 : 0 < s.size := by omega
 have hc0 : s[0] = c := by
  have e := hsl.out
  subst e
  exact Option.some.inj (mk_get (c :: r) 0 h00).symm
 obtain ⟨v, hv⟩ : ∃ v, c.toNat = v := ⟨_, rfl⟩
 have hwv := white_val c
 rw [hv] at hwv
 cases hwh : white c with
 | true =>
  have hres : blankI (c :: r) = 1 := by
   unfold blankI
   rw [show blank (c :: r) = some 1 by simp [blank, hwh]]
   rfl
  rw [hres]
  have h4 := hwv.1 hwh
  clear hwv hwh hlr hln hsl hres
  go_enter Tryz.func43, Tryz.ntmps43
  rcases h4 with rfl | rfl | rfl | rfl
  ·
   go_wp2_with fail
   go_ret
   exact ⟨rfl, rfl⟩
  ·
   go_wp2_with fail
   go_ret
   exact ⟨rfl, rfl⟩
  ·
   go_wp2_with fail
   go_ret
   exact ⟨rfl, rfl⟩
  ·
   go_wp2_with fail
   go_ret
   exact ⟨rfl, rfl⟩
 | false =>
  have h4 : ¬ (v = 32 ∨ v = 9 ∨ v = 10 ∨ v = 13) := fun h => by rw [hwv.2 h] at hwh; cases hwh
  have q1 : ((v : Int) == 32) = false := by simp only [beq_eq_false_iff_ne, ne_eq]; omega
  have q2 : ((v : Int) == 9) = false := by simp only [beq_eq_false_iff_ne, ne_eq]; omega
  have q3 : ((v : Int) == 10) = false := by simp only [beq_eq_false_iff_ne, ne_eq]; omega
  have q4 : ((v : Int) == 13) = false := by simp only [beq_eq_false_iff_ne, ne_eq]; omega
  rw [hlr] at hsl ⊢
  have hbl : blankI l = if opens l then (match cmt l with | some k => (k : Int) | none => -1) else 0 := by
   unfold blankI
   cases ho : opens l
   ·
    rw [← hlr] at ho ⊢
    rw [blank_zero_of hwh ho]
    rfl
   ·
    rw [blank_cmt ho]
    rfl
  have HBL := Lib.hid hbl
  have HLN := Lib.hid hln
  clear hwv hwh hlr hln h4 hbl
  have h0 := Lib.hid (ropens_call l s hsl n hn hs)
  go_enter Tryz.func43, Tryz.ntmps43
  go_wp2_with fail
  refine (h0.out _).mono ?_
  rintro e w1 ⟨rfl, rfl⟩
  cases ho : opens l with
  | false =>
   have HO := Lib.hid ho
   clear ho
   go_wp2_with fail
   go_ret
   rw [HBL.out, HO.out]
   exact ⟨rfl, rfl⟩
  | true =>
   have hn2 : 2 ≤ n := by
    have := opens_len (q := 0) (by simpa using ho)
    rw [HLN.out] at this
    omega
   have HO := Lib.hid ho
   clear ho
   go_wp2_with fail
   go_loopw [3, 4] (fun i j wr => wr = w1 ∧ ∃ o q : Nat, o ≤ q ∧ q ≤ n ∧ i = .int .i64 o ∧ j = .int .i64 q ∧ Hid ((0 < o ∧ CmInv l o q) ∨ (o = 0 ∧ cmt l = some q))) (fun _ j _ => n + 2 - (intOf j).toNat)
   case atStart => exact ⟨rfl, 1, 2, by decide, hn2, rfl, rfl, Lib.hid (.inl ⟨by decide, .inr ⟨by decide, rfl⟩⟩)⟩
   case round =>
    obtain ⟨rfl, o, q, hoq, hq, rfl, rfl, HI⟩ := hrel
    by_cases hqn : q < n
    ·
     by_cases hop : 0 < o
     ·
      have HI2 : Hid (CmInv l o q) := Lib.hid (by
       rcases HI.out with h | h
       ·
        exact h.2
       ·
        omega)
      have HX : Hid (s.extract q n = mk (l.drop q)) := Lib.hid (by rw [hsl.out, mk_drop l q n HLN.out.symm])
      have hxs : (s.extract q n).size = n - q := by rw [HX.out, mk_size, List.length_drop, HLN.out]
      have hc1 := ropens_call (l.drop q) (s.extract q n) HX (n - q) (by omega) hxs wr
      have hc2 := rcloses_call (l.drop q) (s.extract q n) HX (n - q) (by omega) hxs wr
      clear HI
      cases h1 : opens (l.drop q) with
      | true =>
       rw [h1] at hc1
       have hl2 := opens_len h1
       rw [HLN.out] at hl2
       have H1 := Lib.hid h1
       have HC1 := Lib.hid hc1
       clear h1 hc1 hc2
       go_wp2_with fail
       refine HC1.out.mono ?_
       rintro e w2 ⟨rfl, rfl⟩
       go_wp2_with fail
       exact ⟨⟨trivial, o + 1, q + 2, by omega, hl2, by go_num, by go_num, Lib.hid (.inl ⟨by omega, inv_open HI2.out H1.out⟩)⟩, by simp [intOf]; omega⟩
      | false =>
       rw [h1] at hc1
       have H1 := Lib.hid h1
       have HC1 := Lib.hid hc1
       cases h2 : closes (l.drop q) with
       | true =>
        rw [h2] at hc2
        have hl2 := closes_len h2
        rw [HLN.out] at hl2
        have H2 := Lib.hid h2
        have HC2 := Lib.hid hc2
        clear h1 hc1 hc2 h2
        go_wp2_with fail
        refine HC1.out.mono ?_
        rintro e w2 ⟨rfl, rfl⟩
        go_wp2_with fail
        refine HC2.out.mono ?_
        rintro e w3 ⟨rfl, rfl⟩
        go_wp2_with fail
        refine ⟨⟨trivial, o - 1, q + 2, by omega, hl2, ?_, by go_num, Lib.hid ?_⟩, by simp [intOf]; omega⟩
        ·
         congr 1
         omega
        ·
         by_cases ho1 : o = 1
         ·
          subst ho1
          exact .inr ⟨rfl, inv_last HI2.out H2.out⟩
         ·
          exact .inl ⟨by omega, inv_close HI2.out H2.out (by omega)⟩
       | false =>
        rw [h2] at hc2
        have H2 := Lib.hid h2
        have HC2 := Lib.hid hc2
        clear h1 hc1 hc2 h2
        go_wp2_with fail
        refine HC1.out.mono ?_
        rintro e w2 ⟨rfl, rfl⟩
        go_wp2_with fail
        refine HC2.out.mono ?_
        rintro e w3 ⟨rfl, rfl⟩
        go_wp2_with fail
        exact ⟨⟨trivial, o, q + 1, by omega, by omega, by go_num, by go_num, Lib.hid (.inl ⟨hop, inv_else HI2.out hop H1.out H2.out⟩)⟩, by simp [intOf]; omega⟩
     ·
      have ho0 : o = 0 := by omega
      subst ho0
      go_wp2_with fail
      go_ret
      refine ⟨?_, rfl⟩
      rcases HI.out with h | h
      ·
       omega
      ·
       rw [HBL.out, HO.out, h.2]
       rfl
    ·
     by_cases hop : 0 < o
     ·
      go_wp2_with fail
      go_ret
      refine ⟨?_, rfl⟩
      rcases HI.out with h | h
      ·
       rw [HBL.out, HO.out, inv_end h.2 hop (by rw [HLN.out]; omega)]
       rfl
      ·
       omega
     ·
      have ho0 : o = 0 := by omega
      subst ho0
      go_wp2_with fail
      go_ret
      refine ⟨?_, rfl⟩
      rcases HI.out with h | h
      ·
       omega
      ·
       rw [HBL.out, HO.out, h.2]
       rfl
end Go.Proofs.YtjabhmepafofmaaGreatDoor.Sc
