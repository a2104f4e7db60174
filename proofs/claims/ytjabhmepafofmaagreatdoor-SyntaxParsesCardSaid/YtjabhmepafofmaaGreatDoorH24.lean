/- Cp, Op, Ot, Pl -/
import Derived.Test.YtjabhmepafofmaaGreatDoorH23
import Derived.Laws.AppendOwn
import Derived.Laws.AppendOwnNone
import Derived.Test.YtjabhmepafofmaaGreatDoorH12
import Derived.WalkKit
import Derived.ProofKit
import Derived.OpenShut
import Derived.Deep.Slices
import Derived.Deep.Fields
import Derived.Deep.DeepHandedRow
import Derived.Lib.LaidTab
import Derived.LaidMore
import Derived.ChangeMaps5
import Derived.ChangeSame
import Derived.Test.YtjabhmepafofmaaGreatDoorH20
import Derived.Test.YtjabhmepafofmaaGreatDoorG06
set_option linter.unusedVariables false
set_option linter.unusedSimpArgs false
namespace Go.Proofs.YtjabhmepafofmaaGreatDoor
open Go.RowKit
def tokL (t : Tok) : List Value := [.int .u8 t.kind, .string t.text, .int .i64 t.num, .int .i64 t.pos]
def tcells (l : List Tok) : List Value := l.flatMap tokL
/-- tokens in memory -/
def TokAt (w : World) (a : Option Addr) (ts : List Tok) : Prop := ∀ (j : Nat) (t : Tok), ts[j]? = some t → ∃ b off, a = some ⟨b, off, none⟩ ∧ b < w.heap.size ∧ w.cell? ⟨b, off + j * 4, none⟩ = some (.int .u8 t.kind) ∧ w.cell? ⟨b, off + j * 4 + 1, none⟩ = some (.string t.text) ∧
  w.cell? ⟨b, off + j * 4 + 2, none⟩ = some (.int .i64 t.num) ∧ w.cell? ⟨b, off + j * 4 + 3, none⟩ = some (.int .i64 t.pos)
theorem TokAt.row {w : World} {a : Option Addr} {ts : List Tok} (h : TokAt w a ts) (gp : Nat) (hg : w.heap.size ≤ gp) : TokRow w gp a ts := fun j t hj => by
  obtain ⟨b, off, e, hb, h0, h1, h2, h3⟩ := h j t hj
  exact ⟨b, off, e, by omega, h0, h1, h2, h3⟩
theorem TokAt.no {w w' : World} {a : Option Addr} {ts : List Tok} (h : TokAt w a ts) (hf : Fr No w w') : TokAt w' a ts := fun j t hj => by
  obtain ⟨b, off, e, hb, h0, h1, h2, h3⟩ := h j t hj
  exact ⟨b, off, e, Nat.lt_of_lt_of_le hb hf.size, hf.cell h0, hf.cell h1, hf.cell h2, hf.cell h3⟩
theorem TokAt.take {w : World} {a : Option Addr} {ts : List Tok} (h : TokAt w a ts) (n : Nat) : TokAt w a (ts.take n) := fun j t hj => h j t (by
  rw [List.getElem?_take] at hj
  split at hj
  · exact hj
  · cases hj)
theorem OwnToks.at_ {B : Nat} {w : World} {a : Option Addr} {ts : List Tok} (h : OwnToks B w a ts) : TokAt w a ts := fun j t hj => by
  obtain ⟨b, off, e, _, h⟩ := h j t hj
  exact ⟨b, off, e, h⟩
theorem tcells_len (l : List Tok) : (tcells l).length = l.length * 4 := by
  induction l with
  | nil => rfl
  | cons t r ih =>
    simp only [tcells, List.flatMap_cons, List.length_append, List.length_cons] at ih ⊢
    rw [ih]
    simp [tokL]
    omega
theorem tcells_append (l m : List Tok) : tcells (l ++ m) = tcells l ++ tcells m := by simp [tcells]
theorem tcells_at : ∀ (ts : List Tok) (j i : Nat) (t : Tok), ts[j]? = some t → i < 4 → (tcells ts)[j * 4 + i]? = (tokL t)[i]?
  | [], j, i, t, h, _ => by simp at h
  | x :: r, 0, i, t, h, hi => by
    simp only [List.getElem?_cons_zero, Option.some.injEq] at h
    subst h
    simp only [tcells, List.flatMap_cons, Nat.zero_mul, Nat.zero_add]
    rw [List.getElem?_append_left (by simp [tokL]; omega)]
  | x :: r, j + 1, i, t, h, hi => by
    have ih := tcells_at r j i t (by simpa using h) hi
    simp only [tcells, List.flatMap_cons] at ih ⊢
    rw [List.getElem?_append_right (by simp [tokL]; omega), ← ih]
    congr 1
    simp [tokL]
    omega
theorem TokAt.cells {w : World} {ad : Addr} {ts : List Tok} (h : TokAt w (some ad) ts) (j : Nat) (u : Value) (hj : (tcells ts)[j]? = some u) : w.cell? (ad.add j) = some u := by
  have hl := (List.getElem?_eq_some_iff.1 hj).1
  rw [tcells_len] at hl
  obtain ⟨t, ht⟩ : ∃ t, ts[j / 4]? = some t := ⟨_, List.getElem?_eq_getElem (by omega)⟩
  have hc := tcells_at ts (j / 4) (j % 4) t ht (Nat.mod_lt _ (by decide))
  rw [show j / 4 * 4 + j % 4 = j by omega, hj] at hc
  obtain ⟨b, off, e, _, h0, h1, h2, h3⟩ := h _ t ht
  cases e
  rw [addr_add]
  have h4 : j % 4 = 0 ∨ j % 4 = 1 ∨ j % 4 = 2 ∨ j % 4 = 3 := by omega
  rcases h4 with h4 | h4 | h4 | h4
  · rw [h4] at hc
    rw [hc, show off + j = off + j / 4 * 4 by omega]
    exact h0
  · rw [h4] at hc
    rw [hc, show off + j = off + j / 4 * 4 + 1 by omega]
    exact h1
  · rw [h4] at hc
    rw [hc, show off + j = off + j / 4 * 4 + 2 by omega]
    exact h2
  · rw [h4] at hc
    rw [hc, show off + j = off + j / 4 * 4 + 3 by omega]
    exact h3
/-- a row of tokens of one's own -/
def Held (w : World) (B : Nat) (v : Value) (l : List Tok) : Prop := w.ownsRow B 31 4 v l.length (tcells l)
theorem Held.slice {w : World} {B : Nat} {v : Value} {l : List Tok} (h : Held w B v l) : ∃ a c, v = .slice a l.length c ∧ OwnToks B w a l ∧ (a = none → l.length = 0 ∧ c = 0) := by
  rcases h.2 with ⟨h1, h2⟩ | ⟨g, cap, cur, h1, h2, h3, h4, h5, h6, h7⟩
  · refine ⟨none, 0, by rw [h1, h2], fun j t hj => ?_, fun _ => ⟨h2, rfl⟩⟩
    rw [List.eq_nil_of_length_eq_zero h2] at hj
    simp at hj
  · refine ⟨_, _, h1, fun j u hu => ?_, fun e => by cases e⟩
    have hjl := (List.getElem?_eq_some_iff.1 hu).1
    have key : ∀ i, i < 4 → w.cell? ⟨g, 0 + j * 4 + i, none⟩ = (tokL u)[i]? := fun i hi => by
      rw [cell_of h3, ← tcells_at l j i u hu hi, ← h7, List.getElem?_take_of_lt (by omega), Nat.zero_add]
      simp
    exact ⟨g, 0, rfl, h2, lt_of_block h3, key 0 (by decide), key 1 (by decide), key 2 (by decide), key 3 (by decide)⟩
set_option maxRecDepth 100000 in
theorem elem49 : ElemOk Tryz.prog 31 4 40 := ⟨⟨_, _, rfl, rfl, rfl, rfl, rfl⟩, by decide⟩
theorem tok_ones (l : List Tok) : ∀ u ∈ tcells l, u.oneCell' = true := fun u hu => by
  obtain ⟨t, _, ht⟩ := List.mem_flatMap.1 hu
  simp only [tokL, List.mem_cons, List.not_mem_nil, or_false] at ht
  rcases ht with rfl | rfl | rfl | rfl <;> rfl
theorem held_nil (w : World) : Held w w.heap.size (.slice none 0 0) [] := ⟨rfl, .inl ⟨rfl, rfl⟩⟩
/-- tokens behind one's own: append(l, more...) -/
theorem wpList_toks {w : World} {ops : Array Oper} {rest : List Oper} {o : Oper} {a : Act} {Q : Exit → Act → World → Prop} (hgd : o.guard = none) (s x : Operand)
    (ho : o.op = .call { callee := .builtin .append, args := #[s, x], argTypes := #[22, 22] }) (B : Nat) (v : Value) (l : List Tok) (hs : a.eval s = v) (hv : Held w B v l)
    (ao : Option Addr) (m cp : Nat) (l2 : List Tok) (hx : a.eval x = .slice ao m cp) (hnone : ao = none → m = 0 ∧ cp = 0) (hl2 : l2.length = m) (hT : TokAt w ao l2) (hn : l.length + m ≤ 2097152) (hB : B ≤ w.heap.size)
    (h : ∀ v' w', Hid (Held w' B v' (l ++ l2)) → Hid (Fr (fun b => B ≤ b) w w') → wpList Tryz.prog ops Q rest (a.put o.dst v') w') : wpList Tryz.prog ops Q (o :: rest) a w := by
  obtain ⟨⟨i, z, hi, hz, z1, z2, z3⟩, hk⟩ := elem49
  cases ao with
  | none =>
    obtain ⟨rfl, rfl⟩ := hnone rfl
    have e2 : l2 = [] := List.eq_nil_of_length_eq_zero hl2
    subst e2
    refine wpList_append_own_none hgd s x 22 ho B 31 i 4 Tryz.underlying22 hi v l.length (tcells l) hs hv hx ?_
    exact h v w (Lib.hid (by rw [List.append_nil]; exact hv)) (Lib.hid (Fr.refl _ _))
  | some ad =>
    refine wpList_append_own w hgd s x 22 ho B 31 i z 4 40 Tryz.underlying22 hi hz z1 z2 z3 hk v l.length (tcells l) hs hv ad m cp (tcells l2) hx (by rw [tcells_len, hl2]) hT.cells (tok_ones l2) (by unfold maxLen; omega) (by omega) hB ?_
    intro v' w' hown' hg _
    refine h v' w' (Lib.hid ?_) (Lib.hid ⟨hg.os, hg.tape, hg.output, hg.size, fun b hb hn => hg.block b hb fun e => hn (owns_block hv e.symm).1⟩)
    unfold Held
    rw [tcells_append, List.length_append, hl2]
    exact hown'
set_option maxHeartbeats 1000000 in
theorem copied_any (l : List Tok) (a : Option Addr) (n cp : Nat) (w : World) (hl : Hid (l.length = n)) (hn : n ≤ 1048576) (hnone : Hid (a = none → n = 0 ∧ cp = 0)) (hT : Hid (TokAt w a l)) :
    Calls Tryz.prog 5 #[.slice a n cp] w fun e w' => Fr No w w' ∧ ∃ v, e = .returned v ∧ Held w' w.heap.size v l := by
  go_enter Tryz.func5, Tryz.ntmps5
  go_wp2_with (at_builtin; refine wpList_toks rfl _ _ rfl w.heap.size (.slice none 0 0) [] rfl (held_nil w) a n cp l rfl hnone.out hl.out hT.out (by simp; omega) (Nat.le_refl _) ?_; intro v' w' HV HF)
  go_ret
  exact ⟨HF.out.mono (fun i hi h => by omega), v', rfl, HV.out⟩
end Go.Proofs.YtjabhmepafofmaaGreatDoor
namespace Go.Proofs.YtjabhmepafofmaaGreatDoor
open Go.ChangeShapes Go.WideShapes Go.ChangeAt Go.RowKit Go.Deep
section
variable {H : Type} {enc : TypeId × Value → H} {P : Program}
theorem trodAll_stays (hl : laidOutB P = true) {W W' : World} (hb : Below W.heap.size W W') : ∀ (ts : List TypeId) (vs : List Value) (ds : List (DataW H)) (ps : List MemPlace),
    DataW.TrodAll enc P W 0 (fun _ => true) true ts vs ds ps → (ts.all fun t => P.readableRec t && decide (t < P.types.size)) = true → (∀ x ∈ ps, x.block < W.heap.size) →
    DataW.TrodAll enc P W' 0 (fun b => decide (b < W.heap.size)) true ts vs ds ps
  | [], vs, ds, ps, h, _, _ => by
    obtain ⟨rfl, rfl, rfl⟩ := trodAll_nil h
    exact trodAll_mk0
  | t :: ts, vs, ds, ps, h, hr, hlt => by
    obtain ⟨v, vs', d, ds', p, q, rfl, rfl, rfl, h0, h1⟩ := trodAll_cons h
    simp only [List.all_cons, Bool.and_eq_true, decide_eq_true_eq] at hr
    exact trodAll_cons_mk (Below.trod hl hr.1.1 hr.1.2 h0 hb fun x hx => hlt x (List.mem_append_left _ hx))
      (trodAll_stays hl hb ts vs' ds' q h1 (by simpa using hr.2) fun x hx => hlt x (List.mem_append_right _ hx))
theorem shut_true {t : TypeId} {W : World} {b : Nat} {sp : Nat → Bool} {hd : Bool} (ht : P.underlying t = some .bool) : DataW.TrodAll enc P W b sp hd [t] [.bool true] [.lit (.bool true)] [] :=
  trodAll_mk1 (shut_bool ht true)
/-- the post of a law: true; each argument reads as it did -/
theorem law_post (hl : laidOutB P = true) {f : Func} {s : ChangeSpec} {t : TypeId} (hres : f.resultTypes = #[t]) (ht : P.underlying t = some .bool) (hpar : (f.params.toList.all fun t => P.readableRec t && decide (t < P.types.size)) = true)
    (hvars : s.vars = []) {W W' : World} {args : Array Value} {ds gs : List (DataW H)} {before : List MemPlace} (hW : DataW.Whole enc P f.params.toList s.vars false W args.toList ds gs before)
    (hspec : s.fn H (ds ++ gs) = { results := [.lit (.bool true)], args := ds }) (hb : Below W.heap.size W W') :
    s.post enc P f false true false false W args (.bool true) W' := by
  have hlt := hW.lt
  have hW' := hW
  obtain ⟨p, q, hA, hV, rfl, hfz, hnd⟩ := hW
  rw [hvars] at hV
  obtain ⟨rfl, rfl⟩ := trodVars_none hV
  refine ⟨ds, [], _, [], p, [], hW', ?_, ?_, ?_, hb.frame _, fun h => by cases h⟩
  · rw [hspec, hres]
    exact shut_true ht
  · rw [hspec]
    exact trodAll_stays hl hb _ _ _ _ hA hpar fun x hx => hlt x (by simpa using hx)
  · rw [hspec, hvars]
    exact rfl
end
section
variable {H : Type} {enc : TypeId × Value → H} {P : Program} {w : World} {base : Nat} {spare : Nat → Bool} {held : Bool}
/-- a slice of structs whose fields are one cell each -/
theorem open_slice_fields {t e : TypeId} {fs : Array Field} {fuel : Nat} {cs : List Value} {x : DataW H × List MemPlace} (ht : P.underlying t = some (.slice e)) (he : P.underlying e = some (.struct fs))
    (hone : oneCellFields P fs = true) (hC : P.cellsOf e = fs.size) (h : DataW.trod enc P w base spare held fuel t cs = some x) :
    (cs = [.slice none 0 0] ∧ x = (.nil, [])) ∨
    ∃ (a : Addr) (len cap m : Nat) (D : Nat → DataW H) (Pl : Nat → List MemPlace), cs = [.slice (some a) len cap] ∧ base ≤ a.block ∧ len ≤ cap ∧ cap ≤ maxLen ∧ m = (if spare a.block then cap else len) ∧
      x = (.slice ((List.range len).map D) ((List.range (m - len)).map fun j => D (len + j)), MemPlace.row a (m * fs.size) ++ (List.range m).flatMap Pl) ∧
      ∀ i, i < m → ∃ (ys : List (DataW H × List MemPlace)) (n : Nat), D i = .agg (ys.map (·.1)) ∧ Pl i = ys.flatMap (·.2) ∧ ys.length = fs.size ∧
        ∀ (j : Nat) (f : Field), fs[j]? = some f → ∃ (v : Value) (y : DataW H × List MemPlace), w.cell? (a.add (i * fs.size + j)) = some v ∧ ys[j]? = some y ∧ DataW.trod enc P w base spare held n f.type [v] = some y := by
  rcases open_slice ht h with h0 | ⟨a, len, cap, m, n, D, Pl, hcs, hb, hl, hm, hmm, hx, hi⟩
  · exact .inl h0
  · refine .inr ⟨a, len, cap, m, D, Pl, hcs, hb, hl, hm, hmm, by rw [hC] at hx; exact hx, fun i him => ?_⟩
    obtain ⟨cs', hc, ht'⟩ := hi i him
    rw [hC] at hc
    obtain ⟨ys, n', hn', hy, hlen, hyl, hf⟩ := DataW.trod_struct he ht'
    obtain ⟨_, hcl, hat⟩ := World.cells?_some hc
    simp only [Prod.mk.injEq] at hy
    refine ⟨ys, n', hy.1, hy.2, hyl, fun j f hj => ?_⟩
    obtain ⟨ho, hk⟩ := hone_of hone j f hj
    have hjl : j < fs.size := (Array.getElem?_eq_some_iff.1 hj).1
    have hcell := hat j hjl
    have hv : cs'[j]? = some (cs'[j]'(by omega)) := List.getElem?_eq_getElem (by omega)
    have h1 := hf j f hj
    rw [ho, hk] at h1
    have hone' : (cs'.drop j).take 1 = [cs'[j]'(by omega)] := by
      rw [List.drop_eq_getElem_cons (by omega)]
      rfl
    rw [hone'] at h1
    have hys : ys[j]? = some (ys[j]'(by omega)) := List.getElem?_eq_getElem (by omega)
    refine ⟨_, _, ?_, hys, h1.trans hys⟩
    rw [← Go.Deep.add_add, hcell, hv]
/-- an address at which a cell is read, moved on, has no spot of its own -/
theorem plain_addr {a : Addr} {i : Nat} {v : Value} (h : w.cell? (a.add i) = some v) (h0 : ∃ v, w.cell? (a.add 0) = some v) : ∃ b off, a = ⟨b, off, none⟩ ∧ w.cell? ⟨b, off + i, none⟩ = some v := by
  obtain ⟨b, off, sp⟩ := a
  obtain ⟨v0, h0⟩ := h0
  cases sp with
  | none =>
    refine ⟨b, off, rfl, ?_⟩
    rw [← h]
    unfold Addr.add
    split
    · subst_vars; rfl
    · rfl
  | some s =>
    simp only [Addr.add, if_true] at h0
    unfold World.cell? at h0
    split at h0
    · simp at h0
    · cases h0
end
theorem own : ownKnob Tryz.prog.godebug = none := by kernel_rfl
theorem gLevels : Tryz.prog.globalNamed "aumbry/syntax.levels" = some 0 := by kernel_rfl
theorem gLevelsType : (Tryz.prog.globals[0]?).map (·.type) = some 118 := by kernel_rfl
theorem cells118 : Tryz.prog.cellsOf 120 = 2 := by kernel_rfl
theorem cells9 : Tryz.prog.cellsOf 9 = 1 := by kernel_rfl
theorem cells3 : Tryz.prog.cellsOf 3 = 1 := by kernel_rfl
theorem cells22 : Tryz.prog.cellsOf 35 = 1 := by kernel_rfl
theorem cells49 : Tryz.prog.cellsOf 31 = 4 := by kernel_rfl
theorem laidOut : laidOutB Tryz.prog = true := by kernel_rfl
theorem under116 : Tryz.prog.underlying 118 = some (.slice 120) := by kernel_rfl
theorem under118 : ∃ f0 f1 : Field, Tryz.prog.underlying 120 = some (.struct #[f0, f1]) ∧ f0.type = 3 ∧ f0.offset = 0 ∧ f1.type = 35 ∧ f1.offset = 1 := ⟨_, _, Tryz.underlying120, rfl, rfl, rfl, rfl⟩
/-- the table, as plain data -/
def lvs : List (Nat × List (List UInt8)) := [(0, [[58, 61]]), (0, [[60], [60, 61], [62], [62, 61], [61], [60, 62]]), (1, [[94]]), (2, [[43], [45]]), (2, [[42], [100, 105, 118], [109, 111, 100]])]
theorem laid_eq {H : Type} : (Rows.laid_aumbry_syntax_levels : DataW H) = .slice (lvs.map fun x => .agg [.lit (.int .i64 x.1), .slice (x.2.map fun s => .lit (.string s)) []]) [] := rfl
theorem lvs_at : ∀ lv, lv < 5 → ∃ x, lvs[lv]? = some x ∧ x.1 = Gr.rows lv ∧ x.2.map Sc.mk = Gr.ops lv
  | 0, _ => ⟨_, rfl, rfl, rfl⟩
  | 1, _ => ⟨_, rfl, rfl, rfl⟩
  | 2, _ => ⟨_, rfl, rfl, rfl⟩
  | 3, _ => ⟨_, rfl, rfl, rfl⟩
  | 4, _ => ⟨_, rfl, rfl, rfl⟩
  | n + 5, h => by omega
theorem mk_of (s : ByteArray) : Sc.mk s.data.toList = s := by
  cases s
  simp [Sc.mk]
theorem plain_of {w : World} {a : Addr} {i : Nat} {v : Value} (h : w.cell? (a.add i) = some v) (h0 : ∃ v, w.cell? (a.add 0) = some v) : ∃ b off, a = ⟨b, off, none⟩ := by
  obtain ⟨b, off, e, _⟩ := plain_addr h h0
  exact ⟨b, off, e⟩
theorem lv_of {W : World} (h : laidMetH Tryz.prog [("aumbry/syntax.levels", Rows.laid_aumbry_syntax_levels)] W) : LV W := by
  obtain ⟨ps, ⟨g, t, cs, fuel, p, q, hg, ht, hvar, hd, _, _⟩, _⟩ := h
  obtain rfl := Option.some.inj (gLevels.symm.trans hg)
  obtain rfl := Option.some.inj (gLevelsType.symm.trans ht)
  rw [laid_eq] at hd
  rcases open_slice under116 hd with ⟨_, hx⟩ | ⟨a, len, cap, m, n, D, Pl, hcs0, _, hl, _, hm, hx, hi⟩
  · simp at hx
  · simp only [Prod.mk.injEq, DataW.slice.injEq] at hx
    obtain ⟨⟨hD, _⟩, _⟩ := hx
    have hlen : len = 5 := by
      have := congrArg List.length hD
      simpa [lvs] using this.symm
    subst hlen
    have hcs1 : cs = #[.slice (some a) 5 cap] := by
      cases cs
      simpa using hcs0
    subst hcs1
    have h5 : 5 ≤ m := by
      rw [hm]
      split <;> omega
    have elem : ∀ lv, lv < 5 → ∃ x, lvs[lv]? = some x ∧ W.cell? (a.add (lv * 2)) = some (.int .i64 (x.1 : Nat)) ∧ ∃ (a2 : Addr) (c2 : Nat), W.cell? ((a.add (lv * 2)).add 1) = some (.slice (some a2) x.2.length c2) ∧ ∀ (j : Nat) (s : List UInt8), x.2[j]? = some s → W.cell? (a2.add j) = some (.string (Sc.mk s)) := by
      intro lv hlv
      obtain ⟨x, hx, _⟩ := lvs_at lv hlv
      refine ⟨x, hx, ?_⟩
      obtain ⟨cs', hcs, htr⟩ := hi lv (by omega)
      rw [cells118] at hcs
      have hDl : D lv = .agg [.lit (.int .i64 x.1), .slice (x.2.map fun s => .lit (.string s)) []] := by
        have := congrArg (fun l => l[lv]?) hD
        simp only [List.getElem?_map, hx, List.getElem?_range hlv, Option.map_some, Option.some.injEq] at this
        exact this.symm
      rw [hDl] at htr
      obtain ⟨f0, f1, hu, t0, o0, t1, o1⟩ := under118
      obtain ⟨y0, y1, n', hy, _, h0, h1⟩ := trod_struct2 hu htr
      rw [t0, o0, cells3] at h0
      rw [t1, o1, cells22] at h1
      simp only [Prod.mk.injEq, DataW.agg.injEq, List.cons.injEq, and_true] at hy
      obtain ⟨⟨hy0, hy1⟩, _⟩ := hy
      obtain ⟨_, hcl, hat⟩ := World.cells?_some hcs
      match cs', hcl with
      | [c0, c1], _ =>
        have e0 := hat 0 (by decide)
        have e1 := hat 1 (by decide)
        obtain ⟨k0, hk0, hk1, _⟩ := DataW.trod_int Tryz.underlying3 h0
        simp only [List.drop_zero, List.take_succ_cons, List.take_zero, List.cons.injEq, and_true] at hk0
        subst hk0
        have hk2 : y0.1 = .lit (.int .i64 k0) := by rw [hk1]
        rw [hk2] at hy0
        simp only [DataW.lit.injEq, Lit.int.injEq, true_and] at hy0
        obtain ⟨yy, yp⟩ := y1
        simp only at hy1
        subst hy1
        obtain ⟨a2, c2, hcs2, _, hi2⟩ := open_row Tryz.underlying35 cells9 h1
        simp only [List.drop_succ_cons, List.drop_zero, List.take_succ_cons, List.take_zero, List.cons.injEq, and_true, List.length_map] at hcs2
        subst hcs2
        have ea0 : W.cell? ((a.add (lv * 2)).add 0) = W.cell? (a.add (lv * 2)) := by
          have : (a.add (lv * 2)).add 0 = a.add (lv * 2) := by
            unfold Addr.add
            simp
          rw [this]
        refine ⟨?_, a2, c2, by rw [e1]; rfl, fun j s hj => ?_⟩
        · rw [← ea0, e0, hy0]
          rfl
        · obtain ⟨v, n2, q2, hv, ht2⟩ := hi2 j (.lit (.string s)) (by rw [List.getElem?_map, hj]; rfl)
          obtain ⟨s2, hs2, hd2, _⟩ := DataW.trod_string Tryz.underlying9 ht2
          simp only [List.cons.injEq, and_true] at hs2
          subst hs2
          simp only [Prod.mk.injEq, DataW.lit.injEq, Lit.string.injEq] at hd2
          rw [hv, hd2.1, mk_of]
    have hvar0 : W.cell? ⟨0, 0, none⟩ = some (.slice (some a) 5 cap) := by
      rw [World.var?_cell gLevels hvar 0]
      rfl
    obtain ⟨x0, _, hc0, _, _, hc1, _⟩ := elem 0 (by decide)
    have hz0 : W.cell? (a.add 0) = some (.int .i64 (x0.1 : Nat)) := by simpa using hc0
    obtain ⟨b, off, rfl⟩ := plain_of hz0 ⟨_, hz0⟩
    intro gp hgp
    have lt : ∀ {b o : Nat} {v : Value}, W.cell? ⟨b, o, none⟩ = some v → b < W.heap.size := fun h => World.block_lt_of_cell? W _ h
    have hb := lt (b := b) (o := off) (by rw [show (⟨b, off, none⟩ : Addr).add 0 = ⟨b, off, none⟩ by rw [addr_add]; simp] at hz0; exact hz0)
    have h0lt := lt hvar0
    refine ⟨by omega, b, off, cap, hvar0, by omega, fun lv hlv => ?_⟩
    obtain ⟨x, hx, c0, a2, c2, c1, hs⟩ := elem lv hlv
    obtain ⟨x', hx', hr, ho⟩ := lvs_at lv hlv
    rw [hx] at hx'
    cases hx'
    rw [addr_add] at c0 c1
    rw [addr_add] at c1
    refine ⟨some a2, c2, by rw [← hr]; exact c0, by rw [← ho, List.length_map]; exact c1, fun j s hj => ?_⟩
    rw [← ho, List.getElem?_map] at hj
    obtain ⟨s', hs', rfl⟩ := Option.map_eq_some_iff.1 hj
    obtain ⟨s0, hs0⟩ : ∃ s0, x.2[0]? = some s0 := ⟨_, List.getElem?_eq_getElem (by have := (List.getElem?_eq_some_iff.1 hs').1; omega)⟩
    have hc := hs j s' hs'
    obtain ⟨b2, off2, rfl⟩ := plain_of hc ⟨_, hs 0 s0 hs0⟩
    rw [addr_add] at hc
    have := lt hc
    exact ⟨b2, off2, rfl, by omega, hc⟩
end Go.Proofs.YtjabhmepafofmaaGreatDoor
namespace Go.Proofs.YtjabhmepafofmaaGreatDoor
open Go.ChangeShapes Go.WideShapes Go.ChangeAt Go.RowKit Go.Deep
theorem under49 : ∃ f0 f1 f2 f3 : Field, Tryz.prog.underlying 31 = some (.struct #[f0, f1, f2, f3]) ∧ oneCellFields Tryz.prog #[f0, f1, f2, f3] = true ∧ f0.type = 5 ∧ f1.type = 9 ∧ f2.type = 2 ∧ f3.type = 3 := ⟨_, _, _, _, Tryz.underlying31, by kernel_rfl, rfl, rfl, rfl, rfl⟩
set_option maxRecDepth 100000 in
theorem open_toks {H : Type} {enc : TypeId × Value → H} {W : World} {base b0 : Nat} {r : Reach} {v : Value} {d : DataW H} {p : List MemPlace} (hv : Value.okWide Tryz.prog W r b0 22 v)
    (h : DataW.Trod enc Tryz.prog W base (fun _ => true) true 22 v d p) : ∃ (a : Option Addr) (cap : Nat) (l : List Tok), v = .slice a l.length cap ∧ TokAt W a l ∧ l.length ≤ cap ∧ cap ≤ maxLen ∧ (a = none → l.length = 0 ∧ cap = 0) := by
  obtain ⟨a0, len, cap, rfl⟩ := okWide_slice Tryz.underlying22 hv
  obtain ⟨fuel, hf⟩ := h
  obtain ⟨f0, f1, f2, f3, hu, hone, t0, t1, t2, t3⟩ := under49
  rcases open_slice_fields Tryz.underlying22 hu hone cells49 hf with ⟨hcs, _⟩ | ⟨a, len', cap', m, D, Pl, hcs, _, hl, hcm, hm, _, hi⟩
  · simp only [Value.cells, List.cons.injEq, Value.slice.injEq] at hcs
    obtain ⟨⟨rfl, rfl, rfl⟩, _⟩ := hcs
    exact ⟨none, 0, [], rfl, fun i x hx => by simp at hx, Nat.le_refl _, Nat.zero_le _, fun _ => ⟨rfl, rfl⟩⟩
  · simp only [Value.cells, List.cons.injEq, Value.slice.injEq] at hcs
    obtain ⟨⟨rfl, rfl, rfl⟩, _⟩ := hcs
    simp only [if_true] at hm
    have key : ∀ j, j < len → ∃ t : Tok, W.cell? (a.add (j * 4)) = some (.int .u8 t.kind) ∧ W.cell? (a.add (j * 4 + 1)) = some (.string t.text) ∧ W.cell? (a.add (j * 4 + 2)) = some (.int .i64 t.num) ∧ W.cell? (a.add (j * 4 + 3)) = some (.int .i64 t.pos) := by
      intro j hj
      obtain ⟨ys, n, _, _, _, hfs⟩ := hi j (by omega)
      obtain ⟨v0, y0, c0, _, r0⟩ := hfs 0 f0 rfl
      obtain ⟨v1, y1, c1, _, r1⟩ := hfs 1 f1 rfl
      obtain ⟨v2, y2, c2, _, r2⟩ := hfs 2 f2 rfl
      obtain ⟨v3, y3, c3, _, r3⟩ := hfs 3 f3 rfl
      rw [t0] at r0
      rw [t1] at r1
      rw [t2] at r2
      rw [t3] at r3
      obtain ⟨k, e0, _, hw⟩ := DataW.trod_int Tryz.underlying5 r0
      obtain ⟨s, e1, _⟩ := DataW.trod_string Tryz.underlying9 r1
      obtain ⟨x, e2, _⟩ := DataW.trod_int Tryz.underlying2 r2
      obtain ⟨y, e3, _⟩ := DataW.trod_int Tryz.underlying3 r3
      simp only [List.cons.injEq, and_true] at e0 e1 e2 e3
      subst e0 e1 e2 e3
      have hb : 0 ≤ k := by
        have h1 : IntKind.u8.min ≤ k ∧ k ≤ IntKind.u8.max := by simpa [Lit.wf] using hw
        have e1 : IntKind.u8.min = 0 := rfl
        omega
      exact ⟨⟨k.toNat, s, x, y⟩, by rw [show ((k.toNat : Nat) : Int) = k by omega]; exact c0, c1, c2, c3⟩
    obtain ⟨l, hl1, hl2⟩ := list_of len key
    refine ⟨some a, cap, l, by rw [hl1], fun j t hj => ?_, by omega, hcm, fun e => by cases e⟩
    obtain ⟨c0, c1, c2, c3⟩ := hl2 j t hj
    have hj0 := (List.getElem?_eq_some_iff.1 hj).1
    obtain ⟨t', ht'⟩ : ∃ t', l[0]? = some t' := ⟨_, List.getElem?_eq_getElem (by omega)⟩
    have h00 := (hl2 0 t' ht').1
    obtain ⟨b, off, rfl⟩ := plain_of c0 ⟨_, by rw [Nat.zero_mul] at h00; exact h00⟩
    rw [addr_add] at c0 c1 c2 c3
    exact ⟨b, off, rfl, World.block_lt_of_cell? W _ c0, c0, c1, c2, c3⟩
end Go.Proofs.YtjabhmepafofmaaGreatDoor
namespace Go.Proofs.YtjabhmepafofmaaGreatDoor
open Go.RowKit
/-- where it came to an end -/
def Re.stop {α : Type} : Re α → Nat
  | .ok _ q => q
  | .fail q => q
  | .out => 0
theorem run_le (l : List Tok) {α : Type} : ∀ (m : Pr α) (p : Nat), m.run l p ≠ .out → p ≤ (m.run l p).stop
  | .ret a, p, h => Nat.le_refl _
  | .fail, p, h => Nat.le_refl _
  | .out, p, h => absurd rfl h
  | .look f, p, h => run_le l (f (l.getD p zTok)) p h
  | .adv m, p, h => by
    have := run_le l m (p + 1) h
    have e : (Pr.adv m).run l p = m.run l (p + 1) := rfl
    rw [e]
    omega
/-- what has been read says it all -/
theorem run_agree (l l2 : List Tok) {α : Type} : ∀ (m : Pr α) (p : Nat), m.run l p ≠ .out → (∀ i, i ≤ (m.run l p).stop → l.getD i zTok = l2.getD i zTok) → m.run l2 p = m.run l p
  | .ret a, p, h, _ => rfl
  | .fail, p, h, _ => rfl
  | .out, p, h, _ => rfl
  | .look f, p, h, hi => by
    have e : (Pr.look f).run l p = (f (l.getD p zTok)).run l p := rfl
    have e2 : (Pr.look f).run l2 p = (f (l2.getD p zTok)).run l2 p := rfl
    rw [e] at h hi ⊢
    rw [e2, ← hi p (run_le l _ p h)]
    exact run_agree l l2 _ p h hi
  | .adv m, p, h, hi => run_agree l l2 m (p + 1) h hi
theorem must_stop (l : List Tok) (s : ByteArray) (p : Nat) : (must s).run l p = .ok () (p + 1) ∨ (must s).run l p = .fail p := by
  simp only [must, Pr.run]
  split
  · exact .inl rfl
  · exact .inr rfl
theorem progR_le {l : List Tok} {g : Gr} : ∀ (N : Nat) (acc : List D) (p q : Nat), progR l g N acc p = .fail q → p ≤ q
  | 0, acc, p, q, h => by cases h
  | N + 1, acc, p, q, h => by
    simp only [progR] at h
    split at h
    · cases hr : (g.dec true).run l p with
      | out => rw [hr] at h; cases h
      | fail r =>
        rw [hr] at h
        have := run_le l (g.dec true) p (by rw [hr]; exact fun e => by cases e)
        rw [hr] at this
        cases h
        exact this
      | ok d r =>
        have h1 := run_mono l _ _ _ _ hr
        rw [hr] at h
        simp only [Re.andThen] at h
        rcases must_stop l ⟨#[59]⟩ r with hm | hm
        · rw [hm] at h
          have := progR_le N _ _ _ h
          omega
        · rw [hm] at h
          cases h
          exact h1
    · cases h
/-- a token that is in the way is so whatever stands behind it -/
theorem progR_agree {l l2 : List Tok} {g : Gr} : ∀ (N : Nat) (acc : List D) (p q : Nat), progR l g N acc p = .fail q → q < l2.length → (∀ i, i ≤ q → l.getD i zTok = l2.getD i zTok) → progR l2 g N acc p = .fail q
  | 0, acc, p, q, h, _, _ => by cases h
  | N + 1, acc, p, q, h, hq, hi => by
    have hpq := progR_le (N + 1) acc p q h
    simp only [progR] at h ⊢
    rw [if_pos (show p < l2.length by omega)]
    split at h
    · cases hr : (g.dec true).run l p with
      | out => rw [hr] at h; cases h
      | fail r =>
        have hr2 := run_agree l l2 (g.dec true) p (by rw [hr]; exact fun e => by cases e)
        rw [hr] at h hr2
        cases h
        rw [hr2 hi]
        rfl
      | ok d r =>
        have hr2 := run_agree l l2 (g.dec true) p (by rw [hr]; exact fun e => by cases e)
        rw [hr] at h hr2
        simp only [Re.andThen] at h
        rcases must_stop l ⟨#[59]⟩ r with hm | hm
        · rw [hm] at h
          have h1 := progR_le N _ _ _ h
          have hm2 := run_agree l l2 (must ⟨#[59]⟩) r (by rw [hm]; exact fun e => by cases e)
          rw [hm] at hm2
          rw [hr2 (fun i hx => hi i (by have : i ≤ r := hx; omega))]
          simp only [Re.andThen]
          rw [hm2 (fun i hx => hi i (by have : i ≤ r + 1 := hx; omega))]
          exact progR_agree N _ _ _ h hq hi
        · rw [hm] at h
          have hm2 := run_agree l l2 (must ⟨#[59]⟩) r (by rw [hm]; exact fun e => by cases e)
          rw [hm] at hm2
          cases h
          rw [hr2 (fun i hx => hi i hx)]
          simp only [Re.andThen]
          rw [hm2 (fun i hx => hi i hx)]
    · cases h
/-- what a program comes to, with fuel enough -/
def EndR (l : List Tok) (acc : List D) (p : Nat) : Re (List D) → Prop
  | .ok ds q => q = l.length ∧ ∃ r, ds = acc ++ r ∧ (p < l.length → r ≠ [])
  | .fail q => q ≤ l.length
  | .out => False
theorem progR_end {l : List Tok} {n : Nat} (hn : l.length * 40 + 1 ≤ n) : ∀ (N : Nat) (acc : List D) (p : Nat), p ≤ l.length → l.length + 1 ≤ N + p → EndR l acc p (progR l (gram n) N acc p)
  | 0, acc, p, hp, hN => by omega
  | N + 1, acc, p, hp, hN => by
    simp only [progR]
    split
    · rename_i hlt
      have hd := ((enough l n).dec true p hp (by omega)).out
      cases hr : ((gram n).dec true).run l p with
      | out => rw [hr] at hd; exact hd.elim
      | fail r => rw [hr] at hd; exact hd
      | ok d r =>
        rw [hr] at hd
        obtain ⟨h1, h2⟩ := hd
        simp only [Re.andThen]
        cases hs : seesB (l.getD r zTok) [⟨#[59]⟩] with
        | false =>
          have hm : (must ⟨#[59]⟩).run l r = .fail r := by simp only [must, Pr.run, hs, Bool.false_eq_true, if_false]
          rw [hm]
          exact h2
        | true =>
          have hm : (must ⟨#[59]⟩).run l r = .ok () (r + 1) := by simp only [must, Pr.run, hs, if_true]
          rw [hm]
          have h3 := lt_of_sees hs
          have ih := progR_end hn N (acc ++ [d]) (r + 1) h3 (by omega)
          simp only
          cases hx : progR l (gram n) N (acc ++ [d]) (r + 1) with
          | out => rw [hx] at ih; exact ih.elim
          | fail q => rw [hx] at ih; exact ih
          | ok ds q =>
            rw [hx] at ih
            obtain ⟨h4, x, h5, _⟩ := ih
            exact ⟨h4, d :: x, by rw [h5, List.append_assoc]; rfl, fun _ => by simp⟩
    · exact ⟨by omega, [], by simp, fun h => absurd h (by assumption)⟩
theorem getD_take {l : List Tok} {n i : Nat} (h : i < n) : (l.take n).getD i zTok = l.getD i zTok := by
  simp only [List.getD_eq_getElem?_getD, List.getElem?_take_of_lt h]
theorem getD_left {l m : List Tok} {i : Nat} (h : i < l.length) : (l ++ m).getD i zTok = l.getD i zTok := by
  simp only [List.getD_eq_getElem?_getD, List.getElem?_append_left h]
section
variable {n M : Nat}
/-- a token in the way is so whatever stands behind it -/
theorem ahead_more {l more : List Tok} {k : Nat} (h : progR l (gram n) M [] 0 = .fail k) (hk : k < l.length) : progR (l.take (k + 1) ++ more) (gram n) M [] 0 = .fail k := by
  refine progR_agree M [] 0 k h (by simp; omega) fun i hi => ?_
  rw [getD_left (by simp; omega), getD_take (by omega)]
/-- what stands ahead of it is a program's beginning: nothing is in the way but the end -/
theorem ahead_cut {l : List Tok} {c k : Nat} (hc : c ≤ l.length) (hn : l.length * 40 + 1 ≤ n) (hM : l.length + 1 ≤ M) (hcut : ∀ q, progR l (gram n) M [] 0 = .fail q → c ≤ q) (h : progR (l.take c) (gram n) M [] 0 = .fail k) : k = c := by
  have hl : (l.take c).length = c := by simp; omega
  have he := progR_end (l := l.take c) (n := n) (by omega) M [] 0 (Nat.zero_le _) (by omega)
  rw [h] at he
  have he : k ≤ (l.take c).length := he
  rcases Nat.lt_or_ge k c with hlt | hge
  · have := hcut k (progR_agree M [] 0 k h (by omega) fun i hi => getD_take (by omega))
    omega
  · omega
end
end Go.Proofs.YtjabhmepafofmaaGreatDoor
