/- A law's post; what comes in: tokens, the table of levels. -/
import Derived.Test.YtjabhmepafofmaaDoorG24
import Derived.Test.YtjabhmepafofmaaDoorG13
import Derived.WalkKit
import Derived.ProofKit
import Derived.OpenShut
import Derived.Deep.Slices
import Derived.Deep.Fields
import Derived.Deep.DeepHandedRow
import Derived.Lib.LaidTab
import Derived.LaidMore
import Derived.ChangeMaps5
import Derived.ChangeSame
set_option linter.unusedVariables false
set_option linter.unusedSimpArgs false
namespace Go.Proofs.YtjabhmepafofmaaDoor
open Go.ChangeShapes Go.WideShapes Go.ChangeAt Go.RowKit Go.Deep
section
variable {H : Type} {enc : TypeId × Value → H} {P : Program}
theorem trodAll_stays (hl : laidOutB P = true) {W W' : World} (hb : Below W.heap.size W W') : ∀ (ts : List TypeId) (vs : List Value) (ds : List (DataW H)) (ps : List MemPlace),
    DataW.TrodAll enc P W 0 (fun _ => true) true ts vs ds ps → (ts.all fun t => P.readableRec t && decide (t < P.types.size)) = true → (∀ x ∈ ps, x.block < W.heap.size) →
    DataW.TrodAll enc P W' 0 (fun b => decide (b < W.heap.size)) true ts vs ds ps
  | [], vs, ds, ps, h, _, _ => by
    obtain ⟨rfl, rfl, rfl⟩ := trodAll_nil h
    exact trodAll_mk0
  | t :: ts, vs, ds, ps, h, hr, hlt => by
    obtain ⟨v, vs', d, ds', p, q, rfl, rfl, rfl, h0, h1⟩ := trodAll_cons h
    simp only [List.all_cons, Bool.and_eq_true, decide_eq_true_eq] at hr
    exact trodAll_cons_mk (Below.trod hl hr.1.1 hr.1.2 h0 hb fun x hx => hlt x (List.mem_append_left _ hx))
      (trodAll_stays hl hb ts vs' ds' q h1 (by simpa using hr.2) fun x hx => hlt x (List.mem_append_right _ hx))
theorem shut_true {t : TypeId} {W : World} {b : Nat} {sp : Nat → Bool} {hd : Bool} (ht : P.underlying t = some .bool) : DataW.TrodAll enc P W b sp hd [t] [.bool true] [.lit (.bool true)] [] :=
  trodAll_mk1 (shut_bool ht true)
/-- the post of a law: true; each argument reads as it did -/
theorem law_post (hl : laidOutB P = true) {f : Func} {s : ChangeSpec} {t : TypeId} (hres : f.resultTypes = #[t]) (ht : P.underlying t = some .bool) (hpar : (f.params.toList.all fun t => P.readableRec t && decide (t < P.types.size)) = true)
    (hvars : s.vars = []) {W W' : World} {args : Array Value} {ds gs : List (DataW H)} {before : List MemPlace} (hW : DataW.Whole enc P f.params.toList s.vars false W args.toList ds gs before)
    (hspec : s.fn H (ds ++ gs) = { results := [.lit (.bool true)], args := ds }) (hb : Below W.heap.size W W') :
    s.post enc P f false true false false W args (.bool true) W' := by
  have hlt := hW.lt
  have hW' := hW
  obtain ⟨p, q, hA, hV, rfl, hfz, hnd⟩ := hW
  rw [hvars] at hV
  obtain ⟨rfl, rfl⟩ := trodVars_none hV
  refine ⟨ds, [], _, [], p, [], hW', ?_, ?_, ?_, hb.frame _, fun h => by cases h⟩
  · rw [hspec, hres]
    exact shut_true ht
  · rw [hspec]
    exact trodAll_stays hl hb _ _ _ _ hA hpar fun x hx => hlt x (by simpa using hx)
  · rw [hspec, hvars]
    exact rfl
end

section
variable {H : Type} {enc : TypeId × Value → H} {P : Program} {w : World} {base : Nat} {spare : Nat → Bool} {held : Bool}
/-- a slice of structs whose fields are one cell each -/
theorem open_slice_fields {t e : TypeId} {fs : Array Field} {fuel : Nat} {cs : List Value} {x : DataW H × List MemPlace} (ht : P.underlying t = some (.slice e)) (he : P.underlying e = some (.struct fs))
    (hone : oneCellFields P fs = true) (hC : P.cellsOf e = fs.size) (h : DataW.trod enc P w base spare held fuel t cs = some x) :
    (cs = [.slice none 0 0] ∧ x = (.nil, [])) ∨
    ∃ (a : Addr) (len cap m : Nat) (D : Nat → DataW H) (Pl : Nat → List MemPlace), cs = [.slice (some a) len cap] ∧ base ≤ a.block ∧ len ≤ cap ∧ cap ≤ maxLen ∧ m = (if spare a.block then cap else len) ∧
      x = (.slice ((List.range len).map D) ((List.range (m - len)).map fun j => D (len + j)), MemPlace.row a (m * fs.size) ++ (List.range m).flatMap Pl) ∧
      ∀ i, i < m → ∃ (ys : List (DataW H × List MemPlace)) (n : Nat), D i = .agg (ys.map (·.1)) ∧ Pl i = ys.flatMap (·.2) ∧ ys.length = fs.size ∧
        ∀ (j : Nat) (f : Field), fs[j]? = some f → ∃ (v : Value) (y : DataW H × List MemPlace), w.cell? (a.add (i * fs.size + j)) = some v ∧ ys[j]? = some y ∧ DataW.trod enc P w base spare held n f.type [v] = some y := by
  rcases open_slice ht h with h0 | ⟨a, len, cap, m, n, D, Pl, hcs, hb, hl, hm, hmm, hx, hi⟩
  · exact .inl h0
  · refine .inr ⟨a, len, cap, m, D, Pl, hcs, hb, hl, hm, hmm, by rw [hC] at hx; exact hx, fun i him => ?_⟩
    obtain ⟨cs', hc, ht'⟩ := hi i him
    rw [hC] at hc
    obtain ⟨ys, n', hn', hy, hlen, hyl, hf⟩ := DataW.trod_struct he ht'
    obtain ⟨_, hcl, hat⟩ := World.cells?_some hc
    simp only [Prod.mk.injEq] at hy
    refine ⟨ys, n', hy.1, hy.2, hyl, fun j f hj => ?_⟩
    obtain ⟨ho, hk⟩ := hone_of hone j f hj
    have hjl : j < fs.size := (Array.getElem?_eq_some_iff.1 hj).1
    have hcell := hat j hjl
    have hv : cs'[j]? = some (cs'[j]'(by omega)) := List.getElem?_eq_getElem (by omega)
    have h1 := hf j f hj
    rw [ho, hk] at h1
    have hone' : (cs'.drop j).take 1 = [cs'[j]'(by omega)] := by
      rw [List.drop_eq_getElem_cons (by omega)]
      rfl
    rw [hone'] at h1
    have hys : ys[j]? = some (ys[j]'(by omega)) := List.getElem?_eq_getElem (by omega)
    refine ⟨_, _, ?_, hys, h1.trans hys⟩
    rw [← Go.Deep.add_add, hcell, hv]
/-- an address at which a cell is read, moved on, has no spot of its own -/
theorem plain_addr {a : Addr} {i : Nat} {v : Value} (h : w.cell? (a.add i) = some v) (h0 : ∃ v, w.cell? (a.add 0) = some v) : ∃ b off, a = ⟨b, off, none⟩ ∧ w.cell? ⟨b, off + i, none⟩ = some v := by
  obtain ⟨b, off, sp⟩ := a
  obtain ⟨v0, h0⟩ := h0
  cases sp with
  | none =>
    refine ⟨b, off, rfl, ?_⟩
    rw [← h]
    unfold Addr.add
    split
    · subst_vars; rfl
    · rfl
  | some s =>
    simp only [Addr.add, if_true] at h0
    unfold World.cell? at h0
    split at h0
    · simp at h0
    · cases h0
end
theorem own : ownKnob Tryd.prog.godebug = none := by kernel_rfl
theorem gLevels : Tryd.prog.globalNamed "aumbry/syntax.levels" = some 0 := by kernel_rfl
theorem gLevelsType : (Tryd.prog.globals[0]?).map (·.type) = some 116 := by kernel_rfl
theorem cells118 : Tryd.prog.cellsOf 118 = 2 := by kernel_rfl
theorem cells9 : Tryd.prog.cellsOf 9 = 1 := by kernel_rfl
theorem cells3 : Tryd.prog.cellsOf 3 = 1 := by kernel_rfl
theorem cells22 : Tryd.prog.cellsOf 22 = 1 := by kernel_rfl
theorem cells49 : Tryd.prog.cellsOf 49 = 4 := by kernel_rfl
theorem laidOut : laidOutB Tryd.prog = true := by kernel_rfl
theorem under116 : Tryd.prog.underlying 116 = some (.slice 118) := by kernel_rfl
theorem under118 : ∃ f0 f1 : Field, Tryd.prog.underlying 118 = some (.struct #[f0, f1]) ∧ f0.type = 3 ∧ f0.offset = 0 ∧ f1.type = 22 ∧ f1.offset = 1 := ⟨_, _, Tryd.underlying118, rfl, rfl, rfl, rfl⟩
/-- the table, as plain data -/
def lvs : List (Nat × List (List UInt8)) := [(0, [[58, 61]]), (0, [[60], [60, 61], [62], [62, 61], [61], [60, 62]]), (1, [[94]]), (2, [[43], [45]]), (2, [[42], [100, 105, 118], [109, 111, 100]])]
theorem laid_eq {H : Type} : (Rows.laid_aumbry_syntax_levels : DataW H) = .slice (lvs.map fun x => .agg [.lit (.int .i64 x.1), .slice (x.2.map fun s => .lit (.string s)) []]) [] := rfl
theorem lvs_at : ∀ lv, lv < 5 → ∃ x, lvs[lv]? = some x ∧ x.1 = Gr.rows lv ∧ x.2.map Sc.mk = Gr.ops lv
  | 0, _ => ⟨_, rfl, rfl, rfl⟩
  | 1, _ => ⟨_, rfl, rfl, rfl⟩
  | 2, _ => ⟨_, rfl, rfl, rfl⟩
  | 3, _ => ⟨_, rfl, rfl, rfl⟩
  | 4, _ => ⟨_, rfl, rfl, rfl⟩
  | n + 5, h => by omega
theorem mk_of (s : ByteArray) : Sc.mk s.data.toList = s := by
  cases s
  simp [Sc.mk]
theorem plain_of {w : World} {a : Addr} {i : Nat} {v : Value} (h : w.cell? (a.add i) = some v) (h0 : ∃ v, w.cell? (a.add 0) = some v) : ∃ b off, a = ⟨b, off, none⟩ := by
  obtain ⟨b, off, e, _⟩ := plain_addr h h0
  exact ⟨b, off, e⟩
theorem lv_of {W : World} (h : laidMetH Tryd.prog [("aumbry/syntax.levels", Rows.laid_aumbry_syntax_levels)] W) : LV W := by
  obtain ⟨ps, ⟨g, t, cs, fuel, p, q, hg, ht, hvar, hd, _, _⟩, _⟩ := h
  obtain rfl := Option.some.inj (gLevels.symm.trans hg)
  obtain rfl := Option.some.inj (gLevelsType.symm.trans ht)
  rw [laid_eq] at hd
  rcases open_slice under116 hd with ⟨_, hx⟩ | ⟨a, len, cap, m, n, D, Pl, hcs0, _, hl, _, hm, hx, hi⟩
  · simp at hx
  · simp only [Prod.mk.injEq, DataW.slice.injEq] at hx
    obtain ⟨⟨hD, _⟩, _⟩ := hx
    have hlen : len = 5 := by
      have := congrArg List.length hD
      simpa [lvs] using this.symm
    subst hlen
    have hcs1 : cs = #[.slice (some a) 5 cap] := by
      cases cs
      simpa using hcs0
    subst hcs1
    have h5 : 5 ≤ m := by
      rw [hm]
      split <;> omega
    have elem : ∀ lv, lv < 5 → ∃ x, lvs[lv]? = some x ∧ W.cell? (a.add (lv * 2)) = some (.int .i64 (x.1 : Nat)) ∧ ∃ (a2 : Addr) (c2 : Nat), W.cell? ((a.add (lv * 2)).add 1) = some (.slice (some a2) x.2.length c2) ∧ ∀ (j : Nat) (s : List UInt8), x.2[j]? = some s → W.cell? (a2.add j) = some (.string (Sc.mk s)) := by
      intro lv hlv
      obtain ⟨x, hx, _⟩ := lvs_at lv hlv
      refine ⟨x, hx, ?_⟩
      obtain ⟨cs', hcs, htr⟩ := hi lv (by omega)
      rw [cells118] at hcs
      have hDl : D lv = .agg [.lit (.int .i64 x.1), .slice (x.2.map fun s => .lit (.string s)) []] := by
        have := congrArg (fun l => l[lv]?) hD
        simp only [List.getElem?_map, hx, List.getElem?_range hlv, Option.map_some, Option.some.injEq] at this
        exact this.symm
      rw [hDl] at htr
      obtain ⟨f0, f1, hu, t0, o0, t1, o1⟩ := under118
      obtain ⟨y0, y1, n', hy, _, h0, h1⟩ := trod_struct2 hu htr
      rw [t0, o0, cells3] at h0
      rw [t1, o1, cells22] at h1
      simp only [Prod.mk.injEq, DataW.agg.injEq, List.cons.injEq, and_true] at hy
      obtain ⟨⟨hy0, hy1⟩, _⟩ := hy
      obtain ⟨_, hcl, hat⟩ := World.cells?_some hcs
      match cs', hcl with
      | [c0, c1], _ =>
        have e0 := hat 0 (by decide)
        have e1 := hat 1 (by decide)
        obtain ⟨k0, hk0, hk1, _⟩ := DataW.trod_int Tryd.underlying3 h0
        simp only [List.drop_zero, List.take_succ_cons, List.take_zero, List.cons.injEq, and_true] at hk0
        subst hk0
        have hk2 : y0.1 = .lit (.int .i64 k0) := by rw [hk1]
        rw [hk2] at hy0
        simp only [DataW.lit.injEq, Lit.int.injEq, true_and] at hy0
        obtain ⟨yy, yp⟩ := y1
        simp only at hy1
        subst hy1
        obtain ⟨a2, c2, hcs2, _, hi2⟩ := open_row Tryd.underlying22 cells9 h1
        simp only [List.drop_succ_cons, List.drop_zero, List.take_succ_cons, List.take_zero, List.cons.injEq, and_true, List.length_map] at hcs2
        subst hcs2
        have ea0 : W.cell? ((a.add (lv * 2)).add 0) = W.cell? (a.add (lv * 2)) := by
          have : (a.add (lv * 2)).add 0 = a.add (lv * 2) := by
            unfold Addr.add
            simp
          rw [this]
        refine ⟨?_, a2, c2, by rw [e1]; rfl, fun j s hj => ?_⟩
        · rw [← ea0, e0, hy0]
          rfl
        · obtain ⟨v, n2, q2, hv, ht2⟩ := hi2 j (.lit (.string s)) (by rw [List.getElem?_map, hj]; rfl)
          obtain ⟨s2, hs2, hd2, _⟩ := DataW.trod_string Tryd.underlying9 ht2
          simp only [List.cons.injEq, and_true] at hs2
          subst hs2
          simp only [Prod.mk.injEq, DataW.lit.injEq, Lit.string.injEq] at hd2
          rw [hv, hd2.1, mk_of]
    have hvar0 : W.cell? ⟨0, 0, none⟩ = some (.slice (some a) 5 cap) := by
      rw [World.var?_cell gLevels hvar 0]
      rfl
    obtain ⟨x0, _, hc0, _, _, hc1, _⟩ := elem 0 (by decide)
    have hz0 : W.cell? (a.add 0) = some (.int .i64 (x0.1 : Nat)) := by simpa using hc0
    obtain ⟨b, off, rfl⟩ := plain_of hz0 ⟨_, hz0⟩
    intro gp hgp
    have lt : ∀ {b o : Nat} {v : Value}, W.cell? ⟨b, o, none⟩ = some v → b < W.heap.size := fun h => World.block_lt_of_cell? W _ h
    have hb := lt (b := b) (o := off) (by rw [show (⟨b, off, none⟩ : Addr).add 0 = ⟨b, off, none⟩ by rw [addr_add]; simp] at hz0; exact hz0)
    have h0lt := lt hvar0
    refine ⟨by omega, b, off, cap, hvar0, by omega, fun lv hlv => ?_⟩
    obtain ⟨x, hx, c0, a2, c2, c1, hs⟩ := elem lv hlv
    obtain ⟨x', hx', hr, ho⟩ := lvs_at lv hlv
    rw [hx] at hx'
    cases hx'
    rw [addr_add] at c0 c1
    rw [addr_add] at c1
    refine ⟨some a2, c2, by rw [← hr]; exact c0, by rw [← ho, List.length_map]; exact c1, fun j s hj => ?_⟩
    rw [← ho, List.getElem?_map] at hj
    obtain ⟨s', hs', rfl⟩ := Option.map_eq_some_iff.1 hj
    obtain ⟨s0, hs0⟩ : ∃ s0, x.2[0]? = some s0 := ⟨_, List.getElem?_eq_getElem (by have := (List.getElem?_eq_some_iff.1 hs').1; omega)⟩
    have hc := hs j s' hs'
    obtain ⟨b2, off2, rfl⟩ := plain_of hc ⟨_, hs 0 s0 hs0⟩
    rw [addr_add] at hc
    have := lt hc
    exact ⟨b2, off2, rfl, by omega, hc⟩
end Go.Proofs.YtjabhmepafofmaaDoor
namespace Go.Proofs.YtjabhmepafofmaaDoor
open Go.ChangeShapes Go.WideShapes Go.ChangeAt Go.RowKit Go.Deep

theorem under49 : ∃ f0 f1 f2 f3 : Field, Tryd.prog.underlying 49 = some (.struct #[f0, f1, f2, f3]) ∧ oneCellFields Tryd.prog #[f0, f1, f2, f3] = true ∧ f0.type = 5 ∧ f1.type = 9 ∧ f2.type = 2 ∧ f3.type = 3 := ⟨_, _, _, _, Tryd.underlying49, by kernel_rfl, rfl, rfl, rfl, rfl⟩
set_option maxRecDepth 100000 in
theorem open_toks {H : Type} {enc : TypeId × Value → H} {W : World} {base b0 : Nat} {r : Reach} {v : Value} {d : DataW H} {p : List MemPlace} (hv : Value.okWide Tryd.prog W r b0 27 v)
    (h : DataW.Trod enc Tryd.prog W base (fun _ => true) true 27 v d p) : ∃ (a : Option Addr) (cap : Nat) (l : List Tok), v = .slice a l.length cap ∧ TokAt W a l ∧ l.length ≤ cap ∧ cap ≤ maxLen ∧ (a = none → l.length = 0 ∧ cap = 0) := by
  obtain ⟨a0, len, cap, rfl⟩ := okWide_slice Tryd.underlying27 hv
  obtain ⟨fuel, hf⟩ := h
  obtain ⟨f0, f1, f2, f3, hu, hone, t0, t1, t2, t3⟩ := under49
  rcases open_slice_fields Tryd.underlying27 hu hone cells49 hf with ⟨hcs, _⟩ | ⟨a, len', cap', m, D, Pl, hcs, _, hl, hcm, hm, _, hi⟩
  · simp only [Value.cells, List.cons.injEq, Value.slice.injEq] at hcs
    obtain ⟨⟨rfl, rfl, rfl⟩, _⟩ := hcs
    exact ⟨none, 0, [], rfl, fun i x hx => by simp at hx, Nat.le_refl _, Nat.zero_le _, fun _ => ⟨rfl, rfl⟩⟩
  · simp only [Value.cells, List.cons.injEq, Value.slice.injEq] at hcs
    obtain ⟨⟨rfl, rfl, rfl⟩, _⟩ := hcs
    simp only [if_true] at hm
    have key : ∀ j, j < len → ∃ t : Tok, W.cell? (a.add (j * 4)) = some (.int .u8 t.kind) ∧ W.cell? (a.add (j * 4 + 1)) = some (.string t.text) ∧ W.cell? (a.add (j * 4 + 2)) = some (.int .i64 t.num) ∧ W.cell? (a.add (j * 4 + 3)) = some (.int .i64 t.pos) := by
      intro j hj
      obtain ⟨ys, n, _, _, _, hfs⟩ := hi j (by omega)
      obtain ⟨v0, y0, c0, _, r0⟩ := hfs 0 f0 rfl
      obtain ⟨v1, y1, c1, _, r1⟩ := hfs 1 f1 rfl
      obtain ⟨v2, y2, c2, _, r2⟩ := hfs 2 f2 rfl
      obtain ⟨v3, y3, c3, _, r3⟩ := hfs 3 f3 rfl
      rw [t0] at r0
      rw [t1] at r1
      rw [t2] at r2
      rw [t3] at r3
      obtain ⟨k, e0, _, hw⟩ := DataW.trod_int Tryd.underlying5 r0
      obtain ⟨s, e1, _⟩ := DataW.trod_string Tryd.underlying9 r1
      obtain ⟨x, e2, _⟩ := DataW.trod_int Tryd.underlying2 r2
      obtain ⟨y, e3, _⟩ := DataW.trod_int Tryd.underlying3 r3
      simp only [List.cons.injEq, and_true] at e0 e1 e2 e3
      subst e0 e1 e2 e3
      have hb : 0 ≤ k := by
        have h1 : IntKind.u8.min ≤ k ∧ k ≤ IntKind.u8.max := by simpa [Lit.wf] using hw
        have e1 : IntKind.u8.min = 0 := rfl
        omega
      exact ⟨⟨k.toNat, s, x, y⟩, by rw [show ((k.toNat : Nat) : Int) = k by omega]; exact c0, c1, c2, c3⟩
    obtain ⟨l, hl1, hl2⟩ := list_of len key
    refine ⟨some a, cap, l, by rw [hl1], fun j t hj => ?_, by omega, hcm, fun e => by cases e⟩
    obtain ⟨c0, c1, c2, c3⟩ := hl2 j t hj
    have hj0 := (List.getElem?_eq_some_iff.1 hj).1
    obtain ⟨t', ht'⟩ : ∃ t', l[0]? = some t' := ⟨_, List.getElem?_eq_getElem (by omega)⟩
    have h00 := (hl2 0 t' ht').1
    obtain ⟨b, off, rfl⟩ := plain_of c0 ⟨_, by rw [Nat.zero_mul] at h00; exact h00⟩
    rw [addr_add] at c0 c1 c2 c3
    exact ⟨b, off, rfl, World.block_lt_of_cell? W _ c0, c0, c1, c2, c3⟩
end Go.Proofs.YtjabhmepafofmaaDoor
