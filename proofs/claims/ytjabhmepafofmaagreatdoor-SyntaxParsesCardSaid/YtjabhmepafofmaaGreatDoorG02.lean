/- Hand, Next -/
import Derived.Deep.RegionHeld3
import Derived.WalkKit
import Derived.Test.YtjabhmepafofmaaGreatDoorG01
import Derived.Deep.CutRange
import Derived.Deep.CutBlock
import Derived.Deep.QuietTactic
import Derived.BigQuiet
set_option linter.unusedVariables false
set_option linter.unusedSimpArgs false
namespace Go.Proofs.YtjabhmepafofmaaGreatDoor
open Go.RowKit
def predsOf (md : Region.Mode) (ops : Array Oper) (j : Nat) : List Nat := match ops[j]? with
 | some o => (o.after.toList.filter fun e => Region.binds md e).map (·.on)
 | none => []
def cloOf (md : Region.Mode) (ops : Array Oper) : Nat → List Nat → List Nat
 | 0, acc => acc
 | n + 1, acc => cloOf md ops n (if acc.contains n then predsOf md ops n ++ acc else acc)
def lateB (md : Region.Mode) (ops : Array Oper) (Z : List Nat) : Bool := Z.all fun z => (List.range ops.size).all fun i => Z.contains i || (cloOf md ops ops.size (predsOf md ops z)).contains i
def dcB (md : Region.Mode) (ops : Array Oper) (listed : Array Bool) : Bool := (List.range ops.size).all fun j => !(listed.getD j false) || (predsOf md ops j).all fun p => listed.getD p false
theorem clo_listed {md : Region.Mode} {ops : Array Oper} {L : Nat → Prop} (hd : ∀ j, L j → ∀ p ∈ predsOf md ops j, L p) : ∀ (n : Nat) (acc : List Nat), (∀ x ∈ acc, L x) → ∀ y ∈ cloOf md ops n acc, L y
 | 0, acc, h, y, hy => h y hy
 | n + 1, acc, h, y, hy => by
  simp only [cloOf] at hy
  refine clo_listed hd n _ ?_ y hy
  intro x hx
  split at hx
  ·
   rename_i hc
   rcases List.mem_append.1 hx with hx | hx
   ·
    exact hd n (h n (by simpa using hc)) x hx
   ·
    exact h x hx
  ·
   exact h x hx
section
variable {P : Program} {ops : Array Oper} {Q : Exit → Act → World → Prop} {md : Region.Mode} {S : World → Prop} {Z : List Nat}
def Dc (md : Region.Mode) (ops : Array Oper) (listed : Array Bool) : Prop := ∀ j, listed.getD j false = true → ∀ p ∈ predsOf md ops j, listed.getD p false = true
theorem dc_of {listed : Array Bool} (hs : listed.size ≤ ops.size) (h : dcB md ops listed = true) : Dc md ops listed := by
 intro j hj p hp
 have hlt : j < listed.size := by
  rcases Nat.lt_or_ge j listed.size with h1 | h1
  ·
   exact h1
  ·
   simp [Array.getD, Nat.not_lt.2 h1] at hj
 have h2 := List.all_eq_true.1 h j (List.mem_range.2 (by omega))
 rw [hj] at h2
 simp only [Bool.not_true, Bool.false_or, List.all_eq_true] at h2
 exact h2 p hp
theorem mem_preds {j p : Nat} {o : Oper} (ho : ops[j]? = some o) (hp : p ∈ predsOf md ops j) : ∃ e ∈ o.after, Region.binds md e = true ∧ e.on = p := by
 simp only [predsOf, ho, List.mem_map, List.mem_filter] at hp
 obtain ⟨e, ⟨h1, h2⟩, h3⟩ := hp
 exact ⟨e, by simpa using h1, h2, h3⟩
theorem ready_preds {listed : Array Bool} {j : Nat} (h : j ∈ Region.ready md ops listed) : ∀ p ∈ predsOf md ops j, listed.getD p false = true := by
 intro p hp
 obtain ⟨h1, o, ho, hall⟩ := mem_ready.1 h
 obtain ⟨e, he, hb, rfl⟩ := mem_preds ho hp
 exact hall e he hb
theorem dc_set {listed : Array Bool} {j : Nat} (hd : Dc md ops listed) (hj : j ∈ Region.ready md ops listed) : Dc md ops (listed.setIfInBounds j true) := by
 intro k hk p hp
 by_cases h : j = k
 ·
  subst h
  exact getD_set_true (ready_preds hj p hp)
 ·
  rw [getD_set_ne false h] at hk
  exact getD_set_true (hd k hk p hp)
/-- a late operation waits for all that are not -/
theorem late_waits {listed : Array Bool} (hl : lateB md ops Z = true) (hd : Dc md ops listed) {z i : Nat} (hz : Z.contains z = true) (hzr : z ∈ Region.ready md ops listed) (hi : i < ops.size) (hiz : Z.contains i = false) : listed.getD i false = true := by
 have h1 := List.all_eq_true.1 (List.all_eq_true.1 hl z (by simpa using hz)) i (List.mem_range.2 hi)
 rw [hiz, Bool.false_or] at h1
 exact clo_listed (L := fun x => listed.getD x false = true) (fun j hj p hp => hd j hj p hp) ops.size _ (ready_preds hzr) i (by simpa using h1)
/-- whatever order is picked from here on, and S behind every operation that is not a late one -/
def wpAnyE (P : Program) (md : Region.Mode) (ops : Array Oper) (Q : Exit → Act → World → Prop) (S : World → Prop) (Z : List Nat) : Nat → Array Bool → Act → World → Prop
 | 0, listed, a, w => Region.ready md ops listed = [] ∧ Q .normal a w
 | fuel + 1, listed, a, w =>
  (Region.ready md ops listed = [] → Q .normal a w) ∧
  ∀ i ∈ Region.ready md ops listed, wpOp P ops Q i (fun a' w' => (Z.contains i = true ∨ S w') ∧ wpAnyE P md ops Q S Z fuel (listed.setIfInBounds i true) a' w') a w
theorem wpAny_of_e : ∀ (fuel : Nat) (listed : Array Bool) (a : Act) (w : World), wpAnyE P md ops Q S Z fuel listed a w → wpAny P md ops Q fuel listed a w
 | 0, _, _, _, h => h
 | fuel + 1, _, _, _, h => ⟨h.1, fun i hi => wpOp_mono (fun a' w' h' => wpAny_of_e fuel _ a' w' h'.2) (h.2 i hi)⟩
theorem wpAnyE_first {i : Nat} {oi : Oper} {v : Value} (hi : ops[i]? = some oi) (hlate : lateB md ops Z = true) (hiz : Z.contains i = false) (hsel : ∀ (j : Nat) (o : Oper) cs b, ops[j]? = some o → o.op ≠ .select cs b)
  (hQ : ∀ c a w, Q (.panic c) (a.put oi.dst v) w → Q (.panic c) a w) :
  ∀ (fuel : Nat) (listed : Array Bool) (a : Act) (w : World), Dc md ops listed →
   (∀ j oj, ops[j]? = some oj → j ≠ i → listed.getD j true = false → (∀ e ∈ oj.after, Region.binds md e = true → e.on ≠ i) → oi.apart ops oj = true) →
   i ∈ Region.ready md ops listed → YieldsIf P ops S oi v a → S w →
   wpAnyE P md ops Q S Z fuel (listed.setIfInBounds i true) (a.put oi.dst v) w → wpAnyE P md ops Q S Z (fuel + 1) listed a w := by
 intro fuel
 induction fuel with
 | zero =>
  intro listed a w _ _ hr hy hS H
  refine ⟨fun h => (by rw [h] at hr; cases hr), fun j hj => ?_⟩
  by_cases hji : j = i
  ·
   subst hji
   exact hy.wpOp hi hS ⟨.inr hS, H⟩
  ·
   have := ready_mono hj hji
   rw [H.1] at this
   cases this
 | succ fuel ih =>
  intro listed a w hdc hfree hr hy hS H
  refine ⟨fun h => (by rw [h] at hr; cases hr), fun j hj => ?_⟩
  by_cases hji : j = i
  ·
   subst hji
   exact hy.wpOp hi hS ⟨.inr hS, H⟩
  ·
   have h1 := H.2 j (ready_mono hj hji)
   obtain ⟨hjun, oj, hoj, hall⟩ := mem_ready.1 hj
   have hnot : ∀ e ∈ oj.after, Region.binds md e = true → e.on ≠ i := fun e he hb heq => by
    have h1 := hall e he hb
    have h0 := (mem_ready.1 hr).1
    rw [heq] at h1
    rcases Nat.lt_or_ge i listed.size with h' | h'
    ·
     simp [h'] at h0 h1
     rw [h0] at h1
     cases h1
    ·
     simp [Array.getElem?_eq_none h'] at h1
   have hjz : Z.contains j = false := by
    cases hz : Z.contains j with
    | false => rfl
    | true =>
     have hil := late_waits hlate hdc hz hj (Array.getElem?_eq_some_iff.1 hi).1 hiz
     have h0 := (mem_ready.1 hr).1
     rcases Nat.lt_or_ge i listed.size with h' | h'
     ·
      simp [h'] at h0 hil
      rw [h0] at hil
      cases hil
     ·
      simp [Array.getElem?_eq_none h'] at hil
   have h2 := wpOp_putIf hoj (hfree j oj hoj hji hjun hnot) (fun cs b => hsel i oi cs b hi) (fun cs b => hsel j oj cs b hoj) hQ hy h1
   have hfree' : ∀ k ok, ops[k]? = some ok → k ≠ i → (listed.setIfInBounds j true).getD k true = false →
     (∀ e ∈ ok.after, Region.binds md e = true → e.on ≠ i) → oi.apart ops ok = true := fun k ok hk hki hun hno => by
    refine hfree k ok hk hki ?_ hno
    by_cases hjk : j = k
    ·
     subst hjk
     exact hjun
    ·
     rw [getD_set_ne true hjk] at hun
     exact hun
   refine wpOp_mono (fun a' w' h3 => ?_) h2
   obtain ⟨hy', hS', hrest⟩ := h3
   rcases hS' with hS' | hS'
   ·
    rw [hjz] at hS'
    cases hS'
   ·
    exact ⟨.inr hS', ih (listed.setIfInBounds j true) a' w' (dc_set hdc hj) hfree' (ready_mono hr (Ne.symm hji)) hy' hS' (by rw [Array.setIfInBounds_comm _ _ hji]; exact hrest)⟩
/-- the beginning -/
theorem region_e {id : Nat} {a : Act} {w : World} (S : World → Prop) (Z : List Nat) (hm : P.follows .mixedOrders = true) (hS : S w.drew)
  (h : S w.drew → wpAnyE P .any ops Q S Z ops.size (Array.replicate ops.size false) a w.drew) : (Code.region id ops true).wp P Q a w :=
 wp_region_any hm (wpAny_of_e _ _ _ _ (h hS))
/-- all that is asked of an operation that is taken first, but what it yields -/
def okB (md : Region.Mode) (ops : Array Oper) (Z : List Nat) (listed : Array Bool) (i : Nat) : Bool :=
 lateB md ops Z && (!Z.contains i && (Nat.ble listed.size ops.size && (dcB md ops listed && (Region.noSelect ops && (Region.free md ops listed i && (Region.ready md ops listed).contains i)))))
/-- an operation that is not wanted is passed over -/
theorem skip_op (i : Nat) (d : Option Tmp) {fuel : Nat} {listed : Array Bool} {a : Act} {w : World} (hc : okB md ops Z listed i = true) (hd : (ops[i]?).map (·.dst) = some d)
  (hw : (ops[i]?).map (fun o => Region.wanted o (yielded ops a.tmps)) = some false)
  (hQ : ∀ c a w, Q (.panic c) (a.put d undef) w → Q (.panic c) a w) (hS : S w)
  (h : wpAnyE P md ops Q S Z fuel (listed.setIfInBounds i true) (a.put d undef) w) : wpAnyE P md ops Q S Z (fuel + 1) listed a w := by
 simp only [okB, Bool.and_eq_true, Bool.not_eq_true'] at hc
 obtain ⟨hl, hz, hsz, hdc, hs, hf, hr⟩ := hc
 cases ho : ops[i]? with
 | none => rw [ho] at hd; cases hd
 | some o =>
  rw [ho] at hd hw
  simp only [Option.map_some, Option.some.injEq] at hd hw
  subst hd
  exact wpAnyE_first ho hl hz (Region.noSelect_spec hs) hQ fuel listed a w (dc_of (Nat.le_of_ble_eq_true hsz) hdc) (Region.free_spec ho hf) (by simpa using hr) (Or.inr ⟨hw, rfl⟩) hS h
/-- an operation that yields a value in every world that meets S is taken first -/
theorem take_op (i : Nat) (d : Option Tmp) (op : Op) (t : TypeId) (v : Value) {fuel : Nat} {listed : Array Bool} {a : Act} {w : World} (hc : okB md ops Z listed i = true) (hd : (ops[i]?).map (fun o => (o.dst, o.op, o.type)) = some (d, op, t))
  (hw : (ops[i]?).map (fun o => Region.wanted o (yielded ops a.tmps)) = some true)
  (hQ : ∀ c a w, Q (.panic c) (a.put d v) w → Q (.panic c) a w)
  (hy : ∀ w, S w → (execOp a.eval { dst := d, op := op, type := t, pos := "", after := #[], guard := none }).run P w = .ok (.value v) w) (hS : S w)
  (h : wpAnyE P md ops Q S Z fuel (listed.setIfInBounds i true) (a.put d v) w) : wpAnyE P md ops Q S Z (fuel + 1) listed a w := by
 simp only [okB, Bool.and_eq_true, Bool.not_eq_true'] at hc
 obtain ⟨hl, hz, hsz, hdc, hs, hf, hr⟩ := hc
 cases ho : ops[i]? with
 | none => rw [ho] at hd; cases hd
 | some o =>
  rw [ho] at hd hw
  simp only [Option.map_some, Option.some.injEq, Prod.mk.injEq] at hd hw
  obtain ⟨rfl, rfl, rfl⟩ := hd
  exact wpAnyE_first ho hl hz (Region.noSelect_spec hs) hQ fuel listed a w (dc_of (Nat.le_of_ble_eq_true hsz) hdc) (Region.free_spec ho hf) (by simpa using hr) (Or.inl ⟨hw, fun w' hS' => hy w' hS'⟩) hS h
def AllReadyE (P : Program) (md : Region.Mode) (ops : Array Oper) (Q : Exit → Act → World → Prop) (S : World → Prop) (Z : List Nat) (fuel : Nat) (listed : Array Bool) (a : Act) (w : World) (rs : List Nat) : Prop :=
 ∀ i ∈ rs, wpOp P ops Q i (fun a' w' => (Z.contains i = true ∨ S w') ∧ wpAnyE P md ops Q S Z fuel (listed.setIfInBounds i true) a' w') a w
theorem ready_e {rs : List Nat} {fuel : Nat} {listed : Array Bool} {a : Act} {w : World} (hr : Region.ready md ops listed = rs) (hne : rs ≠ [])
  (h : AllReadyE P md ops Q S Z fuel listed a w rs) : wpAnyE P md ops Q S Z (fuel + 1) listed a w := ⟨fun h0 => absurd (hr ▸ h0) hne, hr ▸ h⟩
theorem none_e {fuel : Nat} {listed : Array Bool} {a : Act} {w : World} : AllReadyE P md ops Q S Z fuel listed a w [] := fun _ h => by cases h
/-- an operation is carried out; S is shown anew -/
theorem do_mid {fuel : Nat} {listed : Array Bool} {a : Act} {w : World} {i : Nat} {o : Oper} {rs : List Nat} (ho : ops[i]? = some o)
  (h : ∀ K' : Act → World → Prop, Shut (∀ a w, S w → (S w → wpAnyE P md ops Q S Z fuel (listed.setIfInBounds i true) a w) → K' a w) → if Region.wanted o (yielded ops a.tmps) = true then Oper.wp P o a w K' Q else K' (a.put o.dst undef) w)
  (hs : AllReadyE P md ops Q S Z fuel listed a w rs) : AllReadyE P md ops Q S Z fuel listed a w (i :: rs) := fun j hj => by
 rcases List.mem_cons.1 hj with rfl | hj
 ·
  exact wpOp_step ho (fun K' hK => h K' (fun a w hS hW => hK a w ⟨.inr hS, hW hS⟩))
 ·
  exact hs j hj
/-- a late one is carried out -/
theorem do_late {fuel : Nat} {listed : Array Bool} {a : Act} {w : World} {i : Nat} {o : Oper} {rs : List Nat} (ho : ops[i]? = some o) (hz : Z.contains i = true)
  (h : ∀ K' : Act → World → Prop, Shut (∀ a w, wpAnyE P md ops Q S Z fuel (listed.setIfInBounds i true) a w → K' a w) → if Region.wanted o (yielded ops a.tmps) = true then Oper.wp P o a w K' Q else K' (a.put o.dst undef) w)
  (hs : AllReadyE P md ops Q S Z fuel listed a w rs) : AllReadyE P md ops Q S Z fuel listed a w (i :: rs) := fun j hj => by
 rcases List.mem_cons.1 hj with rfl | hj
 ·
  exact wpOp_step ho (fun K' hK => h K' (fun a w hW => hK a w ⟨.inl hz, hW⟩))
 ·
  exact hs j hj
theorem done_e {listed : Array Bool} {a : Act} {w : World} (hr : Region.ready md ops listed = []) (h : Q .normal a w) : ∀ fuel, wpAnyE P md ops Q S Z fuel listed a w
 | 0 => ⟨hr, h⟩
 | _ + 1 => ⟨fun _ => h, by rw [hr]; simp⟩
end
end Go.Proofs.YtjabhmepafofmaaGreatDoor
namespace Go.Proofs.YtjabhmepafofmaaGreatDoor
open Go.RowKit
def tokV (t : Tok) : Value := .agg #[.int .u8 t.kind, .string t.text, .int .i64 t.num, .int .i64 t.pos]
/-- tokens in a row, none of them in the parser's block -/
def TokRow (w : World) (gp : Nat) (a : Option Addr) (l : List Tok) : Prop := ∀ (j : Nat) (t : Tok), l[j]? = some t → ∃ b off, a = some ⟨b, off, none⟩ ∧ b ≠ gp ∧ w.cell? ⟨b, off + j * 4, none⟩ = some (.int .u8 t.kind) ∧ w.cell? ⟨b, off + j * 4 + 1, none⟩ = some (.string t.text) ∧
 w.cell? ⟨b, off + j * 4 + 2, none⟩ = some (.int .i64 t.num) ∧ w.cell? ⟨b, off + j * 4 + 3, none⟩ = some (.int .i64 t.pos)
/-- the table of the operators' levels, none of it in the parser's block -/
def Lev (w : World) (gp : Nat) : Prop := gp ≠ 0 ∧ ∃ b off cap, w.cell? ⟨0, 0, none⟩ = some (.slice (some ⟨b, off, none⟩) 5 cap) ∧ b ≠ gp ∧ ∀ lv : Nat, lv < 5 → ∃ a c, w.cell? ⟨b, off + lv * 2, none⟩ = some (.int .i64 (Gr.rows lv : Nat)) ∧
 w.cell? ⟨b, off + lv * 2 + 1, none⟩ = some (.slice a (Gr.ops lv).length c) ∧ ∀ (j : Nat) (s : ByteArray), (Gr.ops lv)[j]? = some s → ∃ b2 off2, a = some ⟨b2, off2, none⟩ ∧ b2 ≠ gp ∧ w.cell? ⟨b2, off2 + j, none⟩ = some (.string s)
theorem Lev.fr {w w' : World} {gp : Nat} (h : Lev w gp) (hf : Fr (Just gp) w w') : Lev w' gp := by
 obtain ⟨hg, b, off, cap, h0, hb, h⟩ := h
 have keep : ∀ (x o : Nat) (v : Value), x ≠ gp → w.cell? ⟨x, o, none⟩ = some v → w'.cell? ⟨x, o, none⟩ = some v := fun x o v hx hc =>
  (World.cell?_of_block (hf.block x (World.block_lt_of_cell? w _ hc) (fun (e : x = gp) => hx e))).trans hc
 refine ⟨hg, b, off, cap, keep _ _ _ (fun e => hg e.symm) h0, hb, fun lv hl => ?_⟩
 obtain ⟨a, c, h1, h2, h3⟩ := h lv hl
 refine ⟨a, c, keep _ _ _ hb h1, keep _ _ _ hb h2, fun j s hj => ?_⟩
 obtain ⟨b2, off2, e, hb2, h4⟩ := h3 j s hj
 exact ⟨b2, off2, e, hb2, keep _ _ _ hb2 h4⟩
/-- the parser stands at a place of some tokens -/
structure Par (w : World) (gp : Nat) (a : Option Addr) (c : Nat) (l : List Tok) (p : Nat) : Prop where
 blk : w.heap[gp]? = some (.cells #[.slice a l.length c, .int .i64 p] 49 (0, 0))
 row : TokRow w gp a l
 le : p ≤ l.length
 len : l.length ≤ 1048576
 lev : Lev w gp
theorem TokRow.fr {w w' : World} {gp : Nat} {a : Option Addr} {l : List Tok} (h : TokRow w gp a l) (hf : Fr (Just gp) w w') : TokRow w' gp a l := fun j t hj => by
 obtain ⟨b, off, e, hb, h0, h1, h2, h3⟩ := h j t hj
 have hk := hf.block b (World.block_lt_of_cell? w _ h0) (fun (h : b = gp) => hb h)
 exact ⟨b, off, e, hb, (World.cell?_of_block hk).trans h0, (World.cell?_of_block hk).trans h1, (World.cell?_of_block hk).trans h2, (World.cell?_of_block hk).trans h3⟩
theorem Fr.just {w w' : World} (h : Fr No w w') (g : Nat) : Fr (Just g) w w' := h.mono fun _ _ h => False.elim h
theorem Par.no {w w' : World} {gp : Nat} {a : Option Addr} {c : Nat} {l : List Tok} {p : Nat} (h : Par w gp a c l p) (hf : Fr No w w') : Par w' gp a c l p :=
 ⟨hf.keeps h.blk no_one, h.row.fr (hf.just gp), h.le, h.len, h.lev.fr (hf.just gp)⟩
/-- the parser goes on -/
theorem Par.set {w : World} {gp : Nat} {a : Option Addr} {c : Nat} {l : List Tok} {p : Nat} (h : Par w gp a c l p) (hp : p + 1 ≤ l.length) : Par (w.setCell ⟨gp, 1, none⟩ (.int .i64 ((p : Int) + 1))) gp a c l (p + 1) :=
 ⟨(block_setCell h.blk 1 _).trans rfl, h.row.fr (Fr.setCell w ⟨gp, 1, none⟩ _), hp, h.len, h.lev.fr (Fr.setCell w ⟨gp, 1, none⟩ _)⟩
theorem getD_at {l : List Tok} {p : Nat} {t : Tok} (h : l[p]? = some t) : l.getD p zTok = t := by
 rw [List.getD_eq_getElem?_getD, h]
 rfl
theorem getD_end {l : List Tok} {p : Nat} (h : l.length ≤ p) : l.getD p zTok = zTok := by
 rw [List.getD_eq_getElem?_getD, List.getElem?_eq_none h]
 rfl
theorem results_st {fn : Func} {p : Tmp} {t n : Nat} {fs : Array Field} (h : fn.results = #[.cell p t]) (hu : Tryz.prog.underlying t = some (.struct fs)) (hn : (Tryz.prog.info? t).map (·.size) = some n) (tmps : Array Value) (w : World) (g : Nat) (cs : Array Value) (hs : cs.size = n)
  (hp : tmps.getD p undef = .pointer (some ⟨g, 0, none⟩)) (hg : w.heap[g]? = some (.cells cs t (0, 0))) : (results fn tmps).run Tryz.prog w = .ok (.agg cs) w :=
 results_cell_row h tmps w g t cs (0, 0) _ hp hg hu rfl (by rw [hs]; exact hn)
theorem z49 {w : World} {g : Nat} {x0 x1 x2 x3 : Value} {t : TypeId} (h : w.heap[g]? = some (.cells #[x0, x1, x2, x3] t (0, 0))) :
  (w.cell? ⟨g, 0, none⟩ = some x0 ∧ w.cell? ⟨g, 1, none⟩ = some x1 ∧ w.cell? ⟨g, 2, none⟩ = some x2 ∧ w.cell? ⟨g, 3, none⟩ = some x3) ∧
   (w.frozen? ⟨g, 0, none⟩ = false ∧ w.frozen? ⟨g, 1, none⟩ = false ∧ w.frozen? ⟨g, 2, none⟩ = false ∧ w.frozen? ⟨g, 3, none⟩ = false) :=
 ⟨⟨cell_of h 0, cell_of h 1, cell_of h 2, cell_of h 3⟩, free_of h 0, free_of h 1, free_of h 2, free_of h 3⟩
theorem four_cells {w : World} {g : Nat} {x0 x1 x2 x3 : Value} {t : TypeId} (y0 y1 y2 y3 : Value) (h : w.heap[g]? = some (.cells #[x0, x1, x2, x3] t (0, 0))) : ((((w.setCell ⟨g, 0, none⟩ y0).setCell ⟨g, 1, none⟩ y1).setCell ⟨g, 2, none⟩ y2).setCell ⟨g, 3, none⟩ y3).heap[g]? = some (.cells #[y0, y1, y2, y3] t (0, 0)) ∧
  Fr (Just g) w ((((w.setCell ⟨g, 0, none⟩ y0).setCell ⟨g, 1, none⟩ y1).setCell ⟨g, 2, none⟩ y2).setCell ⟨g, 3, none⟩ y3) :=
 ⟨block_setCell (block_setCell (block_setCell (block_setCell h 0 y0) 1 y1) 2 y2) 3 y3, (((Fr.setCell w ⟨g, 0, none⟩ y0).trans (Fr.setCell _ ⟨g, 1, none⟩ y1) fun _ _ (h : _ = g) => (h : Just g _)).trans (Fr.setCell _ ⟨g, 2, none⟩ y2) fun _ _ (h : _ = g) => (h : Just g _)).trans (Fr.setCell _ ⟨g, 3, none⟩ y3) fun _ _ (h : _ = g) => (h : Just g _)⟩
set_option maxHeartbeats 1000000 in
theorem next_any (gp : Nat) (a : Option Addr) (c : Nat) (l : List Tok) (p : Nat) (w : World) (h : Par w gp a c l p) :
  Calls Tryz.prog 52 #[.pointer (some ⟨gp, 0, none⟩)] w fun e w' => e = .returned (tokV (l.getD p zTok)) ∧ Fr No w w' := by
 have HP := Lib.hid h
 obtain ⟨n, hn⟩ : ∃ n, l.length = n := ⟨_, rfl⟩
 have hle := h.le
 have hlen := h.len
 obtain ⟨w1, hw1⟩ : ∃ w1, w.alloc (.cells #[.int .u8 0, .string ⟨#[]⟩, .int .i64 0, .int .i64 0] 31) = w1 := ⟨_, rfl⟩
 obtain ⟨g2, hg2⟩ : ∃ g2, w.heap.size = g2 := ⟨_, rfl⟩
 have R1 : Hid (w1.heap[g2]? = some (.cells #[.int .u8 0, .string ⟨#[]⟩, .int .i64 0, .int .i64 0] 31 (0, 0))) := Lib.hid (by rw [← hw1, ← hg2]; exact new_block _ _)
 have HF1 : Hid (Fr No w w1) := Lib.hid (by rw [← hw1]; exact Fr.alloc _ _)
 have HP1 := Lib.hid (h.no HF1.out)
 have c0 : w1.cell? ⟨gp, 0, none⟩ = some (.slice a n c) := by rw [← hn]; exact cell_of HP1.out.blk 0
 have c1 : w1.cell? ⟨gp, 1, none⟩ = some (.int .i64 p) := cell_of HP1.out.blk 1
 have hg : Hid (∀ k, k < w.heap.size → k ≠ g2) := Lib.hid (fun k hk => by omega)
 have HGP : Hid (gp ≠ g2) := Lib.hid (hg.out gp (lt_of_block h.blk))
 have HW1 := Lib.hid hw1
 have HG2 := Lib.hid hg2
 have HG3 := Lib.hid hg2
 have HN := Lib.hid hn
 rw [hn] at hle hlen
 clear h hn hg hw1 hg2
 go_enter Tryz.func52, Tryz.ntmps52
 go_upto_region 1 with fail
 rw [HW1.out, HG2.out]
 clear HW1 HG2
 by_cases hp : p < n
 ·
  have hd : decide ((p : Int) < (n : Int)) = true := decide_eq_true (by omega)
  have hlt : (p : Int) < (n : Int) := by omega
  obtain ⟨t, ht⟩ : ∃ t, l[p]? = some t := ⟨_, List.getElem?_eq_getElem (by rw [HN.out]; exact hp)⟩
  obtain ⟨b, off, rfl, hb, d0, d1, d2, d3⟩ := HP1.out.row p t ht
  have HT := Lib.hid (getD_at ht)
  have HS : Hid (∀ w', Fr No w1 w' → w'.cell? ⟨gp, 0, none⟩ = some (.slice (some ⟨b, off, none⟩) n c) ∧ w'.cell? ⟨gp, 1, none⟩ = some (.int .i64 p) ∧ w'.cell? ⟨b, off + p * 4, none⟩ = some (.int .u8 t.kind) ∧ w'.cell? ⟨b, off + p * 4 + 1, none⟩ = some (.string t.text) ∧ w'.cell? ⟨b, off + p * 4 + 2, none⟩ = some (.int .i64 t.num) ∧ w'.cell? ⟨b, off + p * 4 + 3, none⟩ = some (.int .i64 t.pos)) := Lib.hid (fun w' hf => ⟨hf.cell c0, hf.cell c1, hf.cell d0, hf.cell d1, hf.cell d2, hf.cell d3⟩)
  clear ht hb
  go_quiet (fail)
  go_upto_region 2 with fail
  obtain ⟨wb, hwb⟩ : ∃ wb, w1.drewN nq = wb := ⟨_, rfl⟩
  have HFB : Hid (Fr No w1 wb) := Lib.hid (by rw [← hwb]; exact Fr.drewN _ _)
  (try rw [hwb])
  clear hwb c0 c1 d0 d1 d2 d3
  refine region_e (fun w' => w'.cell? ⟨gp, 0, none⟩ = some (.slice (some ⟨b, off, none⟩) n c) ∧ w'.cell? ⟨gp, 1, none⟩ = some (.int .i64 p) ∧ w'.cell? ⟨b, off + p * 4, none⟩ = some (.int .u8 t.kind) ∧ w'.cell? ⟨b, off + p * 4 + 1, none⟩ = some (.string t.text) ∧ w'.cell? ⟨b, off + p * 4 + 2, none⟩ = some (.int .i64 t.num) ∧ w'.cell? ⟨b, off + p * 4 + 3, none⟩ = some (.int .i64 t.pos)) [10] (by kernel_rfl) ?_ (fun hHeld => ?_)
  ·
   exact HS.out _ (HFB.out.then (Fr.drew _))
  obtain ⟨wd, hwd⟩ : ∃ wd, wd = wb.drew := ⟨_, rfl⟩
  have HFd : Hid (Fr No w1 wd) := Lib.hid (by rw [hwd]; exact HFB.out.then (Fr.drew _))
  rw [← hwd] at hHeld ⊢
  clear hwd
  refine take_op 0 (some 13) (Op.move ( .tmp 0)) 47 ?_ (by kernel_rfl) (by kernel_rfl) (by kernel_rfl) (fun _ _ _ h => h) ?_ (by assumption) ?_
  rotate_left
  ·
   intro w hSw; (try dsimp only at hSw); go_simp; (try (with_reducible rfl))
  try simp only [Act.put, List.setIfInBounds_toArray, List.set_cons_zero, List.set_cons_succ]
  refine take_op 1 (some 14) (Op.nilCheck ( .tmp 13)) 0 ?_ (by kernel_rfl) (by kernel_rfl) (by kernel_rfl) (fun _ _ _ h => h) ?_ (by assumption) ?_
  rotate_left
  ·
   intro w hSw; (try dsimp only at hSw); go_simp; (try (with_reducible rfl))
  try simp only [Act.put, List.setIfInBounds_toArray, List.set_cons_zero, List.set_cons_succ]
  refine take_op 2 (some 15) (Op.fieldAddr 49 ( .tmp 14) 0) 0 ?_ (by kernel_rfl) (by kernel_rfl) (by kernel_rfl) (fun _ _ _ h => h) ?_ (by assumption) ?_
  rotate_left
  ·
   intro w hSw; (try dsimp only at hSw); go_simp; (try (with_reducible rfl))
  try simp only [Act.put, List.setIfInBounds_toArray, List.set_cons_zero, List.set_cons_succ]
  refine take_op 3 (some 16) (Op.load 22 ( .tmp 15)) 22 ?_ (by kernel_rfl) (by kernel_rfl) (by kernel_rfl) (fun _ _ _ h => h) ?_ (by assumption) ?_
  rotate_left
  ·
   intro w hSw; (try dsimp only at hSw); go_simp; (try (with_reducible rfl))
  try simp only [Act.put, List.setIfInBounds_toArray, List.set_cons_zero, List.set_cons_succ]
  refine take_op 4 (some 17) (Op.move ( .tmp 0)) 47 ?_ (by kernel_rfl) (by kernel_rfl) (by kernel_rfl) (fun _ _ _ h => h) ?_ (by assumption) ?_
  rotate_left
  ·
   intro w hSw; (try dsimp only at hSw); go_simp; (try (with_reducible rfl))
  try simp only [Act.put, List.setIfInBounds_toArray, List.set_cons_zero, List.set_cons_succ]
  refine take_op 5 (some 18) (Op.nilCheck ( .tmp 17)) 0 ?_ (by kernel_rfl) (by kernel_rfl) (by kernel_rfl) (fun _ _ _ h => h) ?_ (by assumption) ?_
  rotate_left
  ·
   intro w hSw; (try dsimp only at hSw); go_simp; (try (with_reducible rfl))
  try simp only [Act.put, List.setIfInBounds_toArray, List.set_cons_zero, List.set_cons_succ]
  refine take_op 6 (some 19) (Op.fieldAddr 49 ( .tmp 18) 1) 0 ?_ (by kernel_rfl) (by kernel_rfl) (by kernel_rfl) (fun _ _ _ h => h) ?_ (by assumption) ?_
  rotate_left
  ·
   intro w hSw; (try dsimp only at hSw); go_simp; (try (with_reducible rfl))
  try simp only [Act.put, List.setIfInBounds_toArray, List.set_cons_zero, List.set_cons_succ]
  refine take_op 7 (some 20) (Op.load 3 ( .tmp 19)) 3 ?_ (by kernel_rfl) (by kernel_rfl) (by kernel_rfl) (fun _ _ _ h => h) ?_ (by assumption) ?_
  rotate_left
  ·
   intro w hSw; (try dsimp only at hSw); go_simp; (try (with_reducible rfl))
  try simp only [Act.put, List.setIfInBounds_toArray, List.set_cons_zero, List.set_cons_succ]
  refine take_op 8 (some 21) (Op.indexAddr 22 ( .tmp 16) ( .tmp 20)) 0 ?_ (by kernel_rfl) (by kernel_rfl) (by kernel_rfl) (fun _ _ _ h => h) ?_ (by assumption) ?_
  rotate_left
  ·
   intro w hSw; (try dsimp only at hSw); go_simp; (try (with_reducible rfl))
  try simp only [Act.put, List.setIfInBounds_toArray, List.set_cons_zero, List.set_cons_succ]
  refine take_op 9 (some 22) (Op.load 31 ( .tmp 21)) 31 ?_ (by kernel_rfl) (by kernel_rfl) (by kernel_rfl) (fun _ _ _ h => h) ?_ (by assumption) ?_
  rotate_left
  ·
   intro w hSw; (try dsimp only at hSw); go_simp; (try (with_reducible rfl))
  try simp only [Act.put, List.setIfInBounds_toArray, List.set_cons_zero, List.set_cons_succ]
  have RB := Lib.hid (HFd.out.keeps R1.out no_one)
  obtain ⟨⟨c0, c1, c2, c3⟩, f0, f1, f2, f3⟩ := z49 RB.out
  refine ready_e (rs := [10]) (by kernel_rfl) (by simp) ?_
  refine (do_late (o := _) rfl (by kernel_rfl) (fun K hK => ?_) none_e) -- [(None, 'store')]
  go_simp
  obtain ⟨h4, hs⟩ := four_cells (.int .u8 t.kind) (.string t.text) (.int .i64 t.num) (.int .i64 t.pos) RB.out
  obtain ⟨we, hwe⟩ : ∃ we, (((wd.setCell ⟨g2, 0, none⟩ (.int .u8 t.kind)).setCell ⟨g2, 1, none⟩ (.string t.text)).setCell ⟨g2, 2, none⟩ (.int .i64 t.num)).setCell ⟨g2, 3, none⟩ (.int .i64 t.pos) = we := ⟨_, rfl⟩
  rw [hwe] at h4 hs
  rw [hwe]
  clear hwe
  refine hK.out _ _ ?_
  clear hK K
  try dsimp only
  try simp only [Act.put, List.setIfInBounds_toArray, List.set_cons_zero, List.set_cons_succ]
  refine done_e (by kernel_rfl) ?_ _
  (try simp only [Exit.inBlock, Exit.then])
  go_wp2_with fail
  (try simp only [Exit.inBlock, Exit.then])
  refine bodyPost_ret (results_st rfl Tryz.underlying31 (by kernel_rfl) _ _ g2 _ rfl rfl h4) rfl ?_
  exact ⟨by rw [HT.out]; rfl, (HF1.out.then HFd.out).own hs (fun i (e : i = g2) => by rw [e, ← HG3.out]; omega)⟩
 ·
  have hd : decide ((p : Int) < (n : Int)) = false := decide_eq_false (by omega)
  have HT : Hid (l.getD p zTok = zTok) := Lib.hid (getD_end (by rw [HN.out]; omega))
  go_quiet (fail)
  obtain ⟨wb, hwb⟩ : ∃ wb, w1.drewN nq = wb := ⟨_, rfl⟩
  have HFB : Hid (Fr No w1 wb) := Lib.hid (by rw [← hwb]; exact Fr.drewN _ _)
  rw [hwb]
  have RB := Lib.hid (HFB.out.keeps R1.out no_one)
  clear hwb c0 c1
  obtain ⟨⟨c0, c1, c2, c3⟩, f0, f1, f2, f3⟩ := z49 RB.out
  obtain ⟨h4, hs⟩ := four_cells (.int .u8 0) (.string ⟨#[]⟩) (.int .i64 0) (.int .i64 0) RB.out
  go_wp2_with fail
  (try simp only [Exit.inBlock, Exit.then])
  refine bodyPost_ret (results_st rfl Tryz.underlying31 (by kernel_rfl) _ _ g2 _ rfl rfl h4) rfl ?_
  exact ⟨by rw [HT.out]; rfl, (HF1.out.then HFB.out).own hs (fun i (e : i = g2) => by rw [e, ← HG3.out]; omega)⟩
end Go.Proofs.YtjabhmepafofmaaGreatDoor
