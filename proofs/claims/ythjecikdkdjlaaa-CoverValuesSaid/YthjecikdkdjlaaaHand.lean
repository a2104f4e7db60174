/- Moves for a region that draws its order: an operation is named by its number, its slot and its text. S holds of the world behind each operation but the late ones (Z), which wait for all others. -/
import Derived.Deep.RegionHeld3
import Derived.WalkKit
namespace Go.Proofs.Ythjecikdkdjlaaa
open Go.RowKit
def predsOf (md : Region.Mode) (ops : Array Oper) (j : Nat) : List Nat := match ops[j]? with
  | some o => (o.after.toList.filter fun e => Region.binds md e).map (·.on)
  | none => []
def cloOf (md : Region.Mode) (ops : Array Oper) : Nat → List Nat → List Nat
  | 0, acc => acc
  | n + 1, acc => cloOf md ops n (if acc.contains n then predsOf md ops n ++ acc else acc)
def lateB (md : Region.Mode) (ops : Array Oper) (Z : List Nat) : Bool := Z.all fun z => (List.range ops.size).all fun i => Z.contains i || (cloOf md ops ops.size (predsOf md ops z)).contains i
def dcB (md : Region.Mode) (ops : Array Oper) (listed : Array Bool) : Bool := (List.range ops.size).all fun j => !(listed.getD j false) || (predsOf md ops j).all fun p => listed.getD p false
theorem clo_listed {md : Region.Mode} {ops : Array Oper} {L : Nat → Prop} (hd : ∀ j, L j → ∀ p ∈ predsOf md ops j, L p) : ∀ (n : Nat) (acc : List Nat), (∀ x ∈ acc, L x) → ∀ y ∈ cloOf md ops n acc, L y
  | 0, acc, h, y, hy => h y hy
  | n + 1, acc, h, y, hy => by
    simp only [cloOf] at hy
    refine clo_listed hd n _ ?_ y hy
    intro x hx
    split at hx
    · rename_i hc
      rcases List.mem_append.1 hx with hx | hx
      · exact hd n (h n (by simpa using hc)) x hx
      · exact h x hx
    · exact h x hx
section
variable {P : Program} {ops : Array Oper} {Q : Exit → Act → World → Prop} {md : Region.Mode} {S : World → Prop} {Z : List Nat}
def Dc (md : Region.Mode) (ops : Array Oper) (listed : Array Bool) : Prop := ∀ j, listed.getD j false = true → ∀ p ∈ predsOf md ops j, listed.getD p false = true
theorem dc_of {listed : Array Bool} (hs : listed.size ≤ ops.size) (h : dcB md ops listed = true) : Dc md ops listed := by
  intro j hj p hp
  have hlt : j < listed.size := by
    rcases Nat.lt_or_ge j listed.size with h1 | h1
    · exact h1
    · simp [Array.getD, Nat.not_lt.2 h1] at hj
  have h2 := List.all_eq_true.1 h j (List.mem_range.2 (by omega))
  rw [hj] at h2
  simp only [Bool.not_true, Bool.false_or, List.all_eq_true] at h2
  exact h2 p hp
theorem mem_preds {j p : Nat} {o : Oper} (ho : ops[j]? = some o) (hp : p ∈ predsOf md ops j) : ∃ e ∈ o.after, Region.binds md e = true ∧ e.on = p := by
  simp only [predsOf, ho, List.mem_map, List.mem_filter] at hp
  obtain ⟨e, ⟨h1, h2⟩, h3⟩ := hp
  exact ⟨e, by simpa using h1, h2, h3⟩
theorem ready_preds {listed : Array Bool} {j : Nat} (h : j ∈ Region.ready md ops listed) : ∀ p ∈ predsOf md ops j, listed.getD p false = true := by
  intro p hp
  obtain ⟨h1, o, ho, hall⟩ := mem_ready.1 h
  obtain ⟨e, he, hb, rfl⟩ := mem_preds ho hp
  exact hall e he hb
theorem dc_set {listed : Array Bool} {j : Nat} (hd : Dc md ops listed) (hj : j ∈ Region.ready md ops listed) : Dc md ops (listed.setIfInBounds j true) := by
  intro k hk p hp
  by_cases h : j = k
  · subst h
    exact getD_set_true (ready_preds hj p hp)
  · rw [getD_set_ne false h] at hk
    exact getD_set_true (hd k hk p hp)
/-- a late operation waits for all that are not -/
theorem late_waits {listed : Array Bool} (hl : lateB md ops Z = true) (hd : Dc md ops listed) {z i : Nat} (hz : Z.contains z = true) (hzr : z ∈ Region.ready md ops listed) (hi : i < ops.size) (hiz : Z.contains i = false) : listed.getD i false = true := by
  have h1 := List.all_eq_true.1 (List.all_eq_true.1 hl z (by simpa using hz)) i (List.mem_range.2 hi)
  rw [hiz, Bool.false_or] at h1
  exact clo_listed (L := fun x => listed.getD x false = true) (fun j hj p hp => hd j hj p hp) ops.size _ (ready_preds hzr) i (by simpa using h1)
/-- whatever order is picked from here on, and S behind every operation that is not a late one -/
def wpAnyE (P : Program) (md : Region.Mode) (ops : Array Oper) (Q : Exit → Act → World → Prop) (S : World → Prop) (Z : List Nat) : Nat → Array Bool → Act → World → Prop
  | 0, listed, a, w => Region.ready md ops listed = [] ∧ Q .normal a w
  | fuel + 1, listed, a, w =>
    (Region.ready md ops listed = [] → Q .normal a w) ∧
    ∀ i ∈ Region.ready md ops listed, wpOp P ops Q i (fun a' w' => (Z.contains i = true ∨ S w') ∧ wpAnyE P md ops Q S Z fuel (listed.setIfInBounds i true) a' w') a w
theorem wpAny_of_e : ∀ (fuel : Nat) (listed : Array Bool) (a : Act) (w : World), wpAnyE P md ops Q S Z fuel listed a w → wpAny P md ops Q fuel listed a w
  | 0, _, _, _, h => h
  | fuel + 1, _, _, _, h => ⟨h.1, fun i hi => wpOp_mono (fun a' w' h' => wpAny_of_e fuel _ a' w' h'.2) (h.2 i hi)⟩
theorem wpAnyE_first {i : Nat} {oi : Oper} {v : Value} (hi : ops[i]? = some oi) (hlate : lateB md ops Z = true) (hiz : Z.contains i = false) (hsel : ∀ (j : Nat) (o : Oper) cs b, ops[j]? = some o → o.op ≠ .select cs b)
    (hQ : ∀ c a w, Q (.panic c) (a.put oi.dst v) w → Q (.panic c) a w) :
    ∀ (fuel : Nat) (listed : Array Bool) (a : Act) (w : World), Dc md ops listed →
      (∀ j oj, ops[j]? = some oj → j ≠ i → listed.getD j true = false → (∀ e ∈ oj.after, Region.binds md e = true → e.on ≠ i) → oi.apart ops oj = true) →
      i ∈ Region.ready md ops listed → YieldsIf P ops S oi v a → S w →
      wpAnyE P md ops Q S Z fuel (listed.setIfInBounds i true) (a.put oi.dst v) w → wpAnyE P md ops Q S Z (fuel + 1) listed a w := by
  intro fuel
  induction fuel with
  | zero =>
    intro listed a w _ _ hr hy hS H
    refine ⟨fun h => (by rw [h] at hr; cases hr), fun j hj => ?_⟩
    by_cases hji : j = i
    · subst hji
      exact hy.wpOp hi hS ⟨.inr hS, H⟩
    · have := ready_mono hj hji
      rw [H.1] at this
      cases this
  | succ fuel ih =>
    intro listed a w hdc hfree hr hy hS H
    refine ⟨fun h => (by rw [h] at hr; cases hr), fun j hj => ?_⟩
    by_cases hji : j = i
    · subst hji
      exact hy.wpOp hi hS ⟨.inr hS, H⟩
    · have h1 := H.2 j (ready_mono hj hji)
      obtain ⟨hjun, oj, hoj, hall⟩ := mem_ready.1 hj
      have hnot : ∀ e ∈ oj.after, Region.binds md e = true → e.on ≠ i := fun e he hb heq => by
        have h1 := hall e he hb
        have h0 := (mem_ready.1 hr).1
        rw [heq] at h1
        rcases Nat.lt_or_ge i listed.size with h' | h'
        · simp [h'] at h0 h1
          rw [h0] at h1
          cases h1
        · simp [Array.getElem?_eq_none h'] at h1
      have hjz : Z.contains j = false := by
        cases hz : Z.contains j with
        | false => rfl
        | true =>
          have hil := late_waits hlate hdc hz hj (Array.getElem?_eq_some_iff.1 hi).1 hiz
          have h0 := (mem_ready.1 hr).1
          rcases Nat.lt_or_ge i listed.size with h' | h'
          · simp [h'] at h0 hil
            rw [h0] at hil
            cases hil
          · simp [Array.getElem?_eq_none h'] at hil
      have h2 := wpOp_putIf hoj (hfree j oj hoj hji hjun hnot) (fun cs b => hsel i oi cs b hi) (fun cs b => hsel j oj cs b hoj) hQ hy h1
      have hfree' : ∀ k ok, ops[k]? = some ok → k ≠ i → (listed.setIfInBounds j true).getD k true = false →
          (∀ e ∈ ok.after, Region.binds md e = true → e.on ≠ i) → oi.apart ops ok = true := fun k ok hk hki hun hno => by
        refine hfree k ok hk hki ?_ hno
        by_cases hjk : j = k
        · subst hjk
          exact hjun
        · rw [getD_set_ne true hjk] at hun
          exact hun
      refine wpOp_mono (fun a' w' h3 => ?_) h2
      obtain ⟨hy', hS', hrest⟩ := h3
      rcases hS' with hS' | hS'
      · rw [hjz] at hS'
        cases hS'
      · exact ⟨.inr hS', ih (listed.setIfInBounds j true) a' w' (dc_set hdc hj) hfree' (ready_mono hr (Ne.symm hji)) hy' hS' (by rw [Array.setIfInBounds_comm _ _ hji]; exact hrest)⟩
/-- the beginning -/
theorem region_e {id : Nat} {a : Act} {w : World} (S : World → Prop) (Z : List Nat) (hm : P.follows .mixedOrders = true) (hS : S w.drew)
    (h : S w.drew → wpAnyE P .any ops Q S Z ops.size (Array.replicate ops.size false) a w.drew) : (Code.region id ops true).wp P Q a w :=
  wp_region_any hm (wpAny_of_e _ _ _ _ (h hS))
/-- all that is asked of an operation that is taken first, but what it yields -/
def okB (md : Region.Mode) (ops : Array Oper) (Z : List Nat) (listed : Array Bool) (i : Nat) : Bool :=
  lateB md ops Z && (!Z.contains i && (Nat.ble listed.size ops.size && (dcB md ops listed && (Region.noSelect ops && (Region.free md ops listed i && (Region.ready md ops listed).contains i)))))
/-- an operation that is not wanted is passed over -/
theorem skip_op (i : Nat) (d : Option Tmp) {fuel : Nat} {listed : Array Bool} {a : Act} {w : World} (hc : okB md ops Z listed i = true) (hd : (ops[i]?).map (·.dst) = some d)
    (hw : (ops[i]?).map (fun o => Region.wanted o (yielded ops a.tmps)) = some false)
    (hQ : ∀ c a w, Q (.panic c) (a.put d undef) w → Q (.panic c) a w) (hS : S w)
    (h : wpAnyE P md ops Q S Z fuel (listed.setIfInBounds i true) (a.put d undef) w) : wpAnyE P md ops Q S Z (fuel + 1) listed a w := by
  simp only [okB, Bool.and_eq_true, Bool.not_eq_true'] at hc
  obtain ⟨hl, hz, hsz, hdc, hs, hf, hr⟩ := hc
  cases ho : ops[i]? with
  | none => rw [ho] at hd; cases hd
  | some o =>
    rw [ho] at hd hw
    simp only [Option.map_some, Option.some.injEq] at hd hw
    subst hd
    exact wpAnyE_first ho hl hz (Region.noSelect_spec hs) hQ fuel listed a w (dc_of (Nat.le_of_ble_eq_true hsz) hdc) (Region.free_spec ho hf) (by simpa using hr) (Or.inr ⟨hw, rfl⟩) hS h
/-- an operation that yields a value in every world that meets S is taken first -/
theorem take_op (i : Nat) (d : Option Tmp) (op : Op) (t : TypeId) (v : Value) {fuel : Nat} {listed : Array Bool} {a : Act} {w : World} (hc : okB md ops Z listed i = true) (hd : (ops[i]?).map (fun o => (o.dst, o.op, o.type)) = some (d, op, t))
    (hw : (ops[i]?).map (fun o => Region.wanted o (yielded ops a.tmps)) = some true)
    (hQ : ∀ c a w, Q (.panic c) (a.put d v) w → Q (.panic c) a w)
    (hy : ∀ w, S w → (execOp a.eval { dst := d, op := op, type := t, pos := "", after := #[], guard := none }).run P w = .ok (.value v) w) (hS : S w)
    (h : wpAnyE P md ops Q S Z fuel (listed.setIfInBounds i true) (a.put d v) w) : wpAnyE P md ops Q S Z (fuel + 1) listed a w := by
  simp only [okB, Bool.and_eq_true, Bool.not_eq_true'] at hc
  obtain ⟨hl, hz, hsz, hdc, hs, hf, hr⟩ := hc
  cases ho : ops[i]? with
  | none => rw [ho] at hd; cases hd
  | some o =>
    rw [ho] at hd hw
    simp only [Option.map_some, Option.some.injEq, Prod.mk.injEq] at hd hw
    obtain ⟨rfl, rfl, rfl⟩ := hd
    exact wpAnyE_first ho hl hz (Region.noSelect_spec hs) hQ fuel listed a w (dc_of (Nat.le_of_ble_eq_true hsz) hdc) (Region.free_spec ho hf) (by simpa using hr) (Or.inl ⟨hw, fun w' hS' => hy w' hS'⟩) hS h
def AllReadyE (P : Program) (md : Region.Mode) (ops : Array Oper) (Q : Exit → Act → World → Prop) (S : World → Prop) (Z : List Nat) (fuel : Nat) (listed : Array Bool) (a : Act) (w : World) (rs : List Nat) : Prop :=
  ∀ i ∈ rs, wpOp P ops Q i (fun a' w' => (Z.contains i = true ∨ S w') ∧ wpAnyE P md ops Q S Z fuel (listed.setIfInBounds i true) a' w') a w
theorem ready_e {rs : List Nat} {fuel : Nat} {listed : Array Bool} {a : Act} {w : World} (hr : Region.ready md ops listed = rs) (hne : rs ≠ [])
    (h : AllReadyE P md ops Q S Z fuel listed a w rs) : wpAnyE P md ops Q S Z (fuel + 1) listed a w := ⟨fun h0 => absurd (hr ▸ h0) hne, hr ▸ h⟩
theorem none_e {fuel : Nat} {listed : Array Bool} {a : Act} {w : World} : AllReadyE P md ops Q S Z fuel listed a w [] := fun _ h => by cases h
/-- an operation is carried out; S is shown anew -/
theorem do_mid {fuel : Nat} {listed : Array Bool} {a : Act} {w : World} {i : Nat} {o : Oper} {rs : List Nat} (ho : ops[i]? = some o)
    (h : ∀ K' : Act → World → Prop, Shut (∀ a w, S w → (S w → wpAnyE P md ops Q S Z fuel (listed.setIfInBounds i true) a w) → K' a w) → if Region.wanted o (yielded ops a.tmps) = true then Oper.wp P o a w K' Q else K' (a.put o.dst undef) w)
    (hs : AllReadyE P md ops Q S Z fuel listed a w rs) : AllReadyE P md ops Q S Z fuel listed a w (i :: rs) := fun j hj => by
  rcases List.mem_cons.1 hj with rfl | hj
  · exact wpOp_step ho (fun K' hK => h K' (fun a w hS hW => hK a w ⟨.inr hS, hW hS⟩))
  · exact hs j hj
/-- a late one is carried out -/
theorem do_late {fuel : Nat} {listed : Array Bool} {a : Act} {w : World} {i : Nat} {o : Oper} {rs : List Nat} (ho : ops[i]? = some o) (hz : Z.contains i = true)
    (h : ∀ K' : Act → World → Prop, Shut (∀ a w, wpAnyE P md ops Q S Z fuel (listed.setIfInBounds i true) a w → K' a w) → if Region.wanted o (yielded ops a.tmps) = true then Oper.wp P o a w K' Q else K' (a.put o.dst undef) w)
    (hs : AllReadyE P md ops Q S Z fuel listed a w rs) : AllReadyE P md ops Q S Z fuel listed a w (i :: rs) := fun j hj => by
  rcases List.mem_cons.1 hj with rfl | hj
  · exact wpOp_step ho (fun K' hK => h K' (fun a w hW => hK a w ⟨.inl hz, hW⟩))
  · exact hs j hj
theorem done_e {listed : Array Bool} {a : Act} {w : World} (hr : Region.ready md ops listed = []) (h : Q .normal a w) : ∀ fuel, wpAnyE P md ops Q S Z fuel listed a w
  | 0 => ⟨hr, h⟩
  | _ + 1 => ⟨fun _ => h, by rw [hr]; simp⟩
end
end Go.Proofs.Ythjecikdkdjlaaa
