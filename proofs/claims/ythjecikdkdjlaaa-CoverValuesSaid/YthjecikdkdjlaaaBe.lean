/- The map from heads to columns, as it grows. -/
import Derived.Test.YthjecikdkdjlaaaFi
import Derived.Maps.RangeWalk
namespace Go.Proofs.Ythjecikdkdjlaaa
open Go.RowKit

/-- a head's block of columns: each a slice, and what it holds -/
structure Ent where
  g : Nat
  cols : List (Value × List T)
def nilS : Value := .slice none 0 0
def entV : Option Ent → Value
  | none => .slice none 0 0
  | some x => .slice (some ⟨x.g, 0, none⟩) x.cols.length x.cols.length
open Classical in
noncomputable def RS (v : Value) : Option (DataW Value × List MemPlace) := if ∃ a n c, v = .slice a n c then some (.held v, []) else none
theorem rs_mk (a : Option Addr) (n c : Nat) : RS (.slice a n c) = some (.held (.slice a n c), []) := by
  unfold RS
  exact if_pos ⟨_, _, _, rfl⟩
theorem rs_inv {v : Value} {z : DataW Value × List MemPlace} (h : RS v = some z) : (∃ a n c, v = .slice a n c) ∧ z = (.held v, []) := by
  unfold RS at h
  split at h
  · cases h
    exact ⟨by assumption, rfl⟩
  · cases h
theorem zeroV69 (w : World) : (zeroValue 69).run Try.prog w = .ok (.slice none 0 0) w := by kernel_rfl
structure Bl (base B : Nat) (W0 w : World) (mb n : Nat) (E : Hd → Option Ent) : Prop where
  map : ∃ D : DataW Value, w.ownsMap Try.prog 66 RS mb n D ∧ (∀ h kl, keyOf Try.prog 66 (hdV h) = some kl → D.atKey kl (.held nilS) = .held (entV (E h)) ∧ Maps.has D kl = (E h).isSome) ∧ ∀ kl, Maps.has D kl = true → ∃ h, keyOf Try.prog 66 (hdV h) = some kl
  blk : ∀ h x, E h = some x → B ≤ x.g ∧ w.heap[x.g]? = some (.cells (x.cols.map Prod.fst).toArray 22 (0, 0))
  col : ∀ h x, E h = some x → ∀ (k : Nat) (c : Value × List T), x.cols[k]? = some c → OutP base B W0 w c.1 c.2
  ginj : ∀ h h' x x', E h = some x → E h' = some x' → x.g = x'.g → h = h'
  oinj : ∀ (h : Hd) (x : Ent) (k : Nat) (c : Value × List T) (h' : Hd) (x' : Ent) (k' : Nat) (c' : Value × List T) (b : Nat), E h = some x → x.cols[k]? = some c → E h' = some x' → x'.cols[k']? = some c' → c.1.ownBlock = some b → c'.1.ownBlock = some b → h = h' ∧ k = k'
theorem OutP.own {base B : Nat} {W0 w : World} {v : Value} {acc : List T} (h : OutP base B W0 w v acc) {b : Nat} (hb : v.ownBlock = some b) : B ≤ b ∧ ∃ cur, w.heap[b]? = some (.cells cur 40 (0, 0)) := by
  obtain ⟨es, h1, h2, h3⟩ := h
  rcases h2.2 with ⟨h2, _⟩ | ⟨g, cap, cur, h4, h5, h6, h7⟩
  · rw [h2] at hb
    simp [Value.ownBlock] at hb
  · rw [h4] at hb
    have : g = b := by simpa [Value.ownBlock] using hb
    subst this
    exact ⟨h5, cur, h6⟩
theorem OutP.block {base B : Nat} {S : Nat → Prop} {W0 w w' : World} {v : Value} {acc : List T} (h : OutP base B W0 w v acc) (hf : Fr S w w') (hs : ∀ b, v.ownBlock = some b → ¬ S b) : OutP base B W0 w' v acc := by
  obtain ⟨vs, h1, h2, h3⟩ := h
  refine ⟨vs, h1, ⟨h2.1, ?_⟩, h3⟩
  rcases h2.2 with h2 | ⟨g, cap, cur, h4, h5, h6, h7⟩
  · exact .inl h2
  · exact .inr ⟨g, cap, cur, h4, h5, hf.keeps h6 (hs g (by rw [h4]; rfl)), h7⟩
theorem Bl.mb_map {base B mb n : Nat} {W0 w : World} {E : Hd → Option Ent} (h : Bl base B W0 w mb n E) : ∃ es c, w.heap[mb]? = some (.map es c) := by
  obtain ⟨D, ⟨es, c, hm, _⟩, _⟩ := h.map
  exact ⟨es, c, hm⟩
/-- the state stays where none of its blocks is written -/
theorem Bl.fr {base B mb n : Nat} {W0 w w' : World} {E : Hd → Option Ent} {S : Nat → Prop} (h : Bl base B W0 w mb n E) (hf : Fr S w w') (hs : ∀ b, b < w.heap.size → S b → b < B ∨ ∃ cs t z, w.heap[b]? = some (.cells cs t z) ∧ t ≠ 40 ∧ t ≠ 22) (hmb : B ≤ mb) : Bl base B W0 w' mb n E := by
  have hS : ∀ b, S b → B ≤ b → ∀ {o : Obj}, w.heap[b]? = some o → ∃ cs t z, o = .cells cs t z ∧ t ≠ 40 ∧ t ≠ 22 := by
    intro b hb hB o ho
    rcases hs b (lt_of_block ho) hb with h1 | ⟨cs, t, z, h1, h2, h3⟩
    · omega
    · rw [h1] at ho
      cases ho
      exact ⟨cs, t, z, rfl, h2, h3⟩
  obtain ⟨h1, h2, h3, h4, h5⟩ := h
  refine ⟨?_, fun k x hx => ⟨(h2 k x hx).1, hf.keeps (h2 k x hx).2 fun hb => ?_⟩, fun k x hx j c hj => (h3 k x hx j c hj).block hf fun b hb hSb => ?_, h4, h5⟩
  · obtain ⟨D, hD, h6, h7⟩ := h1
    refine ⟨D, ownsMap_fr hD hf fun hb => ?_, h6, h7⟩
    obtain ⟨es, c, hm, _⟩ := hD
    obtain ⟨cs, t, z, e, _⟩ := hS mb hb hmb hm
    cases e
  · obtain ⟨cs, t, z, e, _, e2⟩ := hS x.g hb (h2 k x hx).1 (h2 k x hx).2
    cases e
    exact e2 rfl
  · obtain ⟨hB, cur, hc⟩ := (h3 k x hx j c hj).own hb
    obtain ⟨cs, t, z, e, e2, _⟩ := hS b hSb hB hc
    cases e
    exact e2 rfl
theorem Bl.no {base B mb n : Nat} {W0 w w' : World} {E : Hd → Option Ent} (h : Bl base B W0 w mb n E) (hf : Fr No w w') : Bl base B W0 w' mb n E := by
  obtain ⟨h1, h2, h3, h4, h5⟩ := h
  refine ⟨?_, fun k x hx => ⟨(h2 k x hx).1, hf.keeps (h2 k x hx).2 no_one⟩, fun k x hx j c hj => (h3 k x hx j c hj).no hf, h4, h5⟩
  obtain ⟨D, hD, h6, h7⟩ := h1
  exact ⟨D, ownsMap_fr hD hf no_one, h6, h7⟩
theorem Bl.mono {base B mb n m : Nat} {W0 w : World} {E : Hd → Option Ent} (h : Bl base B W0 w mb n E) (hm : n ≤ m) : Bl base B W0 w mb m E := by
  obtain ⟨⟨D, hD, h6, h7⟩, h2, h3, h4, h5⟩ := h
  exact ⟨⟨D, hD.mono hm, h6, h7⟩, h2, h3, h4, h5⟩
theorem Bl.start {base B mb : Nat} {W0 w : World} (h : w.ownsMap Try.prog 66 RS mb 0 (.map [])) : Bl base B W0 w mb 0 (fun _ => none) :=
  ⟨⟨_, h, fun _ _ _ => ⟨rfl, rfl⟩, fun kl hk => by cases hk⟩, fun _ _ e => (by cases e), fun _ _ e => (by cases e), fun _ _ _ _ e => (by cases e), fun _ _ _ _ _ _ _ _ _ e => (by cases e)⟩
theorem entV_slice (e : Option Ent) : ∃ a n c, entV e = .slice a n c := by
  cases e <;> exact ⟨_, _, _, rfl⟩
theorem Bl.look {base B mb n : Nat} {W0 w : World} {E : Hd → Option Ent} (h : Bl base B W0 w mb n E) {k : Hd} {kl : Lit} (hk : keyOf Try.prog 66 (hdV k) = some kl) :
    (Instr.lookup 63 (.map (some mb)) (hdV k) false).run Try.prog w = .ok (entV (E k)) w := by
  obtain ⟨D, hD, h1, h2⟩ := h.map
  obtain ⟨v, ps, hr, hv⟩ := hD.lookup keyed66 Try.underlying63 (zeroV69 w) (rs_mk none 0 0) hk
  obtain ⟨_, e⟩ := rs_inv hv
  have e2 := (h1 k kl hk).1
  simp only [Prod.mk.injEq] at e
  have e3 : (DataW.held v : DataW Value) = .held (entV (E k)) := e.1.symm.trans e2
  cases e3
  exact hr
open Classical in
noncomputable def upd (E : Hd → Option Ent) (k : Hd) (x : Ent) : Hd → Option Ent := fun h => if h = k then some x else E h
theorem upd_same (E : Hd → Option Ent) (k : Hd) (x : Ent) : upd E k x k = some x := by simp [upd]
theorem upd_other (E : Hd → Option Ent) {k h : Hd} (x : Ent) (hn : h ≠ k) : upd E k x h = E h := by simp [upd, hn]
/-- a new head -/
theorem Bl.new {base B mb n : Nat} {W0 w w1 : World} {E : Hd → Option Ent} (h : Bl base B W0 w mb n E) {k : Hd} {kl : Lit} (hk : keyOf Try.prog 66 (hdV k) = some kl) (hE : E k = none) (hn : n < maxLen) (hf : Fr No w w1) {g m : Nat} (hg : w.heap.size ≤ g) (hB : B ≤ w.heap.size) (hmb : B ≤ mb)
    (hblk : w1.heap[g]? = some (.cells (List.replicate m nilS).toArray 22 (0, 0))) :
    ∃ w2, (Instr.mapUpdate 63 (.map (some mb)) (hdV k) (.slice (some ⟨g, 0, none⟩) m m)).run Try.prog w1 = .ok () w2 ∧ Fr (Just mb) w1 w2 ∧ Bl base B W0 w2 mb (n + 1) (upd E k ⟨g, List.replicate m (nilS, [])⟩) := by
  have h' := h.no hf
  obtain ⟨⟨D, hD, h1, h2⟩, hb, hc, hgi, hoi⟩ := h'
  obtain ⟨w2, hr, hown, hgr⟩ := hD.update keyed66 Try.underlying63 hn hk (rs_mk (some ⟨g, 0, none⟩) m m)
  have hfr : Fr (Just mb) w1 w2 := Fr.grownR hgr (fun i e => by cases e; rfl)
  obtain ⟨es, clk, hmap⟩ := (h.no hf).mb_map
  have hnm : ∀ b c t z, w1.heap[b]? = some (.cells c t z) → ¬ Just mb b := by
    intro b c t z hx e
    have e : b = mb := e
    subst e
    rw [hmap] at hx
    cases hx
  refine ⟨w2, hr, hfr, ⟨_, hown, fun h' kl' hk' => ?_, fun kl' hkl' => ?_⟩, fun h' x hx => ?_, fun h' x hx j c hj => ?_, fun h1' h2' x x' e1 e2 e3 => ?_, fun h1' x j c h2' x' j' c' b e1 e2 e3 e4 e5 e6 => ?_⟩
  · by_cases e : h' = k
    · subst e
      rw [hk] at hk'
      cases hk'
      rw [upd_same, Maps.atKey_put_same (ownsMap_isMap hD) (keyed66.key hk), Maps.has_put_same (ownsMap_isMap hD) (keyed66.key hk)]
      simp [entV]
    · have hne : kl' ≠ kl := fun e2 => by
        subst e2
        exact e (hdV_inj (keyed66.inj hk' hk))
      rw [upd_other _ _ e, Maps.atKey_put_other hne, Maps.has_put_other hne]
      exact h1 h' kl' hk'
  · by_cases e : kl' = kl
    · subst e
      exact ⟨k, hk⟩
    · rw [Maps.has_put_other e] at hkl'
      exact h2 kl' hkl'
  · by_cases e : h' = k
    · subst e
      rw [upd_same] at hx
      cases hx
      refine ⟨by simp only; omega, hfr.keeps ?_ (hnm _ _ _ _ hblk)⟩
      rw [List.map_replicate]
      exact hblk
    · rw [upd_other _ _ e] at hx
      exact ⟨(hb h' x hx).1, hfr.keeps (hb h' x hx).2 (hnm _ _ _ _ (hb h' x hx).2)⟩
  · by_cases e : h' = k
    · subst e
      rw [upd_same] at hx
      cases hx
      have : c = (nilS, []) := List.eq_of_mem_replicate (List.mem_of_getElem? hj)
      subst this
      exact OutP.nil _ _ _ _
    · rw [upd_other _ _ e] at hx
      refine (hc h' x hx j c hj).block hfr fun b hb' hS => ?_
      obtain ⟨_, cur, hcur⟩ := (hc h' x hx j c hj).own hb'
      exact hnm _ _ _ _ hcur hS
  · have hlt : ∀ h' x, h' ≠ k → upd E k ⟨g, List.replicate m (nilS, [])⟩ h' = some x → x.g < w.heap.size := by
      intro h' x hne hx
      rw [upd_other _ _ hne] at hx
      exact lt_of_block (h.blk h' x hx).2
    by_cases ea : h1' = k
    · by_cases eb : h2' = k
      · rw [ea, eb]
      · have := hlt _ _ eb e2
        rw [ea, upd_same] at e1
        cases e1
        simp only at e3
        omega
    · by_cases eb : h2' = k
      · have := hlt _ _ ea e1
        rw [eb, upd_same] at e2
        cases e2
        simp only at e3
        omega
      · rw [upd_other _ _ ea] at e1
        rw [upd_other _ _ eb] at e2
        exact hgi _ _ _ _ e1 e2 e3
  · have hno : ∀ (x : Ent) (j : Nat) (c : Value × List T) (b : Nat), upd E k ⟨g, List.replicate m (nilS, [])⟩ k = some x → x.cols[j]? = some c → c.1.ownBlock = some b → False := by
      intro x j c b hx hj hb
      rw [upd_same] at hx
      cases hx
      have : c = (nilS, []) := List.eq_of_mem_replicate (List.mem_of_getElem? hj)
      subst this
      simp [nilS, Value.ownBlock] at hb
    by_cases ea : h1' = k
    · subst ea
      exact (hno _ _ _ _ e1 e2 e5).elim
    · by_cases eb : h2' = k
      · subst eb
        exact (hno _ _ _ _ e3 e4 e6).elim
      · rw [upd_other _ _ ea] at e1
        rw [upd_other _ _ eb] at e3
        exact hoi _ _ _ _ _ _ _ _ _ e1 e2 e3 e4 e5 e6
/-- a column grows by one -/
theorem Bl.app {base B mb n : Nat} {W0 w w1 : World} {E : Hd → Option Ent} (h : Bl base B W0 w mb n E) {h0 : Hd} {x : Ent} (hE : E h0 = some x) {k : Nat} {v v' : Value} {c c' : List T} (hk : x.cols[k]? = some (v, c)) (hmb : B ≤ mb)
    (hf : Fr (fun j => B ≤ j ∧ some j = v.ownBlock) w w1) (ho : OutP base B W0 w1 v' c') (hat : v'.ownBlock = v.ownBlock ∨ ∃ g, v'.ownBlock = some g ∧ w.heap.size ≤ g) :
    Bl base B W0 (w1.setCell ⟨x.g, k, none⟩ v') mb n (upd E h0 ⟨x.g, x.cols.set k (v', c')⟩) ∧ Fr (fun j => j = x.g ∨ (B ≤ j ∧ some j = v.ownBlock)) w (w1.setCell ⟨x.g, k, none⟩ v') := by
  obtain ⟨⟨D, hD, h1, h2⟩, hb, hc, hgi, hoi⟩ := h
  have hfr := Fr.setCell w1 ⟨x.g, k, none⟩ v'
  have hF : Fr (fun j => j = x.g ∨ (B ≤ j ∧ some j = v.ownBlock)) w (w1.setCell ⟨x.g, k, none⟩ v') := (hf.mono (fun i _ hi => .inr hi)).trans hfr (fun i _ e => .inl e)
  obtain ⟨hgx, hblk⟩ := hb h0 x hE
  have hcv := hc h0 x hE k _ hk
  have hmap : ∃ es clk, w.heap[mb]? = some (.map es clk) := by
    obtain ⟨es, clk, hm, _⟩ := hD
    exact ⟨es, clk, hm⟩
  -- the blocks that are written are the column's own and its head's
  have hT : ∀ j, (j = x.g ∨ (B ≤ j ∧ some j = v.ownBlock)) → ∃ cs t, w.heap[j]? = some (.cells cs t (0, 0)) ∧ (t = 22 → j = x.g) ∧ (t = 40 → v.ownBlock = some j) ∧ (t = 22 ∨ t = 40) := by
    rintro j (rfl | ⟨_, e⟩)
    · exact ⟨_, _, hblk, fun _ => rfl, fun e => (by cases e), .inl rfl⟩
    · obtain ⟨_, cur, hcur⟩ := hcv.own e.symm
      exact ⟨_, _, hcur, fun e => (by cases e), fun _ => e.symm, .inr rfl⟩
  have hkl : k < x.cols.length := (List.getElem?_eq_some_iff.1 hk).1
  refine ⟨⟨⟨D, ownsMap_fr hD hF fun e => ?_, fun h' kl' hk' => ?_, h2⟩, fun h' y hy => ?_, fun h' y hy j d hj => ?_, fun h1' h2' y y' e1 e2 e3 => ?_, fun h1' y j d h2' y' j' d' b e1 e2 e3 e4 e5 e6 => ?_⟩, hF⟩
  · obtain ⟨cs, t, e1, _⟩ := hT mb e
    obtain ⟨es, clk, e2⟩ := hmap
    rw [e2] at e1
    cases e1
  · by_cases e : h' = h0
    · subst e
      rw [upd_same]
      have := h1 h' kl' hk'
      rw [hE] at this
      refine ⟨this.1.trans ?_, this.2⟩
      simp [entV]
    · rw [upd_other _ _ e]
      exact h1 h' kl' hk'
  · by_cases e : h' = h0
    · subst e
      rw [upd_same] at hy
      cases hy
      refine ⟨hgx, ?_⟩
      have hnx : ¬ (B ≤ x.g ∧ some x.g = v.ownBlock) := by
        rintro ⟨_, e⟩
        obtain ⟨_, cur, hcur⟩ := hcv.own e.symm
        rw [hblk] at hcur
        cases hcur
      have h3 := block_setCell (hf.keeps hblk hnx) k v'
      rw [h3]
      congr 2
      rw [List.map_set, List.setIfInBounds_toArray]
    · rw [upd_other _ _ e] at hy
      refine ⟨(hb h' y hy).1, hF.keeps (hb h' y hy).2 fun hj => ?_⟩
      obtain ⟨cs, t, e1, e2, _⟩ := hT _ hj
      rw [(hb h' y hy).2] at e1
      cases e1
      exact e (hgi _ _ _ _ hy hE (e2 rfl))
  · have hother : ∀ (d : Value × List T), OutP base B W0 w d.1 d.2 → (∀ b, d.1.ownBlock = some b → v.ownBlock ≠ some b) → OutP base B W0 (w1.setCell ⟨x.g, k, none⟩ v') d.1 d.2 := by
      intro d hd hne
      refine hd.block hF fun b hb' hj => ?_
      obtain ⟨_, cur, hcur⟩ := hd.own hb'
      obtain ⟨cs, t, e1, _, e3, _⟩ := hT _ hj
      rw [hcur] at e1
      cases e1
      exact hne b hb' (e3 rfl)
    by_cases e : h' = h0
    · subst e
      rw [upd_same] at hy
      cases hy
      simp only at hj
      by_cases ej : j = k
      · subst ej
        rw [List.getElem?_set_self hkl] at hj
        cases hj
        refine ho.block hfr fun b hb' hS => ?_
        obtain ⟨_, cur, hcur⟩ := ho.own hb'
        have hS : b = x.g := hS
        subst hS
        have hnx : ¬ (B ≤ x.g ∧ some x.g = v.ownBlock) := by
          rintro ⟨_, e⟩
          obtain ⟨_, cur, hcur⟩ := hcv.own e.symm
          rw [hblk] at hcur
          cases hcur
        rw [hf.keeps hblk hnx] at hcur
        cases hcur
      · rw [List.getElem?_set_ne (Ne.symm ej)] at hj
        exact hother d (hc _ _ hE j d hj) fun b hb' hv => ej (hoi _ _ _ _ _ _ _ _ b hE hj hE hk hb' hv).2
    · rw [upd_other _ _ e] at hy
      exact hother d (hc _ _ hy j d hj) fun b hb' hv => e (hoi _ _ _ _ _ _ _ _ b hy hj hE hk hb' hv).1
  · by_cases ea : h1' = h0
    · by_cases eb : h2' = h0
      · rw [ea, eb]
      · rw [ea, upd_same] at e1
        cases e1
        rw [upd_other _ _ eb] at e2
        rw [ea]
        exact hgi _ _ _ _ hE e2 e3
    · by_cases eb : h2' = h0
      · rw [eb, upd_same] at e2
        cases e2
        rw [upd_other _ _ ea] at e1
        rw [eb]
        exact hgi _ _ _ _ e1 hE e3
      · rw [upd_other _ _ ea] at e1
        rw [upd_other _ _ eb] at e2
        exact hgi _ _ _ _ e1 e2 e3
  · -- an owned block: the column's old one, or an older column's, or a new one
    have key : ∀ (h' : Hd) (y : Ent) (j : Nat) (d : Value × List T) (b : Nat), upd E h0 ⟨x.g, x.cols.set k (v', c')⟩ h' = some y → y.cols[j]? = some d → d.1.ownBlock = some b → (h' = h0 ∧ j = k ∧ d = (v', c')) ∨ (∃ y0, E h' = some y0 ∧ y0.cols[j]? = some d ∧ ¬ (h' = h0 ∧ j = k)) := by
      intro h' y j d b hy hj hb'
      by_cases e : h' = h0
      · subst e
        rw [upd_same] at hy
        cases hy
        simp only at hj
        by_cases ej : j = k
        · subst ej
          rw [List.getElem?_set_self hkl] at hj
          cases hj
          exact .inl ⟨rfl, rfl, rfl⟩
        · rw [List.getElem?_set_ne (Ne.symm ej)] at hj
          exact .inr ⟨x, hE, hj, fun e => ej e.2⟩
      · rw [upd_other _ _ e] at hy
        exact .inr ⟨y, hy, hj, fun e2 => e e2.1⟩
    have hold : ∀ (h' : Hd) (y0 : Ent) (j : Nat) (d : Value × List T) (b : Nat), E h' = some y0 → y0.cols[j]? = some d → ¬ (h' = h0 ∧ j = k) → d.1.ownBlock = some b → v'.ownBlock = some b → False := by
      intro h' y0 j d b hy hj hne hb1 hb2
      rcases hat with e | ⟨g, e, hg⟩
      · rw [e] at hb2
        exact hne (hoi _ _ _ _ _ _ _ _ b hy hj hE hk hb1 hb2)
      · rw [e] at hb2
        cases hb2
        obtain ⟨_, cur, hcur⟩ := (hc _ _ hy j d hj).own hb1
        have := lt_of_block hcur
        omega
    rcases key _ _ _ _ _ e1 e2 e5 with ⟨a1, a2, a3⟩ | ⟨y0, a1, a2, a3⟩ <;> rcases key _ _ _ _ _ e3 e4 e6 with ⟨b1, b2, b3⟩ | ⟨y1, b1, b2, b3⟩
    · exact ⟨a1.trans b1.symm, a2.trans b2.symm⟩
    · rw [a3] at e5
      exact (hold _ _ _ _ _ b1 b2 b3 e6 e5).elim
    · rw [b3] at e6
      exact (hold _ _ _ _ _ a1 a2 a3 e5 e6).elim
    · exact hoi _ _ _ _ _ _ _ _ _ a1 a2 b1 b2 e5 e6
end Go.Proofs.Ythjecikdkdjlaaa
