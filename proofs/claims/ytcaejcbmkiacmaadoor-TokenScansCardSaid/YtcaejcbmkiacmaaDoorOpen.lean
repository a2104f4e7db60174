/- What the laws' arguments are in memory: bytes; and the tables of words and signs. -/
import Derived.Test.YtcaejcbmkiacmaaDoorPost
import Derived.Test.YtcaejcbmkiacmaaDoorWi
import Derived.LaidMore
import Derived.ChangeMaps5
namespace Go.Proofs.YtcaejcbmkiacmaaDoor
open Go.ChangeShapes Go.WideShapes Go.ChangeAt Go.RowKit Go.Deep

theorem own : ownKnob Tryd.prog.godebug = none := by kernel_rfl
theorem gWords : Tryd.prog.globalNamed "aumbry/token.words" = some 0 := by kernel_rfl
theorem gSigns : Tryd.prog.globalNamed "aumbry/token.signs" = some 1 := by kernel_rfl
theorem gWordsType : (Tryd.prog.globals[0]?).map (·.type) = some 35 := by kernel_rfl
theorem gSignsType : (Tryd.prog.globals[1]?).map (·.type) = some 35 := by kernel_rfl
theorem cells5 : Tryd.prog.cellsOf 5 = 1 := by kernel_rfl
theorem cells9 : Tryd.prog.cellsOf 9 = 1 := by kernel_rfl
theorem laidOut : laidOutB Tryd.prog = true := by kernel_rfl
theorem under35 : Tryd.prog.underlying 35 = some (.slice 9) := by kernel_rfl

theorem strs_of {W : World} {fuel : Nat} {cs : List Value} {g : Nat} {l : List Bs} {q : List MemPlace} (h : DataW.trod (fun _ => ()) Tryd.prog W 0 (fun _ => true) false fuel 35 cs = some (.slice (l.map fun x => .lit (.string x)) [], q))
    (hc : ∀ v, cs[0]? = some v → W.cell? ⟨g, 0, none⟩ = some v) (h0 : l ≠ []) : Strs W g l := by
  obtain ⟨a, cap, rfl, hl, hi⟩ := open_row under35 cells9 h
  have hcell : ∀ (i : Nat) (x : Bs), l[i]? = some x → W.cell? (a.add i) = some (.string (mk x)) := by
    intro i x hx
    obtain ⟨v, n, q', hv, ht⟩ := hi i (.lit (.string x)) (by rw [List.getElem?_map, hx]; rfl)
    obtain ⟨s, hs, hd, _⟩ := DataW.trod_string Tryd.underlying9 ht
    simp only [List.cons.injEq, and_true] at hs
    subst hs
    simp only [Prod.mk.injEq, DataW.lit.injEq, Lit.string.injEq] at hd
    rw [hv, hd.1, mk_of]
  have hc0 := hc _ rfl
  obtain ⟨x0, hx0⟩ : ∃ x, l[0]? = some x := by
    cases l with
    | nil => exact absurd rfl h0
    | cons x r => exact ⟨x, rfl⟩
  obtain ⟨b, off, rfl, _⟩ := plain_addr (hcell 0 x0 hx0) ⟨_, hcell 0 x0 hx0⟩
  refine ⟨b, off, cap, by simpa using hc0, fun i x hx => ?_⟩
  obtain ⟨b', off', e, h2⟩ := plain_addr (hcell i x hx) ⟨_, hcell 0 x0 hx0⟩
  simp only [Addr.mk.injEq, and_true] at e
  obtain ⟨rfl, rfl⟩ := e
  exact h2
theorem tables_of {W : World} (h : laidMetH Tryd.prog [("aumbry/token.words", Rows.laid_aumbry_token_words), ("aumbry/token.signs", Rows.laid_aumbry_token_signs)] W) : Tables W := by
  obtain ⟨ps, ⟨g, t, cs, fuel, p, q, hg, ht, hvar, hd, hrest, _⟩, _⟩ := h
  obtain ⟨g', t', cs', fuel', p', q', hg', ht', hvar', hd', _, _⟩ := hrest
  obtain rfl := Option.some.inj (gWords.symm.trans hg)
  obtain rfl := Option.some.inj (gWordsType.symm.trans ht)
  obtain rfl := Option.some.inj (gSigns.symm.trans hg')
  obtain rfl := Option.some.inj (gSignsType.symm.trans ht')
  refine ⟨strs_of (l := words) hd (fun v hv => ?_) (by decide), strs_of (l := signs) hd' (fun v hv => ?_) (by decide)⟩
  · have := World.var?_cell gWords hvar 0
    rw [this]
    simpa using hv
  · have := World.var?_cell gSigns hvar' 0
    rw [this]
    simpa using hv
/-- a slice of bytes that came in -/
theorem open_bytes {H : Type} {enc : TypeId × Value → H} {W : World} {base b0 : Nat} {r : Reach} {v : Value} {d : DataW H} {p : List MemPlace} (hv : Value.okWide Tryd.prog W r b0 22 v)
    (h : DataW.Trod enc Tryd.prog W base (fun _ => true) true 22 v d p) : ∃ (a : Option Addr) (cap : Nat) (l : Bs), v = .slice a l.length cap ∧ SrcAt W a l ∧ l.length ≤ cap ∧ cap ≤ maxLen := by
  obtain ⟨a0, len, cap, rfl⟩ := okWide_slice Tryd.underlying22 hv
  obtain ⟨fuel, hf⟩ := h
  rcases open_ints Tryd.underlying22 Tryd.underlying5 cells5 hf with ⟨hcs, _⟩ | ⟨a, len', cap', zs, hcs, _, hlc, hcm, hm, _, hi, hw⟩
  · simp only [Value.cells, List.cons.injEq, Value.slice.injEq] at hcs
    obtain ⟨⟨rfl, rfl, rfl⟩, _⟩ := hcs
    exact ⟨none, 0, [], rfl, fun i x hx => by simp at hx, Nat.le_refl _, Nat.zero_le _⟩
  · simp only [Value.cells, List.cons.injEq, Value.slice.injEq] at hcs
    obtain ⟨⟨rfl, rfl, rfl⟩, _⟩ := hcs
    simp only [if_true] at hm
    refine ⟨some a, cap, (zs.take len).map fun z => z.toNat.toUInt8, by simp [hm, hlc], fun i x hx => ?_, by simp [hm, hlc], hcm⟩
    rw [List.getElem?_map] at hx
    obtain ⟨z, hz, rfl⟩ := Option.map_eq_some_iff.1 hx
    rw [List.getElem?_take] at hz
    split at hz
    · rename_i hil
      have hzi : i < zs.length := by omega
      have hcell := hi i hzi
      have hgd : zs.getD i 0 = z := by rw [List.getD, hz]; rfl
      rw [hgd] at hcell
      have hwf := hw z (List.mem_of_getElem? hz)
      obtain ⟨b, off, ha, hc⟩ := plain_addr hcell ⟨_, hi 0 (by omega)⟩
      refine ⟨b, off, by rw [ha], ?_⟩
      rw [hc]
      have hb : 0 ≤ z ∧ z < 256 := by
        have h1 : IntKind.u8.min ≤ z ∧ z ≤ IntKind.u8.max := by simpa [Lit.wf] using hwf
        have e1 : IntKind.u8.min = 0 := rfl
        have e2 : IntKind.u8.max = 255 := rfl
        omega
      congr 2
      have : z.toNat < 256 := by omega
      simp
      omega
    · cases hz
/-- a slice of bytes that came in; where it is nil it has no room -/
theorem open_bytes2 {H : Type} {enc : TypeId × Value → H} {W : World} {base b0 : Nat} {r : Reach} {v : Value} {d : DataW H} {p : List MemPlace} (hv : Value.okWide Tryd.prog W r b0 22 v)
    (h : DataW.Trod enc Tryd.prog W base (fun _ => true) true 22 v d p) : ∃ (a : Option Addr) (cap : Nat) (l : Bs), v = .slice a l.length cap ∧ SrcAt W a l ∧ l.length ≤ cap ∧ cap ≤ maxLen ∧ (a = none → cap = 0) := by
  obtain ⟨a0, len, cap, rfl⟩ := okWide_slice Tryd.underlying22 hv
  obtain ⟨fuel, hf⟩ := h
  rcases open_ints Tryd.underlying22 Tryd.underlying5 cells5 hf with ⟨hcs, _⟩ | ⟨a, len', cap', zs, hcs, _, hlc, hcm, hm, _, hi, hw⟩
  · simp only [Value.cells, List.cons.injEq, Value.slice.injEq] at hcs
    obtain ⟨⟨rfl, rfl, rfl⟩, _⟩ := hcs
    exact ⟨none, 0, [], rfl, fun i x hx => by simp at hx, Nat.le_refl _, Nat.zero_le _, fun _ => rfl⟩
  · simp only [Value.cells, List.cons.injEq, Value.slice.injEq] at hcs
    obtain ⟨⟨rfl, rfl, rfl⟩, _⟩ := hcs
    simp only [if_true] at hm
    refine ⟨some a, cap, (zs.take len).map fun z => z.toNat.toUInt8, by simp [hm, hlc], fun i x hx => ?_, by simp [hm, hlc], hcm, fun e => by cases e⟩
    rw [List.getElem?_map] at hx
    obtain ⟨z, hz, rfl⟩ := Option.map_eq_some_iff.1 hx
    rw [List.getElem?_take] at hz
    split at hz
    · rename_i hil
      have hzi : i < zs.length := by omega
      have hcell := hi i hzi
      have hgd : zs.getD i 0 = z := by rw [List.getD, hz]; rfl
      rw [hgd] at hcell
      have hwf := hw z (List.mem_of_getElem? hz)
      obtain ⟨b, off, ha, hc⟩ := plain_addr hcell ⟨_, hi 0 (by omega)⟩
      refine ⟨b, off, by rw [ha], ?_⟩
      rw [hc]
      have hb : 0 ≤ z ∧ z < 256 := by
        have h1 : IntKind.u8.min ≤ z ∧ z ≤ IntKind.u8.max := by simpa [Lit.wf] using hwf
        have e1 : IntKind.u8.min = 0 := rfl
        have e2 : IntKind.u8.max = 255 := rfl
        omega
      congr 2
      have : z.toNat < 256 := by omega
      simp
      omega
    · cases hz
end Go.Proofs.YtcaejcbmkiacmaaDoor
