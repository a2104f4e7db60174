/- Do patterns that stand at one place fit? The walk. -/
import Derived.Test.YthjecikdkdjlaaaFc
namespace Go.Proofs.Ythjecikdkdjlaaa
open Go.RowKit

/-- the first head that was met -/
def FirstP (is : List Inf) (w : World) (pf : Option Addr) (l : List T) : Prop :=
  (pf = none ∧ ∀ q ∈ l, isWild q = true) ∨ ∃ gf hf, pf = some ⟨gf, 0, none⟩ ∧ (∃ y1 y2 y3 y4 y5, hf = (⟨y1, y2, y3, y4, y5⟩ : Hd) ∧ w.heap[gf]? = some (.cells #[.int .u8 (y1 : Int), .int .i64 y2, .int .i64 y3, .string y4, .string y5] 66 (0, 0))) ∧ (∃ f ∈ l, isWild f = false ∧ hdOf is f = hf) ∧ ∀ q ∈ l, isWild q = false → (hdOf is q).sort = hf.sort
theorem FirstP.fr {is : List Inf} {w w' : World} {S : Nat → Prop} {pf : Option Addr} {l : List T} (h : FirstP is w pf l) (hf : Fr S w w') (hs : ∀ b cs z, w.heap[b]? = some (.cells cs 66 z) → ¬ S b) : FirstP is w' pf l := by
  rcases h with h | ⟨gf, hf', e, ⟨y1, y2, y3, y4, y5, e2, hb⟩, h2, h3⟩
  · exact .inl h
  · exact .inr ⟨gf, hf', e, ⟨y1, y2, y3, y4, y5, e2, hf.keeps hb (hs _ _ _ hb)⟩, h2, h3⟩
theorem FirstP.wild {is : List Inf} {w : World} {pf : Option Addr} {l : List T} {p : T} (h : FirstP is w pf l) (hw : isWild p = true) : FirstP is w pf (l ++ [p]) := by
  rcases h with ⟨h1, h2⟩ | ⟨gf, hf', e, h1, ⟨f, hf, h4⟩, h3⟩
  · refine .inl ⟨h1, fun q hq => ?_⟩
    rcases List.mem_append.1 hq with hq | hq
    · exact h2 q hq
    · simp only [List.mem_singleton] at hq
      rw [hq]
      exact hw
  · refine .inr ⟨gf, hf', e, h1, ⟨f, List.mem_append_left _ hf, h4⟩, fun q hq hw2 => ?_⟩
    rcases List.mem_append.1 hq with hq | hq
    · exact h3 q hq hw2
    · simp only [List.mem_singleton] at hq
      rw [hq, hw] at hw2
      cases hw2
theorem mem_take {l : List T} {k : Nat} {q : T} (h : q ∈ l.take k) : q ∈ l := List.mem_of_mem_take h
theorem zero22 : ∃ i, Try.prog.info? 22 = some i ∧ i.zero = some (.slice none 0 0) ∧ i.size = 1 ∧ i.bytes = 24 := ⟨_, rfl, rfl, rfl, rfl⟩
theorem make69 (n : Nat) (hn : n ≤ 1048576) (u : World) : (Instr.makeSlice 69 (.int .i64 (n : Int)) (.int .i64 (n : Int))).run Try.prog u = .ok (.slice (some ⟨u.heap.size, 0, none⟩) n n) (u.alloc (.cells (Array.replicate n nilS) 22)) := by
  obtain ⟨i0, hi, hz0, hz1, hz2⟩ := zero22
  have h := run_make (P := Try.prog) u 69 22 i0 _ Try.underlying69 hi hz0 .i64 .i64 (n : Int) (n : Int) (by omega) (Int.le_refl _) (by rw [hz2]; omega) (by omega)
  have e : madeCells (Value.slice none 0 0).cells (n * 1) = (List.replicate n nilS).toArray := by
    apply Array.ext_getElem?
    intro i
    simp only [madeCells, Value.cells, nilS, Nat.mul_one]
    by_cases hi : i < n
    · simp [hi, Nat.mod_one]
    · simp [hi]
  simp only [Int.toNat_natCast, hz1, e, List.toArray_replicate] at h
  exact h
theorem inv_agg {key : Value} {kl : Lit} (h : keyOf Try.prog 66 key = some kl) : ∃ xs, key = .agg xs := by
  unfold keyOf at h
  rw [Try.underlying66] at h
  simp only at h
  split at h
  · rename_i hk
    simp only [Bool.and_eq_true] at hk
    cases key <;> first | exact ⟨_, rfl⟩ | (have := hk.2; simp [Value.formed, Try.underlying66] at this)
  · cases h
theorem Fr.grown_none {w w' : World} (h : Fr No w w') (row : Option Nat) : w.grownBy w' row := ⟨h.os, h.tape, h.output, h.size, fun i hi _ => h.block i hi no_one⟩
theorem Bl.far {base B mb n : Nat} {W0 w : World} {E : Hd → Option Ent} (h : Bl base B W0 w mb n E) {h0 : Hd} {x : Ent} (hE : E h0 = some x) {k : Nat} {v : Value} {c : List T} (hk : x.cols[k]? = some (v, c)) (j : Nat) (hj : j = x.g ∨ (B ≤ j ∧ some j = v.ownBlock)) : B ≤ j ∧ ∃ cs t, w.heap[j]? = some (.cells cs t (0, 0)) ∧ (t = 22 ∨ t = 40 ∧ v.ownBlock = some j) := by
  rcases hj with rfl | ⟨h1, h2⟩
  · exact ⟨(h.blk h0 x hE).1, _, _, (h.blk h0 x hE).2, .inl rfl⟩
  · obtain ⟨_, cur, hcur⟩ := (h.col h0 x hE k _ hk).own h2.symm
    exact ⟨h1, _, _, hcur, .inr ⟨rfl, h2.symm⟩⟩
theorem Bl.look_fr {base B mb n : Nat} {W0 w w' : World} {E : Hd → Option Ent} {S : Nat → Prop} (h : Bl base B W0 w mb n E) (hf : Fr S w w') (hs : ¬ S mb) {k : Hd} {kl : Lit} (hk : keyOf Try.prog 66 (hdV k) = some kl) :
    (Instr.lookup 63 (.map (some mb)) (hdV k) false).run Try.prog w' = .ok (entV (E k)) w' := by
  obtain ⟨D, hD, h1, h2⟩ := h.map
  obtain ⟨v, ps, hr, hv⟩ := (ownsMap_fr hD hf hs).lookup keyed66 Try.underlying63 (zeroV69 w') (rs_mk none 0 0) hk
  obtain ⟨_, e⟩ := rs_inv hv
  have e2 := (h1 k kl hk).1
  simp only [Prod.mk.injEq] at e
  have e3 : (DataW.held v : DataW Value) = .held (entV (E k)) := e.1.symm.trans e2
  cases e3
  exact hr
theorem Bl.keeps_mb {base B mb n : Nat} {W0 w w' : World} {E : Hd → Option Ent} (h : Bl base B W0 w mb n E) (hf : Fr (Just mb) w w') {g : Nat} {cs : Array Value} {t : TypeId} {z : Nat × Nat} (hg : w.heap[g]? = some (.cells cs t z)) : w'.heap[g]? = some (.cells cs t z) := by
  refine hf.keeps hg fun e => ?_
  have e : g = mb := e
  obtain ⟨es, c, hm⟩ := h.mb_map
  rw [e, hm] at hg
  cases hg
theorem OutP.snoc {base B : Nat} {W0 w' : World} {v' : Value} {acc : List T} {t : T} {es : List El} {x : El} (hl : es.length = acc.length) (hall : ∀ (j : Nat) (t : T) (x : El), acc[j]? = some t → es[j]? = some x → IsT base W0 t x.v)
    (ho : w'.ownsRow B 40 4 v' (acc.length + 1) (es.flatMap El.cs ++ x.cs)) (ht : IsT base W0 t x.v) : OutP base B W0 w' v' (acc ++ [t]) := by
  refine ⟨es ++ [x], by simp [hl], by rw [List.length_append, List.flatMap_append]; simpa using ho, fun j r' u' hj hu' => ?_⟩
  rcases Nat.lt_or_ge j acc.length with hlt | hge
  · rw [List.getElem?_append_left hlt] at hj
    rw [List.getElem?_append_left (by omega)] at hu'
    exact hall j r' u' hj hu'
  · rw [List.getElem?_append_right hge] at hj
    rw [List.getElem?_append_right (by omega), hl] at hu'
    have hj0 : j - acc.length = 0 := by
      have := (List.getElem?_eq_some_iff.1 hj).1
      simp at this
      omega
    rw [hj0] at hj hu'
    simp only [List.getElem?_cons_zero, Option.some.injEq] at hj hu'
    subst hj hu'
    exact ht
theorem sort_ne {is : List Inf} {l : List T} {p f : T} (hp : p ∈ l) (hf : f ∈ l) (wp : isWild p = false) (wf : isWild f = false) (h : (hdOf is p).sort ≠ (hdOf is f).sort) : fitsL is l = false := by
  cases hv : fitsL is l
  · rfl
  · exact (h (((fitsL_iff is l).1 hv).2.1 p hp f hf wp wf)).elim
theorem cmp_sort (x1 y1 : Nat) (x3 y3 : Int) (x5 y5 : ByteArray) (w : World) (h : ¬ (x1 = y1 ∧ x3 = y3 ∧ x5 = y5)) :
    (if (x1 : Int) = (y1 : Int) then if x3 = y3 then if x5.toList = y5.toList then Result.ok (Next.value (.bool false)) w
      else Result.ok (Next.value (.bool true)) w else Result.ok (Next.value (.bool true)) w else Result.ok (Next.value (.bool true)) w) = Result.ok (Next.value (.bool true)) w := by
  split
  · split
    · split
      · rename_i h1 h2 h3
        exact (h ⟨by omega, h2, bytes_inj h3⟩).elim
      · rfl
    · rfl
  · rfl
set_option maxHeartbeats 16000000 in
set_option maxRecDepth 100000 in
theorem fits_step (base : Nat) (is : List Inf) (gc F : Nat) (l : List T) (hF : partsL l < F + 1) (hP : partsL l ≤ 1048576) (hwf : wfL is l) (n cap : Nat) (a : Option Addr) (w : World) (hn : l.length = n) (hrow : Row base (fun _ => True) w a 0 l) (hc : Chk w gc is) (hbase : base ≤ w.heap.size)
    (HI : Hid (∀ l', partsL l' < F → partsL l' ≤ 1048576 → wfL is l' → ∀ n cap a w', l'.length = n → Row base (fun _ => True) w' a 0 l' → Fr No w w' → Calls Try.prog 22 #[.pointer (some ⟨gc, 0, none⟩), .slice a n cap] w' (SaidT w' (fitsL is l')))) :
    Calls Try.prog 22 #[.pointer (some ⟨gc, 0, none⟩), .slice a n cap] w (SaidT w (fitsL is l)) := by
    have HTOK : True := trivial
    obtain ⟨w0, hw0⟩ : ∃ w0, w0 = w.alloc (.cells #[.pointer (some ⟨gc, 0, none⟩)] 53) := ⟨_, rfl⟩
    obtain ⟨g2, hg2⟩ : ∃ g2, w.heap.size = g2 := ⟨_, rfl⟩
    have r2 : Hid (w0.heap[g2]? = some (.cells #[.pointer (some ⟨gc, 0, none⟩)] 53 (0, 0))) := Lib.hid (by rw [hw0, ← hg2]; exact new_block w _)
    have HF0 : Hid (Fr No w w0) := Lib.hid (by rw [hw0]; exact Fr.alloc w _)
    have hn2 : n ≤ 1048576 := by rw [← hn]; exact Nat.le_trans (partsL_len l) hP
    have HN := Lib.hid hn
    have HROW := Lib.hid hrow
    have HCH := Lib.hid hc
    have HWF := Lib.hid hwf
    have HPF := Lib.hid hF
    have HPP := Lib.hid hP
    have HBASE := Lib.hid hbase
    have HNW := Lib.hid (any_said base l n cap a 27 #[] (fun t => !isWild t) w0 hn (by omega) enters27 (row_keepNo hrow HF0.out) (fun t v w1 _ _ hi => nw_any base t v w1 hi))
    have HNR : Hid (∀ w', Fr No w0 w' → Calls Try.prog 24 #[.slice a n cap, .func (.func 29) #[] #[.pointer (some ⟨g2, 0, none⟩)]] w' (SaidT w' (l.any fun t => !rightP is t))) :=
      Lib.hid (fun w' hf => any_said base l n cap a 29 #[.pointer (some ⟨g2, 0, none⟩)] (fun t => !rightP is t) w' hn (by omega) enters29 (row_keepNo hrow (HF0.out.then hf)) (fun t v w1 _ hf1 hi => nr_any base is gc g2 t v w1 (hc.no ((HF0.out.then hf).then hf1)) ((hf.then hf1).cell (cell_of r2.out 0)) hi))
    have HHP : Hid (∀ (p : T) (v : Value) (w' : World), Fr No w w' → IsT base w' p v → Calls Try.prog 31 #[.pointer (some ⟨gc, 0, none⟩), v] w' (SaidV w' (hdV (hdOf is p)))) := Lib.hid (fun p v w' hf h => head_any base is gc p v w' (hc.no hf) h)
    have HRP : Hid (∀ (p : T) (v : Value) (w' : World), Fr No w w' → IsT base w' p v → Calls Try.prog 30 #[.pointer (some ⟨gc, 0, none⟩), v] w' (SaidT w' (rightP is p))) := Lib.hid (fun p v w' hf h => right_any base is gc p v w' (hc.no hf) h)
    have HWP : Hid (∀ (p : T) (v : Value) (w' : World), IsT base w' p v → Calls Try.prog 28 #[v] w' (SaidT w' (isWild p))) := Lib.hid (fun p v w' h => wild_any base p v w' h)
    have c2 : w0.cell? ⟨g2, 0, none⟩ = some (.pointer (some ⟨gc, 0, none⟩)) := cell_of r2.out 0
    obtain ⟨V, hV⟩ : ∃ V, fitsL is l = V := ⟨_, rfl⟩
    rw [hV]
    have HV := Lib.hid hV
    clear hn hrow hc hwf hF hP hbase hV
    go_enter Try.func22, Try.ntmps22
    go_upto_region 1 with fail
    rw [← hw0]
    clear hw0
    go_wp2_with fail
    refine HNW.out.mono ?_
    rintro e w1 ⟨rfl, hf1⟩
    have HF1 : Hid (Fr No w0 w1) := Lib.hid hf1
    replace c2 := hf1.cell c2
    clear hf1 HNW
    cases hnw : l.any fun t => !isWild t with
    | false =>
      have HAW : Hid (∀ q ∈ l, isWild q = true) := Lib.hid (fun q hq => by
        have := List.any_eq_false.1 hnw q hq
        simpa using this)
      clear hnw
      go_wp2_with fail
      refine (HNR.out _ HF1.out).mono ?_
      rintro e w2 ⟨rfl, hf2⟩
      have HF2 := Lib.hid hf2
      clear hf2 c2
      go_wp2_with fail
      go_ret
      refine ⟨?_, (HF0.out.then HF1.out).then HF2.out⟩
      have hv : (!(l.any fun t => !rightP is t)) = V := by
        rw [← HV.out]
        rw [Bool.eq_iff_iff]
        rw [fitsL_iff]
        simp only [Bool.not_eq_true', List.any_eq_false, Bool.not_eq_eq_eq_not, Bool.not_true, Bool.not_eq_false]
        refine ⟨fun h => ⟨h, fun p hp q hq wp => ?_, fun q hq wq => ?_⟩, fun h => h.1⟩
        · rw [HAW.out p hp] at wp; cases wp
        · rw [HAW.out q hq] at wq; cases wq
      rw [← hv]
      rfl
    | true =>
      clear hnw
      obtain ⟨wm, hwm⟩ : ∃ wm, w1.alloc (.map #[] 0) = wm := ⟨_, rfl⟩
      obtain ⟨mb, hmb⟩ : ∃ mb, w1.heap.size = mb := ⟨_, rfl⟩
      have HM0 : Hid (wm.ownsMap Try.prog 66 RS mb 0 (.map [])) := Lib.hid (by rw [← hwm, ← hmb]; exact World.ownsMap_made w1 _ _ _)
      have HFm : Hid (Fr No w1 wm) := Lib.hid (by rw [← hwm]; exact Fr.alloc w1 _)
      have HFW : Hid (Fr No w w1) := Lib.hid (HF0.out.then HF1.out)
      have HMB : Hid (w1.heap.size ≤ mb) := Lib.hid (by rw [← hmb]; exact Nat.le_refl _)
      have HMB2 : Hid (mb < wm.heap.size) := Lib.hid HM0.out.lt
      have hmm : (Instr.makeMap 63 none).run Try.prog w1 = .ok (.map (some mb)) wm := by
        rw [← hwm, ← hmb]
        exact run_makeMap _ _
      have R2 : Hid (w1.heap[g2]? = some (.cells #[.pointer (some ⟨gc, 0, none⟩)] 53 (0, 0))) := Lib.hid (HF1.out.keeps r2.out no_one)
      clear hwm hmb c2
      go_wp2_with fail
      clear hmm
      go_loopw [6, 24] (fun v6 i wr => ∃ (k : Nat) (pf : Option Addr), k ≤ n ∧ i = .int .i64 k ∧ v6 = .pointer pf ∧ Hid (Fr No w1 wr) ∧ Hid (FirstP is wr pf (l.take k)) ∧ Hid (∃ E, Bl base w1.heap.size w wr mb k E ∧ ∀ h, Rel is E (l.take k) h) ∧ Hid (∀ q ∈ l.take k, rightP is q = true)) (fun _ i _ => n - (intOf i).toNat)
      case atStart => exact ⟨0, none, Nat.zero_le _, rfl, rfl, HFm, Lib.hid (.inl ⟨rfl, fun q hq => by cases hq⟩), Lib.hid ⟨_, Bl.start HM0.out, Rel.start is⟩, Lib.hid (fun q hq => by cases hq)⟩
      case round =>
        obtain ⟨k, pf, hk, rfl, rfl, HF, HFP, HBL, HRT⟩ := hrel
        by_cases hkn : k = n
        · skip
          have htk : l.take k = l := by rw [hkn, ← HN.out, List.take_length]
          rw [htk] at HFP HBL HRT
          obtain ⟨E, hbl, hrel0⟩ := HBL.out
          have HB := Lib.hid hbl
          have HREL := Lib.hid hrel0
          have HSS : Hid (∀ p ∈ l, ∀ q ∈ l, isWild p = false → isWild q = false → (hdOf is p).sort = (hdOf is q).sort) := Lib.hid (fun p hp q hq wp wq => by
            rcases HFP.out with ⟨_, h⟩ | ⟨gf, hf, _, _, _, h⟩
            · rw [h p hp] at wp
              cases wp
            · rw [h p hp wp, h q hq wq])
          obtain ⟨D, hD, hD1, hD2⟩ := hbl.map
          have HD := Lib.hid hD
          have HD1 := Lib.hid hD1
          have HD2 := Lib.hid hD2
          obtain ⟨wo, hwo⟩ : ∃ wo, wo = wr := ⟨_, rfl⟩
          subst hwo
          clear htk hbl hrel0 hD hD1 hD2 HBL HFP
          subst hkn
          go_wp2_with (at_range; refine wpList_range_own _ rfl _ 63 rfl 66 69 keyed66 Try.underlying63 RS mb k D rfl HD.out ?_; intro w20 hrg0 hg0 hs0)
          go_frame
          obtain ⟨rb, hrb⟩ : ∃ rb, wo.heap.size = rb := ⟨_, rfl⟩
          rw [hrb] at hrg0 ⊢
          have HRG0 := Lib.hid hrg0
          have HG0 : Hid (Fr No wo w20) := Lib.hid (Fr.grownR hg0 (fun i e => by cases e))
          have HRB : Hid (wo.heap.size ≤ rb) := Lib.hid (by rw [hrb]; exact Nat.le_refl _)
          clear hrg0 hg0 hs0 hrb
          go_loopw [13] (fun _ wx => Hid (Fr No wo wx) ∧ Hid (∃ left cnt, wx.ranges Try.prog 66 RS mb rb k D left cnt ∧ (∀ kl, left kl = true → Maps.has D kl = true) ∧ ∀ h kl x, keyOf Try.prog 66 (hdV h) = some kl → E h = some x → left kl = false → ∀ c ∈ x.cols, fitsL is c.2 = true)) (fun _ wx => wx.rangeLeft mb rb)
          case atStart => exact ⟨HG0, Lib.hid ⟨_, _, HRG0.out, fun _ h => h, fun h kl x h1 h2 h3 => by
            have := (HD1.out h kl h1).2
            rw [h2, h3] at this
            cases this⟩⟩
          case round =>
            obtain ⟨HFX, HRG⟩ := hrel
            obtain ⟨left, cnt, hrg, hsub, hdone⟩ := HRG.out
            have HRGX := Lib.hid hrg
            have HSUB := Lib.hid hsub
            have HDONE := Lib.hid hdone
            have HBX := Lib.hid (HB.out.no HFX.out)
            clear hrg hsub hdone
            go_wp2_with (at_next; refine wpList_next_ranges _ rfl _ rfl 66 keyed66 RS Value.agg (fun c : Option Addr × Nat × Nat => Value.slice c.1 c.2.1 c.2.2) (fun key kl h => inv_agg h) (fun v y h => by obtain ⟨⟨a, n, c, e⟩, _⟩ := rs_inv h; exact ⟨(a, n, c), e⟩) mb rb k D left cnt rfl HRGX.out ?_ ?_)
            · intro hc0 hl0
              have HVT : Hid (V = true) := Lib.hid (by
                rw [← HV.out]
                refine fits_of HREL.out HRT.out HSS.out fun h x hx => ?_
                obtain ⟨D', hD', h1, h2⟩ := HB.out.map
                rcases HREL.out h with ⟨h3, _⟩ | ⟨y, q, h3, h4, h5, h6, _⟩
                · rw [hx] at h3
                  cases h3
                · obtain ⟨kl, hkl⟩ := key_hd (wfP_parts (wfL_mem.1 HWF.out q h4)).1
                  rw [h6] at hkl
                  exact HDONE.out h kl x hkl hx (hl0 kl))
              clear hc0 hl0
              go_wp2_with fail
              go_ret
              exact ⟨by rw [HVT.out]; rfl, (HFW.out.then HF.out).then HFX.out⟩
            · intro xk ca cn cc kl yd yp w21 cnt1 hkey hlk hv hat hrg1 hlt hg1 hs1 hen
              (try dsimp only at hv hen ⊢)
              obtain ⟨h, hkl⟩ := HD2.out kl (HSUB.out kl hlk)
              have hsome := (HD1.out h kl hkl).2
              rw [HSUB.out kl hlk] at hsome
              obtain ⟨xe, hxe⟩ : ∃ xe, E h = some xe := Option.isSome_iff_exists.1 hsome.symm
              have hv1 := (hat (.held nilS)).symm.trans (HD1.out h kl hkl).1
              have hv0 := (rs_inv hv).2
              simp only [Prod.mk.injEq] at hv0
              rw [hv0.1, hxe] at hv1
              simp only [entV, DataW.held.injEq, Value.slice.injEq] at hv1
              obtain ⟨rfl, rfl, rfl⟩ := hv1
              obtain ⟨nx, hnx⟩ : ∃ nx, xe.cols.length = nx := ⟨_, rfl⟩
              obtain ⟨gx, hgx⟩ : ∃ gx, xe.g = gx := ⟨_, rfl⟩
              rw [hnx, hgx] at hen ⊢
              have HFX1 : Hid (Fr No wo w21) := Lib.hid (HFX.out.own (Fr.grownR hg1 (fun i e => e)) (fun i e => by cases e; exact HRB.out))
              have HB1 := Lib.hid (HB.out.no HFX1.out)
              have hblk := (HB1.out.blk h xe hxe).2
              rw [hgx] at hblk
              have HXE := Lib.hid hxe
              have HKL := Lib.hid hkl
              have HLEN := Lib.hid hnx
              have HRG1 := Lib.hid hrg1
              have HLT := Lib.hid hlt
              have HCOL : Hid (∀ (j : Nat) (c : Value × List T), xe.cols[j]? = some c → c.2 = colP is l h j ∧ partsL c.2 < F ∧ partsL c.2 ≤ 1048576 ∧ wfL is c.2) := Lib.hid (fun j c hj => by
                rcases HREL.out h with ⟨h3, _⟩ | ⟨y, q, h3, h4, h5, h6, h7⟩
                · rw [hxe] at h3
                  cases h3
                · rw [hxe] at h3
                  cases h3
                  have h8 := congrArg (fun z : List (List T) => z[j]?) h7
                  simp only [List.getElem?_map, hj, Option.map_some] at h8
                  have hjl : j < q.kids.length := by
                    have h9 := congrArg List.length h7
                    simp only [List.length_map, List.length_range] at h9
                    have := (List.getElem?_eq_some_iff.1 hj).1
                    omega
                  rw [List.getElem?_range hjl] at h8
                  simp only [Option.map_some, Option.some.injEq] at h8
                  have h10 := partsL_col is h j l
                  have h11 : 0 < l.length := List.length_pos_of_mem h4
                  have h12 := HPF.out
                  have h13 := HPP.out
                  refine ⟨h8, ?_, ?_, ?_⟩
                  · rw [h8]; omega
                  · rw [h8]; omega
                  · rw [h8]; exact wfL_col HWF.out h j)
              have hnx2 : nx ≤ 1048576 := by
                rcases HREL.out h with ⟨h3, _⟩ | ⟨y, q, h3, h4, h5, h6, h7⟩
                · rw [hxe] at h3
                  cases h3
                · rw [hxe] at h3
                  cases h3
                  have h9 := congrArg List.length h7
                  simp only [List.length_map, List.length_range] at h9
                  have := (wfP_parts (wfL_mem.1 HWF.out q h4)).2.1
                  omega
              have HCA := Lib.hid (any_cols gx nx (xe.cols.map Prod.fst) 34 #[.pointer (some ⟨g2, 0, none⟩)] (fun j => !fitsL is (colP is l h j)) w21 (by simp [hnx]) hnx2 enters34 (fun j v hj => by
                rw [List.getElem?_map] at hj
                obtain ⟨c, hc, rfl⟩ := Option.map_eq_some_iff.1 hj
                obtain ⟨a1, c1, e1⟩ := (HB1.out.col h xe hxe j c hc).slice
                exact ⟨by rw [cell_of hblk]; simp [hc], a1, _, c1, e1⟩) (fun j v w22 hj hf => by
                rw [List.getElem?_map] at hj
                obtain ⟨c, hc, rfl⟩ := Option.map_eq_some_iff.1 hj
                obtain ⟨a1, c1, e1, _, e3⟩ := ((HB1.out.no hf).col h xe hxe j c hc).row (((HFW.out.then HF.out).then HFX1.out).then hf)
                obtain ⟨h1, h2, h3, h4⟩ := HCOL.out j c hc
                rw [e1, ← h1]
                exact nf_any gc g2 a1 _ c1 _ w22 (((HF.out.then HFX1.out).then hf).cell (cell_of R2.out 0)) (HI.out _ h2 h3 h4 _ c1 a1 w22 rfl e3 (((HFW.out.then HF.out).then HFX1.out).then hf))))
              have c2 : w21.cell? ⟨g2, 0, none⟩ = some (.pointer (some ⟨gc, 0, none⟩)) := (HF.out.then HFX1.out).cell (cell_of R2.out 0)
              obtain ⟨BA, hBA⟩ : ∃ BA, (List.range nx).any (fun j => !fitsL is (colP is l h j)) = BA := ⟨_, rfl⟩
              rw [hBA] at HCA
              have HBA := Lib.hid hBA
              have HLK := Lib.hid hlk
              have HOLD := Lib.hid (HRGX.out.left_eq)
              clear hkey hlk hv hat hrg1 hlt hg1 hs1 hkl hsome hxe hnx hgx hblk hBA
              go_wp2_with fail
              refine HCA.out.mono ?_
              rintro e w23 ⟨rfl, hf23⟩
              have HF23 : Hid (Fr No w21 w23) := Lib.hid hf23
              clear hf23 c2 hen
              cases BA with
              | true =>
                have HVF : Hid (V = false) := Lib.hid (by
                  rw [← HV.out]
                  obtain ⟨j, hj, hb⟩ := List.any_eq_true.1 HBA.out
                  have hjl := List.mem_range.1 hj
                  have hlen := HLEN.out
                  have hc : xe.cols[j]? = some (xe.cols[j]'(by omega)) := List.getElem?_eq_getElem (by omega)
                  refine not_fits_of HREL.out HXE.out (List.mem_of_getElem? hc) ?_
                  rw [(HCOL.out j _ hc).1]
                  simpa using hb)
                go_wp2_with fail
                go_ret
                exact ⟨by rw [HVF.out]; rfl, (HFW.out.then HF.out).then (HFX1.out.then HF23.out)⟩
              | false =>
                have HRN := Lib.hid (HRG1.out.kept (Fr.grown_none HF23.out none) (by simp) (by simp))
                go_wp2_with fail
                refine ⟨⟨Lib.hid (HFX1.out.then HF23.out), Lib.hid ⟨_, _, HRN.out, fun kl' h' => ?_, fun h' kl' x' h1 h2 h3 => ?_⟩⟩, ?_⟩
                · simp only [Bool.and_eq_true] at h'
                  exact HSUB.out kl' h'.1
                · by_cases hl : left kl' = false
                  · exact HDONE.out h' kl' x' h1 h2 hl
                  · have hl : left kl' = true := by simpa using hl
                    rw [hl] at h3
                    simp only [Bool.true_and, Bool.not_eq_false'] at h3
                    have hkk := WideAt.sameKey_eq h3
                    subst hkk
                    have hh := hdV_inj (keyed66.inj h1 HKL.out)
                    subst hh
                    rw [HXE.out] at h2
                    cases h2
                    intro c hc
                    obtain ⟨j, hj⟩ := List.getElem?_of_mem hc
                    rw [(HCOL.out j c hj).1]
                    have := List.any_eq_false.1 HBA.out j (List.mem_range.2 (by have := (List.getElem?_eq_some_iff.1 hj).1; have := HLEN.out; omega))
                    simpa using this
                · rw [HRN.out.left_eq, HOLD.out]
                  exact HLT.out
        · obtain ⟨p, hp⟩ : ∃ p, l[k]? = some p := ⟨_, List.getElem?_eq_getElem (by rw [HN.out]; omega)⟩
          obtain ⟨b, off, x0, x1, x2, x3, rfl, j1, j2, d0, d1, d2, d3, his⟩ := Row.at_ 0 l HROW.out k p hp
          clear j1 j2
          rw [Nat.zero_add] at d0 d1 d2 d3
          obtain ⟨kp, sp, np, ap, mp, cp, rfl, rfl, rfl, rfl⟩ := is_cells his
          obtain ⟨kids, hpk, hkl, hkr⟩ := is_mk his
          have HPK : Hid (p.kids.length = mp ∧ Row base (fun _ => True) w ap 0 p.kids) := Lib.hid (by rw [hpk]; exact ⟨hkl, hkr⟩)
          have HIS := Lib.hid his
          have HLK := Lib.hid hp
          have HWr := Lib.hid (HFW.out.then HF.out)
          replace d0 := HWr.out.cell d0
          replace d1 := HWr.out.cell d1
          replace d2 := HWr.out.cell d2
          replace d3 := HWr.out.cell d3
          have HTS := Lib.hid (take_snoc hp)
          have HPM := Lib.hid (List.mem_of_getElem? hp)
          have hlt : (k : Int) < (n : Int) := by omega
          obtain ⟨w2, hw2⟩ : ∃ w2, wr.alloc (.cells #[.int .u8 kp, .string sp, .int .i64 np, .slice ap mp cp] 40) = w2 := ⟨_, rfl⟩
          obtain ⟨g8, hg8⟩ : ∃ g8, wr.heap.size = g8 := ⟨_, rfl⟩
          have R8 : Hid (w2.heap[g8]? = some (.cells #[.int .u8 kp, .string sp, .int .i64 np, .slice ap mp cp] 40 (0, 0))) := Lib.hid (by rw [← hw2, ← hg8]; exact new_block wr _)
          have HF2 : Hid (Fr No wr w2) := Lib.hid (by rw [← hw2]; exact Fr.alloc _ _)
          have c2 : w2.cell? ⟨g2, 0, none⟩ = some (.pointer (some ⟨gc, 0, none⟩)) := (HF.out.then HF2.out).cell (cell_of R2.out 0)
          obtain ⟨b0, b1, b2, b3⟩ : w2.cell? ⟨g8, 0, none⟩ = some (.int .u8 kp) ∧ w2.cell? ⟨g8, 1, none⟩ = some (.string sp) ∧ w2.cell? ⟨g8, 2, none⟩ = some (.int .i64 np) ∧ w2.cell? ⟨g8, 3, none⟩ = some (.slice ap mp cp) := ⟨cell_of R8.out 0, cell_of R8.out 1, cell_of R8.out 2, cell_of R8.out 3⟩
          clear his hpk hkl hkr hp
          go_upto_region 8 with fail
          (try rw [hw2])
          clear hw2 hg8
          go_wp2_with fail
          refine (HRP.out p _ _ (HWr.out.then HF2.out) (HIS.out.no (HWr.out.then HF2.out))).mono ?_
          rintro e w3 ⟨rfl, hf3⟩
          have HF3 : Hid (Fr No wr w3) := Lib.hid (HF2.out.then hf3)
          replace R8 : Hid (w3.heap[g8]? = some (.cells #[.int .u8 kp, .string sp, .int .i64 np, .slice ap mp cp] 40 (0, 0))) := Lib.hid (hf3.keeps R8.out no_one)
          replace c2 := hf3.cell c2
          replace b0 := hf3.cell b0
          replace b1 := hf3.cell b1
          replace b2 := hf3.cell b2
          replace b3 := hf3.cell b3
          clear hf3 d0 d1 d2 d3
          cases hr : rightP is p with
          | false =>
            have HVF : Hid (V = false) := Lib.hid (by
              cases hv : V
              · rfl
              · have h1 := (fitsL_iff is l).1 (HV.out.trans hv)
                have := h1.1 p HPM.out
                rw [hr] at this
                cases this)
            clear hr
            go_wp2_with fail
            go_ret
            exact ⟨by rw [HVF.out]; rfl, HWr.out.then HF3.out⟩
          | true =>
            have HRT2 : Hid (∀ q ∈ l.take (k + 1), rightP is q = true) := Lib.hid (fun q hq => by
              rw [HTS.out] at hq
              rcases List.mem_append.1 hq with hq | hq
              · exact HRT.out q hq
              · simp only [List.mem_singleton] at hq
                rw [hq]
                exact hr)
            have HRR : Hid (rightP is p = true) := Lib.hid hr
            clear hr
            go_wp2_with fail
            refine (HWP.out p _ _ (HIS.out.no (HWr.out.then HF3.out))).mono ?_
            rintro e w4 ⟨rfl, hf4⟩
            have HF4 : Hid (Fr No wr w4) := Lib.hid (HF3.out.then hf4)
            replace R8 : Hid (w4.heap[g8]? = some (.cells #[.int .u8 kp, .string sp, .int .i64 np, .slice ap mp cp] 40 (0, 0))) := Lib.hid (hf4.keeps R8.out no_one)
            replace c2 := hf4.cell c2
            replace b0 := hf4.cell b0
            replace b1 := hf4.cell b1
            replace b2 := hf4.cell b2
            replace b3 := hf4.cell b3
            clear hf4
            cases hw : isWild p with
            | true =>
              have HWI : Hid (isWild p = true) := Lib.hid hw
              clear hw
              go_wp2_with fail
              refine ⟨⟨k + 1, pf, by omega, by go_num, rfl, Lib.hid (HF.out.then HF4.out), Lib.hid ?_, Lib.hid ?_, HRT2⟩, by simp [intOf]; omega⟩
              · rw [HTS.out]
                exact (HFP.out.fr HF4.out (fun _ _ _ _ => no_one)).wild HWI.out
              · obtain ⟨E, hb, hr⟩ := HBL.out
                refine ⟨E, (hb.no HF4.out).mono (Nat.le_succ _), fun h => ?_⟩
                rw [HTS.out]
                exact (hr h).other (fun e => by rw [HWI.out] at e; cases e.1)
            | false =>
              have HWI : Hid (isWild p = false) := Lib.hid hw
              clear hw
              obtain ⟨hp, hhp⟩ : ∃ h, hdOf is p = h := ⟨_, rfl⟩
              have HHD := Lib.hid (HHP.out p _ w4 (HWr.out.then HF4.out) (HIS.out.no (HWr.out.then HF4.out)))
              rw [hhp] at HHD
              have HHE := Lib.hid hhp
              obtain ⟨x1, x2, x3, x4, x5⟩ := hp
              simp only [hdV] at HHD
              obtain ⟨kl, hkl⟩ := key_hd (wfP_parts (wfL_mem.1 HWF.out p HPM.out)).1
              rw [hhp] at hkl
              simp only [hdV] at hkl
              have HKL := Lib.hid hkl
              clear hhp hkl
              go_wp2_with fail
              refine HHD.out.mono ?_
              rintro e w5 ⟨rfl, hf5⟩
              obtain ⟨w6, hw6⟩ : ∃ w6, w5.alloc (.cells #[.int .u8 x1, .int .i64 x2, .int .i64 x3, .string x4, .string x5] 66) = w6 := ⟨_, rfl⟩
              obtain ⟨g9, hg9⟩ : ∃ g9, w5.heap.size = g9 := ⟨_, rfl⟩
              have HF56 : Hid (Fr No w5 w6) := Lib.hid (by rw [← hw6]; exact Fr.alloc _ _)
              have HF6 : Hid (Fr No wr w6) := Lib.hid ((HF4.out.then hf5).then HF56.out)
              have R9 : Hid (w6.heap[g9]? = some (.cells #[.int .u8 x1, .int .i64 x2, .int .i64 x3, .string x4, .string x5] 66 (0, 0))) := Lib.hid (by rw [← hw6, ← hg9]; exact new_block w5 _)
              replace R8 : Hid (w6.heap[g8]? = some (.cells #[.int .u8 kp, .string sp, .int .i64 np, .slice ap mp cp] 40 (0, 0))) := Lib.hid (HF56.out.keeps (hf5.keeps R8.out no_one) no_one)
              clear hf5 c2 b0 b1 b2 b3 HHD
              go_upto_region 12 with fail
              (try rw [hw6, hg9])
              clear hw6 hg9 HF56
              obtain ⟨E, hbl, hrel0⟩ := HBL.out
              have HB6 := Lib.hid (hbl.no HF6.out)
              have HR6 := Lib.hid hrel0
              clear hbl hrel0 HBL
              have HW6 : Hid (Fr No w w6) := Lib.hid (HWr.out.then HF6.out)
              rcases HFP.out with ⟨rfl, hall⟩ | ⟨gf, hf, rfl, ⟨y1, y2, y3, y4, y5, rfl, hgf⟩, hfe, hfs⟩
              · -- the first that is not wild
                have HNO : Hid (E ⟨x1, x2, x3, x4, x5⟩ = none) := Lib.hid (by
                  rcases HR6.out ⟨x1, x2, x3, x4, x5⟩ with h | ⟨x, q, _, h2, h3, _⟩
                  · exact h.1
                  · rw [hall q h2] at h3
                    cases h3)
                have HALL := Lib.hid hall
                clear hall HFP
                go_upto_region 14 with fail
                have HS9 : Hid (∀ w', Calls Try.prog 32 #[.agg #[.int .u8 (x1 : Int), .int .i64 x2, .int .i64 x3, .string x4, .string x5]] w' (SaidV w' (.agg #[.int .u8 (x1 : Int), .int .i64 0, .int .i64 x3, .string ⟨#[]⟩, .string x5]))) := Lib.hid (fun w' => sort_any ⟨x1, x2, x3, x4, x5⟩ w')
                have HSF := HS9
                refine region_e (fun w' => w'.cell? ⟨g9, 0, none⟩ = some (.int .u8 x1) ∧ w'.cell? ⟨g9, 1, none⟩ = some (.int .i64 x2) ∧ w'.cell? ⟨g9, 2, none⟩ = some (.int .i64 x3) ∧ w'.cell? ⟨g9, 3, none⟩ = some (.string x4) ∧ w'.cell? ⟨g9, 4, none⟩ = some (.string x5)) [] (by kernel_rfl) ?_ (fun hHeld => ?_)
                · exact ⟨cell_of ((Fr.drew _).keeps R9.out no_one) 0, cell_of ((Fr.drew _).keeps R9.out no_one) 1, cell_of ((Fr.drew _).keeps R9.out no_one) 2, cell_of ((Fr.drew _).keeps R9.out no_one) 3, cell_of ((Fr.drew _).keeps R9.out no_one) 4⟩
                refine take_op 0 (some 39) (Op.load 66 ( .tmp 9)) 66 ?_ (by kernel_rfl) (by kernel_rfl) (by kernel_rfl) (fun _ _ _ h => h) ?_ (by assumption) ?_
                rotate_left
                · intro w hSw; (try dsimp only at hSw); go_simp; (try (with_reducible rfl))
                try simp only [Act.put, List.setIfInBounds_toArray, List.set_cons_zero, List.set_cons_succ]
                refine take_op 2 (some 41) (Op.move ( .tmp 6)) 64 ?_ (by kernel_rfl) (by kernel_rfl) (by kernel_rfl) (fun _ _ _ h => h) ?_ (by assumption) ?_
                rotate_left
                · intro w hSw; (try dsimp only at hSw); go_simp; (try (with_reducible rfl))
                try simp only [Act.put, List.setIfInBounds_toArray, List.set_cons_zero, List.set_cons_succ]
                refine take_op 3 (some 42) (Op.nilCheck ( .tmp 41)) 0 ?_ (by kernel_rfl) (by kernel_rfl) (by kernel_rfl) (fun _ _ _ h => h) ?_ (by assumption) ?_
                rotate_left
                · intro w hSw; (try dsimp only at hSw); go_simp; (try (with_reducible rfl))
                try simp only [Act.put, List.setIfInBounds_toArray, List.set_cons_zero, List.set_cons_succ]
                refine take_op 4 (some 43) (Op.load 66 ( .tmp 42)) 66 ?_ (by kernel_rfl) (by kernel_rfl) (by kernel_rfl) (fun _ _ _ h => h) ?_ (by assumption) ?_
                rotate_left
                · intro w hSw; (try dsimp only at hSw); go_simp; (try (with_reducible rfl))
                try simp only [Act.put, List.setIfInBounds_toArray, List.set_cons_zero, List.set_cons_succ]
                refine ready_e (rs := [1]) (by kernel_rfl) (by simp) ?_
                refine do_mid (o := _) rfl (fun K hK => ?_) none_e -- slot 40 F32
                go_simp
                go_at_call 32
                refine (HS9.out _).mono ?_
                rintro e' w7 ⟨rfl, hf7⟩
                have HF7 : Hid (Fr No w6 w7) := Lib.hid ((Fr.drew _).then hf7)
                clear hf7
                refine hK.out _ _ ?_ (fun hHeld => ?_)
                · exact ⟨cell_of (HF7.out.keeps R9.out no_one) 0, cell_of (HF7.out.keeps R9.out no_one) 1, cell_of (HF7.out.keeps R9.out no_one) 2, cell_of (HF7.out.keeps R9.out no_one) 3, cell_of (HF7.out.keeps R9.out no_one) 4⟩
                clear hK K
                try dsimp only
                try simp only [Act.put, List.setIfInBounds_toArray, List.set_cons_zero, List.set_cons_succ]
                refine ready_e (rs := [5]) (by kernel_rfl) (by simp) ?_
                refine do_mid (o := _) rfl (fun K hK => ?_) none_e -- slot 44 F32
                go_simp
                go_at_call 32
                refine (HSF.out _).mono ?_
                rintro e' w8 ⟨rfl, hf8⟩
                have HF8 : Hid (Fr No w6 w8) := Lib.hid (HF7.out.then hf8)
                clear hf8
                refine hK.out _ _ ?_ (fun hHeld => ?_)
                · exact ⟨cell_of (HF8.out.keeps R9.out no_one) 0, cell_of (HF8.out.keeps R9.out no_one) 1, cell_of (HF8.out.keeps R9.out no_one) 2, cell_of (HF8.out.keeps R9.out no_one) 3, cell_of (HF8.out.keeps R9.out no_one) 4⟩
                clear hK K
                try dsimp only
                try simp only [Act.put, List.setIfInBounds_toArray, List.set_cons_zero, List.set_cons_succ]
                refine take_op 6 (some 45) (Op.binOp BinOp.neq 66 ( .tmp 40) ( .tmp 44) 66) 4 ?_ (by kernel_rfl) (by kernel_rfl) (by kernel_rfl) (fun _ _ _ h => h) ?_ (by assumption) ?_
                rotate_left
                · intro w hSw; (try dsimp only at hSw); go_simp; (try (with_reducible rfl))
                try simp only [Act.put, List.setIfInBounds_toArray, List.set_cons_zero, List.set_cons_succ]
                refine done_e (by kernel_rfl) ?_ _
                (try simp only [Exit.inBlock, Exit.then])
                clear hHeld HS9 HSF HF7
                have HFPF : Hid (∀ w' : World, w'.heap[g9]? = some (.cells #[.int .u8 x1, .int .i64 x2, .int .i64 x3, .string x4, .string x5] 66 (0, 0)) → FirstP is w' (some ⟨g9, 0, none⟩) (l.take (k + 1))) := Lib.hid (fun w' hw' => .inr ⟨g9, _, rfl, ⟨x1, x2, x3, x4, x5, rfl, hw'⟩, ⟨p, by rw [HTS.out]; simp, HWI.out, HHE.out⟩, fun q hq wq => by
                  rw [HTS.out] at hq
                  rcases List.mem_append.1 hq with hq | hq
                  · rw [HALL.out q hq] at wq
                    cases wq
                  · simp only [List.mem_singleton] at hq
                    rw [hq, HHE.out]⟩)
                have HSZ8 : Hid (w1.heap.size ≤ w8.heap.size) := Lib.hid (HF.out.then (HF6.out.then HF8.out)).size
                have hmp2 : mp ≤ 1048576 := by rw [← HPK.out.1]; exact (wfP_parts (wfL_mem.1 HWF.out p HPM.out)).2.1
                obtain ⟨q0, q1, q2, q3, q4⟩ : w8.cell? ⟨g9, 0, none⟩ = some (.int .u8 x1) ∧ w8.cell? ⟨g9, 1, none⟩ = some (.int .i64 x2) ∧ w8.cell? ⟨g9, 2, none⟩ = some (.int .i64 x3) ∧ w8.cell? ⟨g9, 3, none⟩ = some (.string x4) ∧ w8.cell? ⟨g9, 4, none⟩ = some (.string x5) := ⟨cell_of (HF8.out.keeps R9.out no_one) 0, cell_of (HF8.out.keeps R9.out no_one) 1, cell_of (HF8.out.keeps R9.out no_one) 2, cell_of (HF8.out.keeps R9.out no_one) 3, cell_of (HF8.out.keeps R9.out no_one) 4⟩
                have q5 : w8.cell? ⟨g8, 3, none⟩ = some (.slice ap mp cp) := cell_of (HF8.out.keeps R8.out no_one) 3

                have hlook : (Instr.lookup 63 (.map (some mb)) (.agg #[.int .u8 (x1 : Int), .int .i64 x2, .int .i64 x3, .string x4, .string x5]) false).run Try.prog w8 = .ok (.slice none 0 0) w8 := by
                  have h := (HB6.out.no HF8.out).look (k := ⟨x1, x2, x3, x4, x5⟩) HKL.out
                  rw [HNO.out] at h
                  exact h
                have hnil : ∀ u : World, (binOp .eql 69 (.slice none 0 0) (.slice none 0 0)).run Try.prog u = .ok (.bool true) u := fun u => Lib.run_eql_slice_nil u 69 22 none 0 0 0 0 Try.underlying69
                go_upto_region 17 with fail
                clear q0 q1 q2 q3 q4 q5 hlook hnil
                refine region_e (fun w' => w'.cell? ⟨g9, 0, none⟩ = some (.int .u8 x1) ∧ w'.cell? ⟨g9, 1, none⟩ = some (.int .i64 x2) ∧ w'.cell? ⟨g9, 2, none⟩ = some (.int .i64 x3) ∧ w'.cell? ⟨g9, 3, none⟩ = some (.string x4) ∧ w'.cell? ⟨g9, 4, none⟩ = some (.string x5) ∧ w'.cell? ⟨g8, 3, none⟩ = some (.slice ap mp cp)) [6] (by kernel_rfl) ?_ (fun hHeld => ?_)
                · exact ⟨cell_of ((HF8.out.then (Fr.drew _)).keeps R9.out no_one) 0, cell_of ((HF8.out.then (Fr.drew _)).keeps R9.out no_one) 1, cell_of ((HF8.out.then (Fr.drew _)).keeps R9.out no_one) 2, cell_of ((HF8.out.then (Fr.drew _)).keeps R9.out no_one) 3, cell_of ((HF8.out.then (Fr.drew _)).keeps R9.out no_one) 4, cell_of ((HF8.out.then (Fr.drew _)).keeps R8.out no_one) 3⟩
                refine take_op 0 (some 50) (Op.move ( .tmp 5)) 63 ?_ (by kernel_rfl) (by kernel_rfl) (by kernel_rfl) (fun _ _ _ h => h) ?_ (by assumption) ?_
                rotate_left
                · intro w hSw; (try dsimp only at hSw); go_simp; (try (with_reducible rfl))
                try simp only [Act.put, List.setIfInBounds_toArray, List.set_cons_zero, List.set_cons_succ]
                refine take_op 1 (some 51) (Op.load 66 ( .tmp 9)) 66 ?_ (by kernel_rfl) (by kernel_rfl) (by kernel_rfl) (fun _ _ _ h => h) ?_ (by assumption) ?_
                rotate_left
                · intro w hSw; (try dsimp only at hSw); go_simp; (try (with_reducible rfl))
                try simp only [Act.put, List.setIfInBounds_toArray, List.set_cons_zero, List.set_cons_succ]
                refine take_op 2 (some 52) (Op.fieldAddr 40 ( .tmp 8) 3) 0 ?_ (by kernel_rfl) (by kernel_rfl) (by kernel_rfl) (fun _ _ _ h => h) ?_ (by assumption) ?_
                rotate_left
                · intro w hSw; (try dsimp only at hSw); go_simp; (try (with_reducible rfl))
                try simp only [Act.put, List.setIfInBounds_toArray, List.set_cons_zero, List.set_cons_succ]
                refine take_op 3 (some 53) (Op.load 22 ( .tmp 52)) 22 ?_ (by kernel_rfl) (by kernel_rfl) (by kernel_rfl) (fun _ _ _ h => h) ?_ (by assumption) ?_
                rotate_left
                · intro w hSw; (try dsimp only at hSw); go_simp; (try (with_reducible rfl))
                try simp only [Act.put, List.setIfInBounds_toArray, List.set_cons_zero, List.set_cons_succ]
                refine take_op 4 (some 54) (Op.call { callee := Callee.builtin Builtin.len, args := #[ .tmp 53], argTypes := #[22] }) 3 ?_ (by kernel_rfl) (by kernel_rfl) (by kernel_rfl) (fun _ _ _ h => h) ?_ (by assumption) ?_
                rotate_left
                · intro w hSw; (try dsimp only at hSw); go_simp; (try (with_reducible rfl))
                try simp only [Act.put, List.setIfInBounds_toArray, List.set_cons_zero, List.set_cons_succ]
                have hmk := make69 mp hmp2 w8.drew
                refine ready_e (rs := [5]) (by kernel_rfl) (by simp) ?_
                refine do_mid (o := _) rfl (fun K hK => ?_) none_e -- slot 55 makeSlice
                go_simp
                obtain ⟨w9, hw9⟩ : ∃ w9, w9 = (w8.alloc (.cells (Array.replicate mp nilS) 22)).drew := ⟨_, rfl⟩
                rw [← hw9]
                have HF9 : Hid (Fr No w8 w9) := Lib.hid (by rw [hw9]; exact (Fr.alloc _ _).then (Fr.drew _))
                have R10 : Hid (w9.heap[w8.heap.size]? = some (.cells (List.replicate mp nilS).toArray 22 (0, 0))) := Lib.hid (by rw [hw9]; exact (new_block w8 _).trans (by rw [List.toArray_replicate]))
                clear hw9 hmk
                refine hK.out _ _ ?_ (fun hHeld => ?_)
                · exact ⟨cell_of ((HF8.out.then HF9.out).keeps R9.out no_one) 0, cell_of ((HF8.out.then HF9.out).keeps R9.out no_one) 1, cell_of ((HF8.out.then HF9.out).keeps R9.out no_one) 2, cell_of ((HF8.out.then HF9.out).keeps R9.out no_one) 3, cell_of ((HF8.out.then HF9.out).keeps R9.out no_one) 4, cell_of ((HF8.out.then HF9.out).keeps R8.out no_one) 3⟩
                clear hK K
                try dsimp only
                try simp only [Act.put, List.setIfInBounds_toArray, List.set_cons_zero, List.set_cons_succ]
                obtain ⟨w10, hrun10, hf10, hb10⟩ := (HB6.out.no HF8.out).new (k := ⟨x1, x2, x3, x4, x5⟩) HKL.out HNO.out (by unfold maxLen; omega) HF9.out (g := w8.heap.size) (m := mp) (Nat.le_refl _) HSZ8.out HMB.out R10.out
                simp only [hdV] at hrun10
                refine ready_e (rs := [6]) (by kernel_rfl) (by simp) ?_
                refine do_late (o := _) rfl (by kernel_rfl) (fun K hK => ?_) none_e -- slot None mapUpdate
                go_simp
                refine hK.out _ _ ?_
                clear hK K
                try dsimp only
                try simp only [Act.put, List.setIfInBounds_toArray, List.set_cons_zero, List.set_cons_succ]
                refine done_e (by kernel_rfl) ?_ _
                have HFX : Hid (Fr (Just mb) w8 w10) := Lib.hid ((HF9.out.mono (fun _ _ h => h.elim)).trans hf10 (fun _ _ h => h))
                have HB10 : Hid (∃ E, Bl base w1.heap.size w w10 mb (k + 1) E ∧ RelI is E (l.take k) p 0) := Lib.hid (by
                  have h := RelI.new (p := p) HR6.out (by rw [HHE.out]; exact HNO.out) w8.heap.size
                  rw [HHE.out, HPK.out.1] at h
                  exact ⟨_, hb10, h⟩)
                have HFQ : Hid (Fr No w1 w10) := Lib.hid ((HF.out.then (HF6.out.then HF8.out)).own HFX.out (fun i e => by rw [show i = mb from e]; exact HMB.out))
                have Q8 := Lib.hid ((HB6.out.no HF8.out).keeps_mb HFX.out (HF8.out.keeps R8.out no_one))
                have Q9 := Lib.hid ((HB6.out.no HF8.out).keeps_mb HFX.out (HF8.out.keeps R9.out no_one))

                clear hf10 hb10 hrun10 hHeld HF9 R10 HFX
                (try simp only [Exit.inBlock, Exit.then])
                obtain ⟨wq, hwq⟩ : ∃ wq, wq = w10 := ⟨_, rfl⟩
                subst hwq
                clear R8 R9 HB6 HR6 HF6 HF8
                obtain ⟨wo, hwo⟩ : ∃ wo, wo = wr := ⟨_, rfl⟩
                subst hwo
                have q5 : wq.cell? ⟨g8, 3, none⟩ = some (.slice ap mp cp) := cell_of Q8.out 3
                go_wp2_with fail
                clear q5
                go_loopw [59] (fun i wx => ∃ j : Nat, j ≤ mp ∧ i = .int .i64 j ∧ Hid (Fr No w1 wx) ∧ Hid (∃ E, Bl base w1.heap.size w wx mb (k + 1) E ∧ RelI is E (l.take k) p j) ∧ Hid (wx.heap[g9]? = some (.cells #[.int .u8 x1, .int .i64 x2, .int .i64 x3, .string x4, .string x5] 66 (0, 0)))) (fun i _ => mp - (intOf i).toNat)
                case atStart => exact ⟨0, Nat.zero_le _, rfl, HFQ, HB10, Q9⟩
                case round =>
                  obtain ⟨j, hj, rfl, HFX, HBX, X9⟩ := hrel
                  by_cases hjm : j = mp
                  · subst hjm
                    go_wp2_with fail
                    refine ⟨⟨k + 1, some ⟨g9, 0, none⟩, by omega, by go_num, rfl, HFX, Lib.hid (HFPF.out _ X9.out), Lib.hid ?_, HRT2⟩, by simp [intOf]; omega⟩
                    obtain ⟨E', hb, hr⟩ := HBX.out
                    refine ⟨E', hb, ?_⟩
                    rw [HTS.out]
                    rw [← HPK.out.1] at hr
                    exact hr.done HWI.out
                  · have hjl : (j : Int) < (mp : Int) := by omega
                    obtain ⟨t, ht⟩ : ∃ t, p.kids[j]? = some t := ⟨_, List.getElem?_eq_getElem (by rw [HPK.out.1]; omega)⟩
                    obtain ⟨b', off', z0, z1, z2, z3, rfl, j1, j2, d0, d1, d2, d3, hit⟩ := Row.at_ 0 p.kids HPK.out.2 j t ht
                    clear j1 j2
                    rw [Nat.zero_add] at d0 d1 d2 d3
                    obtain ⟨kk, sk, nk, ak, mk, ck, rfl, rfl, rfl, rfl⟩ := is_cells hit
                    have HIT := Lib.hid hit
                    have HTK := Lib.hid ht
                    replace d0 := (HFW.out.then HFX.out).cell d0
                    replace d1 := (HFW.out.then HFX.out).cell d1
                    replace d2 := (HFW.out.then HFX.out).cell d2
                    replace d3 := (HFW.out.then HFX.out).cell d3
                    obtain ⟨E', hb, hr⟩ := HBX.out
                    obtain ⟨⟨x, hxe, hxc⟩, hxo⟩ := id hr
                    obtain ⟨v, hv⟩ := hr.at_ hxe (j := j) (by rw [HPK.out.1]; omega)
                    have hlen := hr.len hxe
                    rw [HPK.out.1] at hlen
                    have hop := hb.col _ _ hxe j _ hv
                    obtain ⟨av, cv, hvs⟩ := hop.slice
                    simp only at hvs
                    subst hvs
                    obtain ⟨gx, hgx⟩ : ∃ gx, x.g = gx := ⟨_, rfl⟩
                    obtain ⟨ES, hes1, hes2, hes3⟩ := id hop
                    simp only at hes1 hes2 hes3
                    obtain ⟨ln, hln⟩ : ∃ ln, (colP is (l.take k) (hdOf is p) j).length = ln := ⟨_, rfl⟩
                    rw [hln] at hes1 hes2 hv
                    have hln2 : ln ≤ 1048576 := by
                      rw [← hln]
                      have h1 := partsL_col is (hdOf is p) j (l.take k)
                      have h2 := partsL_len (colP is (l.take k) (hdOf is p) j)
                      have h3 := partsL_append (l.take k) (l.drop k)
                      rw [List.take_append_drop] at h3
                      have := HPP.out
                      omega
                    obtain ⟨w12, hw12⟩ : ∃ w12, wr.alloc (.cells #[.int .u8 kk, .string sk, .int .i64 nk, .slice ak mk ck] 40) = w12 := ⟨_, rfl⟩
                    obtain ⟨g11, hg11⟩ : ∃ g11, wr.heap.size = g11 := ⟨_, rfl⟩
                    have R11 : Hid (w12.heap[g11]? = some (.cells #[.int .u8 kk, .string sk, .int .i64 nk, .slice ak mk ck] 40 (0, 0))) := Lib.hid (by rw [← hw12, ← hg11]; exact new_block wr _)
                    have HF12 : Hid (Fr No wr w12) := Lib.hid (by rw [← hw12]; exact Fr.alloc _ _)
                    have HB12 := Lib.hid (hb.no HF12.out)
                    have HRI := Lib.hid hr
                    have HXE := Lib.hid hxe
                    have HVK := Lib.hid hv
                    have HOWN := Lib.hid (owns_no hes2 HF12.out)
                    have HES := Lib.hid hes3
                    have HESL := Lib.hid hes1
                    have HGX := Lib.hid hgx
                    have HLN := Lib.hid hln
                    have HSZ : Hid (w1.heap.size ≤ w12.heap.size) := Lib.hid (HFX.out.then HF12.out).size
                    have HFAR : Hid (∀ i, (i = gx ∨ (w1.heap.size ≤ i ∧ some i = (Value.slice av ln cv).ownBlock)) → w1.heap.size ≤ i ∧ i ≠ mb ∧ i ≠ g9 ∧ i ≠ g11) := Lib.hid (fun i hi => by
                      have hv2 := HVK.out
                      rw [← HLN.out] at hv2 hi
                      rw [← hgx] at hi
                      obtain ⟨f1, cs, ty, f2, f3⟩ := hb.far hxe hv2 i hi
                      obtain ⟨es, clk, hm⟩ := hb.mb_map
                      have hX9 := X9.out
                      refine ⟨f1, ?_, ?_, fun e => by have := lt_of_block f2; omega⟩
                      · rintro rfl
                        rw [hm] at f2
                        cases f2
                      · rintro rfl
                        rw [hX9] at f2
                        cases f2
                        rcases f3 with f3 | ⟨f3, _⟩ <;> cases f3
                      )
                    have HS : Hid (∀ w', Fr (fun i => w1.heap.size ≤ i ∧ some i = (Value.slice av ln cv).ownBlock) w12 w' → w'.cell? ⟨g9, 0, none⟩ = some (.int .u8 x1) ∧ w'.cell? ⟨g9, 1, none⟩ = some (.int .i64 x2) ∧ w'.cell? ⟨g9, 2, none⟩ = some (.int .i64 x3) ∧ w'.cell? ⟨g9, 3, none⟩ = some (.string x4) ∧ w'.cell? ⟨g9, 4, none⟩ = some (.string x5) ∧ w'.cell? ⟨g11, 0, none⟩ = some (.int .u8 kk) ∧ w'.cell? ⟨g11, 1, none⟩ = some (.string sk) ∧ w'.cell? ⟨g11, 2, none⟩ = some (.int .i64 nk) ∧ w'.cell? ⟨g11, 3, none⟩ = some (.slice ak mk ck) ∧ w'.cell? ⟨gx, j, none⟩ = some (.slice av ln cv) ∧ (Instr.lookup 63 (.map (some mb)) (.agg #[.int .u8 (x1 : Int), .int .i64 x2, .int .i64 x3, .string x4, .string x5]) false).run Try.prog w' = .ok (.slice (some ⟨gx, 0, none⟩) mp mp) w') := Lib.hid (fun w' hf => by
                      have k9 := hf.keeps (HF12.out.keeps X9.out no_one) (fun h => (HFAR.out g9 (.inr h)).2.2.1 rfl)
                      have k11 := hf.keeps R11.out (fun h => (HFAR.out g11 (.inr h)).2.2.2 rfl)
                      have hbx := (HB12.out.blk _ _ HXE.out).2
                      rw [hgx] at hbx
                      have kx := hf.keeps hbx (fun h => by
                        have hv2 := HVK.out
                        obtain ⟨_, cur, hcur⟩ := (HB12.out.col _ _ HXE.out j _ hv2).own h.2.symm
                        rw [hbx] at hcur
                        cases hcur)
                      have hl := HB12.out.look_fr hf (fun h => (HFAR.out mb (.inr h)).2.1 rfl) (k := ⟨x1, x2, x3, x4, x5⟩) HKL.out
                      have hxe2 := HXE.out
                      rw [HHE.out] at hxe2
                      rw [hxe2] at hl
                      simp only [entV, hlen, hgx] at hl
                      refine ⟨cell_of k9 0, cell_of k9 1, cell_of k9 2, cell_of k9 3, cell_of k9 4, cell_of k11 0, cell_of k11 1, cell_of k11 2, cell_of k11 3, ?_, hl⟩
                      rw [cell_of kx j]
                      simp [HVK.out])
                    have HFRZ : Hid (∀ w', Fr (fun i => w1.heap.size ≤ i ∧ some i = (Value.slice av ln cv).ownBlock) w12 w' → w'.frozen? ⟨gx, j, none⟩ = false) := Lib.hid (fun w' hf => by
                      have hbx := (HB12.out.blk _ _ HXE.out).2
                      rw [hgx] at hbx
                      exact free_of (hf.keeps hbx (fun h => by
                        obtain ⟨_, cur, hcur⟩ := (HB12.out.col _ _ HXE.out j _ HVK.out).own h.2.symm
                        rw [hbx] at hcur
                        cases hcur)) j)
                    have HOWNB : Hid (∀ i, (Value.slice av ln cv).ownBlock = some i → w1.heap.size ≤ i) := Lib.hid (fun i h => ((HB12.out.col _ _ HXE.out j _ HVK.out).own h).1)
                    obtain ⟨i40, z40, hi40, hz40, h140, h240, h340⟩ := zero40
                    clear hit ht hb hr hxe hxc hxo hv hlen hop hes1 hes2 hes3 hgx hln
                    go_upto_region 21 with fail
                    (try rw [hw12, hg11])
                    clear hw12 hg11 d0 d1 d2 d3
                    refine region_e (fun w' => w'.cell? ⟨g9, 0, none⟩ = some (.int .u8 x1) ∧ w'.cell? ⟨g9, 1, none⟩ = some (.int .i64 x2) ∧ w'.cell? ⟨g9, 2, none⟩ = some (.int .i64 x3) ∧ w'.cell? ⟨g9, 3, none⟩ = some (.string x4) ∧ w'.cell? ⟨g9, 4, none⟩ = some (.string x5) ∧ w'.cell? ⟨g11, 0, none⟩ = some (.int .u8 kk) ∧ w'.cell? ⟨g11, 1, none⟩ = some (.string sk) ∧ w'.cell? ⟨g11, 2, none⟩ = some (.int .i64 nk) ∧ w'.cell? ⟨g11, 3, none⟩ = some (.slice ak mk ck) ∧ w'.cell? ⟨gx, j, none⟩ = some (.slice av ln cv) ∧ (Instr.lookup 63 (.map (some mb)) (.agg #[.int .u8 (x1 : Int), .int .i64 x2, .int .i64 x3, .string x4, .string x5]) false).run Try.prog w' = .ok (.slice (some ⟨gx, 0, none⟩) mp mp) w') [14] (by kernel_rfl) ?_ (fun hHeld => ?_)
                    · exact HS.out _ ((Fr.drew _).mono (fun _ _ h => h.elim))
                    refine take_op 0 (some 64) (Op.move ( .tmp 5)) 63 ?_ (by kernel_rfl) (by kernel_rfl) (by kernel_rfl) (fun _ _ _ h => h) ?_ (by assumption) ?_
                    rotate_left
                    · intro w hSw; (try dsimp only at hSw); go_simp; (try (with_reducible rfl))
                    try simp only [Act.put, List.setIfInBounds_toArray, List.set_cons_zero, List.set_cons_succ]
                    refine take_op 1 (some 65) (Op.load 66 ( .tmp 9)) 66 ?_ (by kernel_rfl) (by kernel_rfl) (by kernel_rfl) (fun _ _ _ h => h) ?_ (by assumption) ?_
                    rotate_left
                    · intro w hSw; (try dsimp only at hSw); go_simp; (try (with_reducible rfl))
                    try simp only [Act.put, List.setIfInBounds_toArray, List.set_cons_zero, List.set_cons_succ]
                    refine take_op 2 (some 66) (Op.lookup 63 ( .tmp 64) ( .tmp 65) false) 69 ?_ (by kernel_rfl) (by kernel_rfl) (by kernel_rfl) (fun _ _ _ h => h) ?_ (by assumption) ?_
                    rotate_left
                    · intro w hSw; (try dsimp only at hSw); go_simp; (try (with_reducible rfl))
                    try simp only [Act.put, List.setIfInBounds_toArray, List.set_cons_zero, List.set_cons_succ]
                    refine take_op 3 (some 67) (Op.move ( .tmp 10)) 3 ?_ (by kernel_rfl) (by kernel_rfl) (by kernel_rfl) (fun _ _ _ h => h) ?_ (by assumption) ?_
                    rotate_left
                    · intro w hSw; (try dsimp only at hSw); go_simp; (try (with_reducible rfl))
                    try simp only [Act.put, List.setIfInBounds_toArray, List.set_cons_zero, List.set_cons_succ]
                    refine take_op 4 (some 68) (Op.move ( .tmp 5)) 63 ?_ (by kernel_rfl) (by kernel_rfl) (by kernel_rfl) (fun _ _ _ h => h) ?_ (by assumption) ?_
                    rotate_left
                    · intro w hSw; (try dsimp only at hSw); go_simp; (try (with_reducible rfl))
                    try simp only [Act.put, List.setIfInBounds_toArray, List.set_cons_zero, List.set_cons_succ]
                    refine take_op 5 (some 69) (Op.load 66 ( .tmp 9)) 66 ?_ (by kernel_rfl) (by kernel_rfl) (by kernel_rfl) (fun _ _ _ h => h) ?_ (by assumption) ?_
                    rotate_left
                    · intro w hSw; (try dsimp only at hSw); go_simp; (try (with_reducible rfl))
                    try simp only [Act.put, List.setIfInBounds_toArray, List.set_cons_zero, List.set_cons_succ]
                    refine take_op 6 (some 70) (Op.lookup 63 ( .tmp 68) ( .tmp 69) false) 69 ?_ (by kernel_rfl) (by kernel_rfl) (by kernel_rfl) (fun _ _ _ h => h) ?_ (by assumption) ?_
                    rotate_left
                    · intro w hSw; (try dsimp only at hSw); go_simp; (try (with_reducible rfl))
                    try simp only [Act.put, List.setIfInBounds_toArray, List.set_cons_zero, List.set_cons_succ]
                    refine take_op 7 (some 71) (Op.move ( .tmp 10)) 3 ?_ (by kernel_rfl) (by kernel_rfl) (by kernel_rfl) (fun _ _ _ h => h) ?_ (by assumption) ?_
                    rotate_left
                    · intro w hSw; (try dsimp only at hSw); go_simp; (try (with_reducible rfl))
                    try simp only [Act.put, List.setIfInBounds_toArray, List.set_cons_zero, List.set_cons_succ]
                    refine take_op 8 (some 72) (Op.indexAddr 69 ( .tmp 70) ( .tmp 71)) 0 ?_ (by kernel_rfl) (by kernel_rfl) (by kernel_rfl) (fun _ _ _ h => h) ?_ (by assumption) ?_
                    rotate_left
                    · intro w hSw; (try dsimp only at hSw); go_simp; (try (with_reducible rfl))
                    try simp only [Act.put, List.setIfInBounds_toArray, List.set_cons_zero, List.set_cons_succ]
                    refine take_op 9 (some 73) (Op.load 22 ( .tmp 72)) 22 ?_ (by kernel_rfl) (by kernel_rfl) (by kernel_rfl) (fun _ _ _ h => h) ?_ (by assumption) ?_
                    rotate_left
                    · intro w hSw; (try dsimp only at hSw); go_simp; (try (with_reducible rfl))
                    try simp only [Act.put, List.setIfInBounds_toArray, List.set_cons_zero, List.set_cons_succ]
                    refine take_op 10 (some 74) (Op.load 40 ( .tmp 11)) 40 ?_ (by kernel_rfl) (by kernel_rfl) (by kernel_rfl) (fun _ _ _ h => h) ?_ (by assumption) ?_
                    rotate_left
                    · intro w hSw; (try dsimp only at hSw); go_simp; (try (with_reducible rfl))
                    try simp only [Act.put, List.setIfInBounds_toArray, List.set_cons_zero, List.set_cons_succ]
                    refine ready_e (rs := [11]) (by kernel_rfl) (by simp) ?_
                    refine do_mid (o := _) rfl (fun K hK => ?_) none_e -- slot 75 buildSlice
                    go_simp
                    have HF13 : Hid (Fr No w12 (w12.drew.alloc (.cells #[.int .u8 kk, .string sk, .int .i64 nk, .slice ak mk ck] 40))) := Lib.hid ((Fr.drew _).then (Fr.alloc _ _))
                    refine hK.out _ _ ?_ (fun hHeld => ?_)
                    · exact HS.out _ (HF13.out.mono (fun _ _ h => h.elim))
                    clear hK K
                    try dsimp only
                    try simp only [Act.put, List.setIfInBounds_toArray, List.set_cons_zero, List.set_cons_succ]
                    refine ready_e (rs := [12]) (by kernel_rfl) (by simp) ?_
                    refine do_mid (o := _) rfl (fun K hK => ?_) none_e -- slot 76 B
                    refine step_append_lies _ rfl _ _ 22 rfl w1.heap.size 40 i40 z40 4 56 Try.underlying22 hi40 hz40 h140 h240 h340 (by decide) (.slice av ln cv) ln (ES.flatMap El.cs) rfl (owns_no HOWN.out HF13.out) ⟨w12.heap.size, 0, none⟩ 1 1 [.int .u8 kk, .string sk, .int .i64 nk, .slice ak mk ck] rfl rfl (World.news_of_block (new_block w12.drew _)) (by simp [Value.oneCell']) (by decide) (by unfold maxLen; omega) (by omega) (Nat.le_trans HSZ.out HF13.out.size) _ rfl ?_
                    intro g14 c14 w14 hown14 hg14 hat14 hlt14
                    have HF14 : Hid (Fr (fun j => w1.heap.size ≤ j ∧ some j = (Value.slice av ln cv).ownBlock) w12 w14) := Lib.hid ((HF13.out.mono (fun _ _ h => h.elim)).trans (Fr.grownR hg14 (fun k e => ⟨(HOWNB.out k e), e.symm⟩)) (fun _ _ h => h))
                    have HFZ : Hid (w14.frozen? ⟨gx, j, none⟩ = false) := Lib.hid (HFRZ.out _ HF14.out)
                    have HOWN14 := Lib.hid hown14
                    have HAT := Lib.hid hat14
                    clear hown14 hg14 hat14 hlt14
                    refine hK.out _ _ ?_ (fun hHeld => ?_)
                    · exact HS.out _ HF14.out
                    clear hK K
                    try dsimp only
                    try simp only [Act.put, List.setIfInBounds_toArray, List.set_cons_zero, List.set_cons_succ]
                    refine take_op 13 (some 77) (Op.indexAddr 69 ( .tmp 66) ( .tmp 67)) 0 ?_ (by kernel_rfl) (by kernel_rfl) (by kernel_rfl) (fun _ _ _ h => h) ?_ (by assumption) ?_
                    rotate_left
                    · intro w hSw; (try dsimp only at hSw); go_simp; (try (with_reducible rfl))
                    try simp only [Act.put, List.setIfInBounds_toArray, List.set_cons_zero, List.set_cons_succ]
                    have hfz := HFZ.out
                    refine ready_e (rs := [14]) (by kernel_rfl) (by simp) ?_
                    refine do_late (o := _) rfl (by kernel_rfl) (fun K hK => ?_) none_e -- slot None store
                    go_simp
                    refine hK.out _ _ ?_
                    clear hK K
                    try dsimp only
                    try simp only [Act.put, List.setIfInBounds_toArray, List.set_cons_zero, List.set_cons_succ]
                    refine done_e (by kernel_rfl) ?_ _
                    (try simp only [Exit.inBlock, Exit.then])
                    obtain ⟨w15, hw15⟩ : ∃ w15, w15 = w14.setCell ⟨gx, j, none⟩ (.slice (some ⟨g14, 0, none⟩) (ln + 1) c14) := ⟨_, rfl⟩
                    have HAPP : Hid (Bl base w1.heap.size w w15 mb (k + 1) (upd E' (hdOf is p) ⟨x.g, x.cols.set j (.slice (some ⟨g14, 0, none⟩) (ln + 1) c14, colP is (l.take k) (hdOf is p) j ++ [t])⟩) ∧ Fr (fun i => i = gx ∨ (w1.heap.size ≤ i ∧ some i = (Value.slice av ln cv).ownBlock)) w12 w15) := Lib.hid (by
                      rw [hw15, ← HGX.out]
                      refine HB12.out.app HXE.out HVK.out HMB.out HF14.out (OutP.snoc (x := ⟨0, .int .u8 kk, .string sk, .int .i64 nk, .slice ak mk ck⟩) (HESL.out.trans HLN.out.symm) HES.out (by rw [HLN.out]; exact HOWN14.out) HIT.out) ?_
                      rcases HAT.out with h | h
                      · exact .inl h.symm
                      · refine .inr ⟨g14, rfl, ?_⟩
                        rw [h]
                        exact HF13.out.size)
                    rw [← hw15]
                    have HB15 : Hid (∃ E, Bl base w1.heap.size w w15 mb (k + 1) E ∧ RelI is E (l.take k) p (j + 1)) := Lib.hid ⟨_, HAPP.out.1, HRI.out.step HXE.out HWI.out HTK.out _⟩
                    have HFW15 : Hid (Fr No w1 w15) := Lib.hid ((HFX.out.then HF12.out).own HAPP.out.2 (fun i h => (HFAR.out i h).1))
                    have Y9 := Lib.hid (HAPP.out.2.keeps (HF12.out.keeps X9.out no_one) (fun h => (HFAR.out g9 h).2.2.1 rfl))

                    clear hHeld hw15 HAPP hfz
                    go_wp2_with fail
                    exact ⟨⟨j + 1, by omega, by go_num, HFW15, HB15, Y9⟩, by simp [intOf]; omega⟩
              · skip
                have RF : Hid (w6.heap[gf]? = some (.cells #[.int .u8 y1, .int .i64 y2, .int .i64 y3, .string y4, .string y5] 66 (0, 0))) := Lib.hid (HF6.out.keeps hgf no_one)
                have HFE := Lib.hid hfe
                have HFS := Lib.hid hfs
                clear hgf hfe hfs HFP
                have HS9 : Hid (∀ w', Calls Try.prog 32 #[.agg #[.int .u8 (x1 : Int), .int .i64 x2, .int .i64 x3, .string x4, .string x5]] w' (SaidV w' (.agg #[.int .u8 (x1 : Int), .int .i64 0, .int .i64 x3, .string ⟨#[]⟩, .string x5]))) := Lib.hid (fun w' => sort_any ⟨x1, x2, x3, x4, x5⟩ w')
                by_cases hs : x1 = y1 ∧ x3 = y3 ∧ x5 = y5
                · obtain ⟨rfl, rfl, rfl⟩ := hs
                  have HSF : Hid (∀ w', Calls Try.prog 32 #[.agg #[.int .u8 (x1 : Int), .int .i64 y2, .int .i64 x3, .string y4, .string x5]] w' (SaidV w' (.agg #[.int .u8 (x1 : Int), .int .i64 0, .int .i64 x3, .string ⟨#[]⟩, .string x5]))) := Lib.hid (fun w' => sort_any ⟨x1, y2, x3, y4, x5⟩ w')
                  have HFPF : Hid (∀ w' : World, w'.heap[gf]? = some (.cells #[.int .u8 x1, .int .i64 y2, .int .i64 x3, .string y4, .string x5] 66 (0, 0)) → FirstP is w' (some ⟨gf, 0, none⟩) (l.take (k + 1))) := Lib.hid (fun w' hw' => .inr ⟨gf, ⟨x1, y2, x3, y4, x5⟩, rfl, ⟨x1, y2, x3, y4, x5, rfl, hw'⟩, (by
                    obtain ⟨f, h1, h2, h3⟩ := HFE.out
                    exact ⟨f, by rw [HTS.out]; exact List.mem_append_left _ h1, h2, h3⟩), fun q hq wq => by
                    rw [HTS.out] at hq
                    rcases List.mem_append.1 hq with hq | hq
                    · exact HFS.out q hq wq
                    · simp only [List.mem_singleton] at hq
                      rw [hq, HHE.out]
                      rfl⟩)
                  have HEO : Hid (E ⟨x1, x2, x3, x4, x5⟩ = none ∨ ∃ x, E ⟨x1, x2, x3, x4, x5⟩ = some x) := Lib.hid (by cases E ⟨x1, x2, x3, x4, x5⟩ <;> simp)
                  go_upto_region 14 with fail
                  refine region_e (fun w' => w'.cell? ⟨g9, 0, none⟩ = some (.int .u8 x1) ∧ w'.cell? ⟨g9, 1, none⟩ = some (.int .i64 x2) ∧ w'.cell? ⟨g9, 2, none⟩ = some (.int .i64 x3) ∧ w'.cell? ⟨g9, 3, none⟩ = some (.string x4) ∧ w'.cell? ⟨g9, 4, none⟩ = some (.string x5) ∧ w'.cell? ⟨gf, 0, none⟩ = some (.int .u8 x1) ∧ w'.cell? ⟨gf, 1, none⟩ = some (.int .i64 y2) ∧ w'.cell? ⟨gf, 2, none⟩ = some (.int .i64 x3) ∧ w'.cell? ⟨gf, 3, none⟩ = some (.string y4) ∧ w'.cell? ⟨gf, 4, none⟩ = some (.string x5)) [] (by kernel_rfl) ?_ (fun hHeld => ?_)
                  · exact ⟨cell_of ((Fr.drew _).keeps R9.out no_one) 0, cell_of ((Fr.drew _).keeps R9.out no_one) 1, cell_of ((Fr.drew _).keeps R9.out no_one) 2, cell_of ((Fr.drew _).keeps R9.out no_one) 3, cell_of ((Fr.drew _).keeps R9.out no_one) 4, cell_of ((Fr.drew _).keeps RF.out no_one) 0, cell_of ((Fr.drew _).keeps RF.out no_one) 1, cell_of ((Fr.drew _).keeps RF.out no_one) 2, cell_of ((Fr.drew _).keeps RF.out no_one) 3, cell_of ((Fr.drew _).keeps RF.out no_one) 4⟩
                  refine take_op 0 (some 39) (Op.load 66 ( .tmp 9)) 66 ?_ (by kernel_rfl) (by kernel_rfl) (by kernel_rfl) (fun _ _ _ h => h) ?_ (by assumption) ?_
                  rotate_left
                  · intro w hSw; (try dsimp only at hSw); go_simp; (try (with_reducible rfl))
                  try simp only [Act.put, List.setIfInBounds_toArray, List.set_cons_zero, List.set_cons_succ]
                  refine take_op 2 (some 41) (Op.move ( .tmp 6)) 64 ?_ (by kernel_rfl) (by kernel_rfl) (by kernel_rfl) (fun _ _ _ h => h) ?_ (by assumption) ?_
                  rotate_left
                  · intro w hSw; (try dsimp only at hSw); go_simp; (try (with_reducible rfl))
                  try simp only [Act.put, List.setIfInBounds_toArray, List.set_cons_zero, List.set_cons_succ]
                  refine take_op 3 (some 42) (Op.nilCheck ( .tmp 41)) 0 ?_ (by kernel_rfl) (by kernel_rfl) (by kernel_rfl) (fun _ _ _ h => h) ?_ (by assumption) ?_
                  rotate_left
                  · intro w hSw; (try dsimp only at hSw); go_simp; (try (with_reducible rfl))
                  try simp only [Act.put, List.setIfInBounds_toArray, List.set_cons_zero, List.set_cons_succ]
                  refine take_op 4 (some 43) (Op.load 66 ( .tmp 42)) 66 ?_ (by kernel_rfl) (by kernel_rfl) (by kernel_rfl) (fun _ _ _ h => h) ?_ (by assumption) ?_
                  rotate_left
                  · intro w hSw; (try dsimp only at hSw); go_simp; (try (with_reducible rfl))
                  try simp only [Act.put, List.setIfInBounds_toArray, List.set_cons_zero, List.set_cons_succ]
                  refine ready_e (rs := [1]) (by kernel_rfl) (by simp) ?_
                  refine do_mid (o := _) rfl (fun K hK => ?_) none_e -- slot 40 F32
                  go_simp
                  go_at_call 32
                  refine (HS9.out _).mono ?_
                  rintro e' w7 ⟨rfl, hf7⟩
                  have HF7 : Hid (Fr No w6 w7) := Lib.hid ((Fr.drew _).then hf7)
                  clear hf7
                  refine hK.out _ _ ?_ (fun hHeld => ?_)
                  · exact ⟨cell_of (HF7.out.keeps R9.out no_one) 0, cell_of (HF7.out.keeps R9.out no_one) 1, cell_of (HF7.out.keeps R9.out no_one) 2, cell_of (HF7.out.keeps R9.out no_one) 3, cell_of (HF7.out.keeps R9.out no_one) 4, cell_of (HF7.out.keeps RF.out no_one) 0, cell_of (HF7.out.keeps RF.out no_one) 1, cell_of (HF7.out.keeps RF.out no_one) 2, cell_of (HF7.out.keeps RF.out no_one) 3, cell_of (HF7.out.keeps RF.out no_one) 4⟩
                  clear hK K
                  try dsimp only
                  try simp only [Act.put, List.setIfInBounds_toArray, List.set_cons_zero, List.set_cons_succ]
                  refine ready_e (rs := [5]) (by kernel_rfl) (by simp) ?_
                  refine do_mid (o := _) rfl (fun K hK => ?_) none_e -- slot 44 F32
                  go_simp
                  go_at_call 32
                  refine (HSF.out _).mono ?_
                  rintro e' w8 ⟨rfl, hf8⟩
                  have HF8 : Hid (Fr No w6 w8) := Lib.hid (HF7.out.then hf8)
                  clear hf8
                  refine hK.out _ _ ?_ (fun hHeld => ?_)
                  · exact ⟨cell_of (HF8.out.keeps R9.out no_one) 0, cell_of (HF8.out.keeps R9.out no_one) 1, cell_of (HF8.out.keeps R9.out no_one) 2, cell_of (HF8.out.keeps R9.out no_one) 3, cell_of (HF8.out.keeps R9.out no_one) 4, cell_of (HF8.out.keeps RF.out no_one) 0, cell_of (HF8.out.keeps RF.out no_one) 1, cell_of (HF8.out.keeps RF.out no_one) 2, cell_of (HF8.out.keeps RF.out no_one) 3, cell_of (HF8.out.keeps RF.out no_one) 4⟩
                  clear hK K
                  try dsimp only
                  try simp only [Act.put, List.setIfInBounds_toArray, List.set_cons_zero, List.set_cons_succ]
                  refine take_op 6 (some 45) (Op.binOp BinOp.neq 66 ( .tmp 40) ( .tmp 44) 66) 4 ?_ (by kernel_rfl) (by kernel_rfl) (by kernel_rfl) (fun _ _ _ h => h) ?_ (by assumption) ?_
                  rotate_left
                  · intro w hSw; (try dsimp only at hSw); go_simp; (try (with_reducible rfl))
                  try simp only [Act.put, List.setIfInBounds_toArray, List.set_cons_zero, List.set_cons_succ]
                  refine done_e (by kernel_rfl) ?_ _
                  (try simp only [Exit.inBlock, Exit.then])
                  clear hHeld HS9 HSF HF7
                  rcases HEO.out with he | he
                  · have HNO := Lib.hid he
                    clear he HEO
                    have HSZ8 : Hid (w1.heap.size ≤ w8.heap.size) := Lib.hid (HF.out.then (HF6.out.then HF8.out)).size
                    have hmp2 : mp ≤ 1048576 := by rw [← HPK.out.1]; exact (wfP_parts (wfL_mem.1 HWF.out p HPM.out)).2.1
                    obtain ⟨q0, q1, q2, q3, q4⟩ : w8.cell? ⟨g9, 0, none⟩ = some (.int .u8 x1) ∧ w8.cell? ⟨g9, 1, none⟩ = some (.int .i64 x2) ∧ w8.cell? ⟨g9, 2, none⟩ = some (.int .i64 x3) ∧ w8.cell? ⟨g9, 3, none⟩ = some (.string x4) ∧ w8.cell? ⟨g9, 4, none⟩ = some (.string x5) := ⟨cell_of (HF8.out.keeps R9.out no_one) 0, cell_of (HF8.out.keeps R9.out no_one) 1, cell_of (HF8.out.keeps R9.out no_one) 2, cell_of (HF8.out.keeps R9.out no_one) 3, cell_of (HF8.out.keeps R9.out no_one) 4⟩
                    have q5 : w8.cell? ⟨g8, 3, none⟩ = some (.slice ap mp cp) := cell_of (HF8.out.keeps R8.out no_one) 3

                    have hlook : (Instr.lookup 63 (.map (some mb)) (.agg #[.int .u8 (x1 : Int), .int .i64 x2, .int .i64 x3, .string x4, .string x5]) false).run Try.prog w8 = .ok (.slice none 0 0) w8 := by
                      have h := (HB6.out.no HF8.out).look (k := ⟨x1, x2, x3, x4, x5⟩) HKL.out
                      rw [HNO.out] at h
                      exact h
                    have hnil : ∀ u : World, (binOp .eql 69 (.slice none 0 0) (.slice none 0 0)).run Try.prog u = .ok (.bool true) u := fun u => Lib.run_eql_slice_nil u 69 22 none 0 0 0 0 Try.underlying69
                    go_upto_region 17 with fail
                    clear q0 q1 q2 q3 q4 q5 hlook hnil
                    refine region_e (fun w' => w'.cell? ⟨g9, 0, none⟩ = some (.int .u8 x1) ∧ w'.cell? ⟨g9, 1, none⟩ = some (.int .i64 x2) ∧ w'.cell? ⟨g9, 2, none⟩ = some (.int .i64 x3) ∧ w'.cell? ⟨g9, 3, none⟩ = some (.string x4) ∧ w'.cell? ⟨g9, 4, none⟩ = some (.string x5) ∧ w'.cell? ⟨g8, 3, none⟩ = some (.slice ap mp cp)) [6] (by kernel_rfl) ?_ (fun hHeld => ?_)
                    · exact ⟨cell_of ((HF8.out.then (Fr.drew _)).keeps R9.out no_one) 0, cell_of ((HF8.out.then (Fr.drew _)).keeps R9.out no_one) 1, cell_of ((HF8.out.then (Fr.drew _)).keeps R9.out no_one) 2, cell_of ((HF8.out.then (Fr.drew _)).keeps R9.out no_one) 3, cell_of ((HF8.out.then (Fr.drew _)).keeps R9.out no_one) 4, cell_of ((HF8.out.then (Fr.drew _)).keeps R8.out no_one) 3⟩
                    refine take_op 0 (some 50) (Op.move ( .tmp 5)) 63 ?_ (by kernel_rfl) (by kernel_rfl) (by kernel_rfl) (fun _ _ _ h => h) ?_ (by assumption) ?_
                    rotate_left
                    · intro w hSw; (try dsimp only at hSw); go_simp; (try (with_reducible rfl))
                    try simp only [Act.put, List.setIfInBounds_toArray, List.set_cons_zero, List.set_cons_succ]
                    refine take_op 1 (some 51) (Op.load 66 ( .tmp 9)) 66 ?_ (by kernel_rfl) (by kernel_rfl) (by kernel_rfl) (fun _ _ _ h => h) ?_ (by assumption) ?_
                    rotate_left
                    · intro w hSw; (try dsimp only at hSw); go_simp; (try (with_reducible rfl))
                    try simp only [Act.put, List.setIfInBounds_toArray, List.set_cons_zero, List.set_cons_succ]
                    refine take_op 2 (some 52) (Op.fieldAddr 40 ( .tmp 8) 3) 0 ?_ (by kernel_rfl) (by kernel_rfl) (by kernel_rfl) (fun _ _ _ h => h) ?_ (by assumption) ?_
                    rotate_left
                    · intro w hSw; (try dsimp only at hSw); go_simp; (try (with_reducible rfl))
                    try simp only [Act.put, List.setIfInBounds_toArray, List.set_cons_zero, List.set_cons_succ]
                    refine take_op 3 (some 53) (Op.load 22 ( .tmp 52)) 22 ?_ (by kernel_rfl) (by kernel_rfl) (by kernel_rfl) (fun _ _ _ h => h) ?_ (by assumption) ?_
                    rotate_left
                    · intro w hSw; (try dsimp only at hSw); go_simp; (try (with_reducible rfl))
                    try simp only [Act.put, List.setIfInBounds_toArray, List.set_cons_zero, List.set_cons_succ]
                    refine take_op 4 (some 54) (Op.call { callee := Callee.builtin Builtin.len, args := #[ .tmp 53], argTypes := #[22] }) 3 ?_ (by kernel_rfl) (by kernel_rfl) (by kernel_rfl) (fun _ _ _ h => h) ?_ (by assumption) ?_
                    rotate_left
                    · intro w hSw; (try dsimp only at hSw); go_simp; (try (with_reducible rfl))
                    try simp only [Act.put, List.setIfInBounds_toArray, List.set_cons_zero, List.set_cons_succ]
                    have hmk := make69 mp hmp2 w8.drew
                    refine ready_e (rs := [5]) (by kernel_rfl) (by simp) ?_
                    refine do_mid (o := _) rfl (fun K hK => ?_) none_e -- slot 55 makeSlice
                    go_simp
                    obtain ⟨w9, hw9⟩ : ∃ w9, w9 = (w8.alloc (.cells (Array.replicate mp nilS) 22)).drew := ⟨_, rfl⟩
                    rw [← hw9]
                    have HF9 : Hid (Fr No w8 w9) := Lib.hid (by rw [hw9]; exact (Fr.alloc _ _).then (Fr.drew _))
                    have R10 : Hid (w9.heap[w8.heap.size]? = some (.cells (List.replicate mp nilS).toArray 22 (0, 0))) := Lib.hid (by rw [hw9]; exact (new_block w8 _).trans (by rw [List.toArray_replicate]))
                    clear hw9 hmk
                    refine hK.out _ _ ?_ (fun hHeld => ?_)
                    · exact ⟨cell_of ((HF8.out.then HF9.out).keeps R9.out no_one) 0, cell_of ((HF8.out.then HF9.out).keeps R9.out no_one) 1, cell_of ((HF8.out.then HF9.out).keeps R9.out no_one) 2, cell_of ((HF8.out.then HF9.out).keeps R9.out no_one) 3, cell_of ((HF8.out.then HF9.out).keeps R9.out no_one) 4, cell_of ((HF8.out.then HF9.out).keeps R8.out no_one) 3⟩
                    clear hK K
                    try dsimp only
                    try simp only [Act.put, List.setIfInBounds_toArray, List.set_cons_zero, List.set_cons_succ]
                    obtain ⟨w10, hrun10, hf10, hb10⟩ := (HB6.out.no HF8.out).new (k := ⟨x1, x2, x3, x4, x5⟩) HKL.out HNO.out (by unfold maxLen; omega) HF9.out (g := w8.heap.size) (m := mp) (Nat.le_refl _) HSZ8.out HMB.out R10.out
                    simp only [hdV] at hrun10
                    refine ready_e (rs := [6]) (by kernel_rfl) (by simp) ?_
                    refine do_late (o := _) rfl (by kernel_rfl) (fun K hK => ?_) none_e -- slot None mapUpdate
                    go_simp
                    refine hK.out _ _ ?_
                    clear hK K
                    try dsimp only
                    try simp only [Act.put, List.setIfInBounds_toArray, List.set_cons_zero, List.set_cons_succ]
                    refine done_e (by kernel_rfl) ?_ _
                    have HFX : Hid (Fr (Just mb) w8 w10) := Lib.hid ((HF9.out.mono (fun _ _ h => h.elim)).trans hf10 (fun _ _ h => h))
                    have HB10 : Hid (∃ E, Bl base w1.heap.size w w10 mb (k + 1) E ∧ RelI is E (l.take k) p 0) := Lib.hid (by
                      have h := RelI.new (p := p) HR6.out (by rw [HHE.out]; exact HNO.out) w8.heap.size
                      rw [HHE.out, HPK.out.1] at h
                      exact ⟨_, hb10, h⟩)
                    have HFQ : Hid (Fr No w1 w10) := Lib.hid ((HF.out.then (HF6.out.then HF8.out)).own HFX.out (fun i e => by rw [show i = mb from e]; exact HMB.out))
                    have Q8 := Lib.hid ((HB6.out.no HF8.out).keeps_mb HFX.out (HF8.out.keeps R8.out no_one))
                    have Q9 := Lib.hid ((HB6.out.no HF8.out).keeps_mb HFX.out (HF8.out.keeps R9.out no_one))
                    have QF := Lib.hid ((HB6.out.no HF8.out).keeps_mb HFX.out (HF8.out.keeps RF.out no_one))

                    clear hf10 hb10 hrun10 hHeld HF9 R10 HFX
                    (try simp only [Exit.inBlock, Exit.then])
                    obtain ⟨wq, hwq⟩ : ∃ wq, wq = w10 := ⟨_, rfl⟩
                    subst hwq
                    clear R8 R9 HB6 HR6 HF6 HF8
                    obtain ⟨wo, hwo⟩ : ∃ wo, wo = wr := ⟨_, rfl⟩
                    subst hwo
                    have q5 : wq.cell? ⟨g8, 3, none⟩ = some (.slice ap mp cp) := cell_of Q8.out 3
                    go_wp2_with fail
                    clear q5
                    go_loopw [59] (fun i wx => ∃ j : Nat, j ≤ mp ∧ i = .int .i64 j ∧ Hid (Fr No w1 wx) ∧ Hid (∃ E, Bl base w1.heap.size w wx mb (k + 1) E ∧ RelI is E (l.take k) p j) ∧ Hid (wx.heap[g9]? = some (.cells #[.int .u8 x1, .int .i64 x2, .int .i64 x3, .string x4, .string x5] 66 (0, 0))) ∧ Hid (wx.heap[gf]? = some (.cells #[.int .u8 x1, .int .i64 y2, .int .i64 x3, .string y4, .string x5] 66 (0, 0)))) (fun i _ => mp - (intOf i).toNat)
                    case atStart => exact ⟨0, Nat.zero_le _, rfl, HFQ, HB10, Q9, QF⟩
                    case round =>
                      obtain ⟨j, hj, rfl, HFX, HBX, X9, XF⟩ := hrel
                      by_cases hjm : j = mp
                      · subst hjm
                        go_wp2_with fail
                        refine ⟨⟨k + 1, some ⟨gf, 0, none⟩, by omega, by go_num, rfl, HFX, Lib.hid (HFPF.out _ XF.out), Lib.hid ?_, HRT2⟩, by simp [intOf]; omega⟩
                        obtain ⟨E', hb, hr⟩ := HBX.out
                        refine ⟨E', hb, ?_⟩
                        rw [HTS.out]
                        rw [← HPK.out.1] at hr
                        exact hr.done HWI.out
                      · have hjl : (j : Int) < (mp : Int) := by omega
                        obtain ⟨t, ht⟩ : ∃ t, p.kids[j]? = some t := ⟨_, List.getElem?_eq_getElem (by rw [HPK.out.1]; omega)⟩
                        obtain ⟨b', off', z0, z1, z2, z3, rfl, j1, j2, d0, d1, d2, d3, hit⟩ := Row.at_ 0 p.kids HPK.out.2 j t ht
                        clear j1 j2
                        rw [Nat.zero_add] at d0 d1 d2 d3
                        obtain ⟨kk, sk, nk, ak, mk, ck, rfl, rfl, rfl, rfl⟩ := is_cells hit
                        have HIT := Lib.hid hit
                        have HTK := Lib.hid ht
                        replace d0 := (HFW.out.then HFX.out).cell d0
                        replace d1 := (HFW.out.then HFX.out).cell d1
                        replace d2 := (HFW.out.then HFX.out).cell d2
                        replace d3 := (HFW.out.then HFX.out).cell d3
                        obtain ⟨E', hb, hr⟩ := HBX.out
                        obtain ⟨⟨x, hxe, hxc⟩, hxo⟩ := id hr
                        obtain ⟨v, hv⟩ := hr.at_ hxe (j := j) (by rw [HPK.out.1]; omega)
                        have hlen := hr.len hxe
                        rw [HPK.out.1] at hlen
                        have hop := hb.col _ _ hxe j _ hv
                        obtain ⟨av, cv, hvs⟩ := hop.slice
                        simp only at hvs
                        subst hvs
                        obtain ⟨gx, hgx⟩ : ∃ gx, x.g = gx := ⟨_, rfl⟩
                        obtain ⟨ES, hes1, hes2, hes3⟩ := id hop
                        simp only at hes1 hes2 hes3
                        obtain ⟨ln, hln⟩ : ∃ ln, (colP is (l.take k) (hdOf is p) j).length = ln := ⟨_, rfl⟩
                        rw [hln] at hes1 hes2 hv
                        have hln2 : ln ≤ 1048576 := by
                          rw [← hln]
                          have h1 := partsL_col is (hdOf is p) j (l.take k)
                          have h2 := partsL_len (colP is (l.take k) (hdOf is p) j)
                          have h3 := partsL_append (l.take k) (l.drop k)
                          rw [List.take_append_drop] at h3
                          have := HPP.out
                          omega
                        obtain ⟨w12, hw12⟩ : ∃ w12, wr.alloc (.cells #[.int .u8 kk, .string sk, .int .i64 nk, .slice ak mk ck] 40) = w12 := ⟨_, rfl⟩
                        obtain ⟨g11, hg11⟩ : ∃ g11, wr.heap.size = g11 := ⟨_, rfl⟩
                        have R11 : Hid (w12.heap[g11]? = some (.cells #[.int .u8 kk, .string sk, .int .i64 nk, .slice ak mk ck] 40 (0, 0))) := Lib.hid (by rw [← hw12, ← hg11]; exact new_block wr _)
                        have HF12 : Hid (Fr No wr w12) := Lib.hid (by rw [← hw12]; exact Fr.alloc _ _)
                        have HB12 := Lib.hid (hb.no HF12.out)
                        have HRI := Lib.hid hr
                        have HXE := Lib.hid hxe
                        have HVK := Lib.hid hv
                        have HOWN := Lib.hid (owns_no hes2 HF12.out)
                        have HES := Lib.hid hes3
                        have HESL := Lib.hid hes1
                        have HGX := Lib.hid hgx
                        have HLN := Lib.hid hln
                        have HSZ : Hid (w1.heap.size ≤ w12.heap.size) := Lib.hid (HFX.out.then HF12.out).size
                        have HFAR : Hid (∀ i, (i = gx ∨ (w1.heap.size ≤ i ∧ some i = (Value.slice av ln cv).ownBlock)) → w1.heap.size ≤ i ∧ i ≠ mb ∧ i ≠ g9 ∧ i ≠ gf ∧ i ≠ g11) := Lib.hid (fun i hi => by
                          have hv2 := HVK.out
                          rw [← HLN.out] at hv2 hi
                          rw [← hgx] at hi
                          obtain ⟨f1, cs, ty, f2, f3⟩ := hb.far hxe hv2 i hi
                          obtain ⟨es, clk, hm⟩ := hb.mb_map
                          have hX9 := X9.out
                          have hXF := XF.out
                          refine ⟨f1, ?_, ?_, ?_, fun e => by have := lt_of_block f2; omega⟩
                          · rintro rfl
                            rw [hm] at f2
                            cases f2
                          · rintro rfl
                            rw [hX9] at f2
                            cases f2
                            rcases f3 with f3 | ⟨f3, _⟩ <;> cases f3
                          · rintro rfl
                            rw [hXF] at f2
                            cases f2
                            rcases f3 with f3 | ⟨f3, _⟩ <;> cases f3
                          )
                        have HS : Hid (∀ w', Fr (fun i => w1.heap.size ≤ i ∧ some i = (Value.slice av ln cv).ownBlock) w12 w' → w'.cell? ⟨g9, 0, none⟩ = some (.int .u8 x1) ∧ w'.cell? ⟨g9, 1, none⟩ = some (.int .i64 x2) ∧ w'.cell? ⟨g9, 2, none⟩ = some (.int .i64 x3) ∧ w'.cell? ⟨g9, 3, none⟩ = some (.string x4) ∧ w'.cell? ⟨g9, 4, none⟩ = some (.string x5) ∧ w'.cell? ⟨g11, 0, none⟩ = some (.int .u8 kk) ∧ w'.cell? ⟨g11, 1, none⟩ = some (.string sk) ∧ w'.cell? ⟨g11, 2, none⟩ = some (.int .i64 nk) ∧ w'.cell? ⟨g11, 3, none⟩ = some (.slice ak mk ck) ∧ w'.cell? ⟨gx, j, none⟩ = some (.slice av ln cv) ∧ (Instr.lookup 63 (.map (some mb)) (.agg #[.int .u8 (x1 : Int), .int .i64 x2, .int .i64 x3, .string x4, .string x5]) false).run Try.prog w' = .ok (.slice (some ⟨gx, 0, none⟩) mp mp) w') := Lib.hid (fun w' hf => by
                          have k9 := hf.keeps (HF12.out.keeps X9.out no_one) (fun h => (HFAR.out g9 (.inr h)).2.2.1 rfl)
                          have k11 := hf.keeps R11.out (fun h => (HFAR.out g11 (.inr h)).2.2.2.2 rfl)
                          have hbx := (HB12.out.blk _ _ HXE.out).2
                          rw [hgx] at hbx
                          have kx := hf.keeps hbx (fun h => by
                            have hv2 := HVK.out
                            obtain ⟨_, cur, hcur⟩ := (HB12.out.col _ _ HXE.out j _ hv2).own h.2.symm
                            rw [hbx] at hcur
                            cases hcur)
                          have hl := HB12.out.look_fr hf (fun h => (HFAR.out mb (.inr h)).2.1 rfl) (k := ⟨x1, x2, x3, x4, x5⟩) HKL.out
                          have hxe2 := HXE.out
                          rw [HHE.out] at hxe2
                          rw [hxe2] at hl
                          simp only [entV, hlen, hgx] at hl
                          refine ⟨cell_of k9 0, cell_of k9 1, cell_of k9 2, cell_of k9 3, cell_of k9 4, cell_of k11 0, cell_of k11 1, cell_of k11 2, cell_of k11 3, ?_, hl⟩
                          rw [cell_of kx j]
                          simp [HVK.out])
                        have HFRZ : Hid (∀ w', Fr (fun i => w1.heap.size ≤ i ∧ some i = (Value.slice av ln cv).ownBlock) w12 w' → w'.frozen? ⟨gx, j, none⟩ = false) := Lib.hid (fun w' hf => by
                          have hbx := (HB12.out.blk _ _ HXE.out).2
                          rw [hgx] at hbx
                          exact free_of (hf.keeps hbx (fun h => by
                            obtain ⟨_, cur, hcur⟩ := (HB12.out.col _ _ HXE.out j _ HVK.out).own h.2.symm
                            rw [hbx] at hcur
                            cases hcur)) j)
                        have HOWNB : Hid (∀ i, (Value.slice av ln cv).ownBlock = some i → w1.heap.size ≤ i) := Lib.hid (fun i h => ((HB12.out.col _ _ HXE.out j _ HVK.out).own h).1)
                        obtain ⟨i40, z40, hi40, hz40, h140, h240, h340⟩ := zero40
                        clear hit ht hb hr hxe hxc hxo hv hlen hop hes1 hes2 hes3 hgx hln
                        go_upto_region 21 with fail
                        (try rw [hw12, hg11])
                        clear hw12 hg11 d0 d1 d2 d3
                        refine region_e (fun w' => w'.cell? ⟨g9, 0, none⟩ = some (.int .u8 x1) ∧ w'.cell? ⟨g9, 1, none⟩ = some (.int .i64 x2) ∧ w'.cell? ⟨g9, 2, none⟩ = some (.int .i64 x3) ∧ w'.cell? ⟨g9, 3, none⟩ = some (.string x4) ∧ w'.cell? ⟨g9, 4, none⟩ = some (.string x5) ∧ w'.cell? ⟨g11, 0, none⟩ = some (.int .u8 kk) ∧ w'.cell? ⟨g11, 1, none⟩ = some (.string sk) ∧ w'.cell? ⟨g11, 2, none⟩ = some (.int .i64 nk) ∧ w'.cell? ⟨g11, 3, none⟩ = some (.slice ak mk ck) ∧ w'.cell? ⟨gx, j, none⟩ = some (.slice av ln cv) ∧ (Instr.lookup 63 (.map (some mb)) (.agg #[.int .u8 (x1 : Int), .int .i64 x2, .int .i64 x3, .string x4, .string x5]) false).run Try.prog w' = .ok (.slice (some ⟨gx, 0, none⟩) mp mp) w') [14] (by kernel_rfl) ?_ (fun hHeld => ?_)
                        · exact HS.out _ ((Fr.drew _).mono (fun _ _ h => h.elim))
                        refine take_op 0 (some 64) (Op.move ( .tmp 5)) 63 ?_ (by kernel_rfl) (by kernel_rfl) (by kernel_rfl) (fun _ _ _ h => h) ?_ (by assumption) ?_
                        rotate_left
                        · intro w hSw; (try dsimp only at hSw); go_simp; (try (with_reducible rfl))
                        try simp only [Act.put, List.setIfInBounds_toArray, List.set_cons_zero, List.set_cons_succ]
                        refine take_op 1 (some 65) (Op.load 66 ( .tmp 9)) 66 ?_ (by kernel_rfl) (by kernel_rfl) (by kernel_rfl) (fun _ _ _ h => h) ?_ (by assumption) ?_
                        rotate_left
                        · intro w hSw; (try dsimp only at hSw); go_simp; (try (with_reducible rfl))
                        try simp only [Act.put, List.setIfInBounds_toArray, List.set_cons_zero, List.set_cons_succ]
                        refine take_op 2 (some 66) (Op.lookup 63 ( .tmp 64) ( .tmp 65) false) 69 ?_ (by kernel_rfl) (by kernel_rfl) (by kernel_rfl) (fun _ _ _ h => h) ?_ (by assumption) ?_
                        rotate_left
                        · intro w hSw; (try dsimp only at hSw); go_simp; (try (with_reducible rfl))
                        try simp only [Act.put, List.setIfInBounds_toArray, List.set_cons_zero, List.set_cons_succ]
                        refine take_op 3 (some 67) (Op.move ( .tmp 10)) 3 ?_ (by kernel_rfl) (by kernel_rfl) (by kernel_rfl) (fun _ _ _ h => h) ?_ (by assumption) ?_
                        rotate_left
                        · intro w hSw; (try dsimp only at hSw); go_simp; (try (with_reducible rfl))
                        try simp only [Act.put, List.setIfInBounds_toArray, List.set_cons_zero, List.set_cons_succ]
                        refine take_op 4 (some 68) (Op.move ( .tmp 5)) 63 ?_ (by kernel_rfl) (by kernel_rfl) (by kernel_rfl) (fun _ _ _ h => h) ?_ (by assumption) ?_
                        rotate_left
                        · intro w hSw; (try dsimp only at hSw); go_simp; (try (with_reducible rfl))
                        try simp only [Act.put, List.setIfInBounds_toArray, List.set_cons_zero, List.set_cons_succ]
                        refine take_op 5 (some 69) (Op.load 66 ( .tmp 9)) 66 ?_ (by kernel_rfl) (by kernel_rfl) (by kernel_rfl) (fun _ _ _ h => h) ?_ (by assumption) ?_
                        rotate_left
                        · intro w hSw; (try dsimp only at hSw); go_simp; (try (with_reducible rfl))
                        try simp only [Act.put, List.setIfInBounds_toArray, List.set_cons_zero, List.set_cons_succ]
                        refine take_op 6 (some 70) (Op.lookup 63 ( .tmp 68) ( .tmp 69) false) 69 ?_ (by kernel_rfl) (by kernel_rfl) (by kernel_rfl) (fun _ _ _ h => h) ?_ (by assumption) ?_
                        rotate_left
                        · intro w hSw; (try dsimp only at hSw); go_simp; (try (with_reducible rfl))
                        try simp only [Act.put, List.setIfInBounds_toArray, List.set_cons_zero, List.set_cons_succ]
                        refine take_op 7 (some 71) (Op.move ( .tmp 10)) 3 ?_ (by kernel_rfl) (by kernel_rfl) (by kernel_rfl) (fun _ _ _ h => h) ?_ (by assumption) ?_
                        rotate_left
                        · intro w hSw; (try dsimp only at hSw); go_simp; (try (with_reducible rfl))
                        try simp only [Act.put, List.setIfInBounds_toArray, List.set_cons_zero, List.set_cons_succ]
                        refine take_op 8 (some 72) (Op.indexAddr 69 ( .tmp 70) ( .tmp 71)) 0 ?_ (by kernel_rfl) (by kernel_rfl) (by kernel_rfl) (fun _ _ _ h => h) ?_ (by assumption) ?_
                        rotate_left
                        · intro w hSw; (try dsimp only at hSw); go_simp; (try (with_reducible rfl))
                        try simp only [Act.put, List.setIfInBounds_toArray, List.set_cons_zero, List.set_cons_succ]
                        refine take_op 9 (some 73) (Op.load 22 ( .tmp 72)) 22 ?_ (by kernel_rfl) (by kernel_rfl) (by kernel_rfl) (fun _ _ _ h => h) ?_ (by assumption) ?_
                        rotate_left
                        · intro w hSw; (try dsimp only at hSw); go_simp; (try (with_reducible rfl))
                        try simp only [Act.put, List.setIfInBounds_toArray, List.set_cons_zero, List.set_cons_succ]
                        refine take_op 10 (some 74) (Op.load 40 ( .tmp 11)) 40 ?_ (by kernel_rfl) (by kernel_rfl) (by kernel_rfl) (fun _ _ _ h => h) ?_ (by assumption) ?_
                        rotate_left
                        · intro w hSw; (try dsimp only at hSw); go_simp; (try (with_reducible rfl))
                        try simp only [Act.put, List.setIfInBounds_toArray, List.set_cons_zero, List.set_cons_succ]
                        refine ready_e (rs := [11]) (by kernel_rfl) (by simp) ?_
                        refine do_mid (o := _) rfl (fun K hK => ?_) none_e -- slot 75 buildSlice
                        go_simp
                        have HF13 : Hid (Fr No w12 (w12.drew.alloc (.cells #[.int .u8 kk, .string sk, .int .i64 nk, .slice ak mk ck] 40))) := Lib.hid ((Fr.drew _).then (Fr.alloc _ _))
                        refine hK.out _ _ ?_ (fun hHeld => ?_)
                        · exact HS.out _ (HF13.out.mono (fun _ _ h => h.elim))
                        clear hK K
                        try dsimp only
                        try simp only [Act.put, List.setIfInBounds_toArray, List.set_cons_zero, List.set_cons_succ]
                        refine ready_e (rs := [12]) (by kernel_rfl) (by simp) ?_
                        refine do_mid (o := _) rfl (fun K hK => ?_) none_e -- slot 76 B
                        refine step_append_lies _ rfl _ _ 22 rfl w1.heap.size 40 i40 z40 4 56 Try.underlying22 hi40 hz40 h140 h240 h340 (by decide) (.slice av ln cv) ln (ES.flatMap El.cs) rfl (owns_no HOWN.out HF13.out) ⟨w12.heap.size, 0, none⟩ 1 1 [.int .u8 kk, .string sk, .int .i64 nk, .slice ak mk ck] rfl rfl (World.news_of_block (new_block w12.drew _)) (by simp [Value.oneCell']) (by decide) (by unfold maxLen; omega) (by omega) (Nat.le_trans HSZ.out HF13.out.size) _ rfl ?_
                        intro g14 c14 w14 hown14 hg14 hat14 hlt14
                        have HF14 : Hid (Fr (fun j => w1.heap.size ≤ j ∧ some j = (Value.slice av ln cv).ownBlock) w12 w14) := Lib.hid ((HF13.out.mono (fun _ _ h => h.elim)).trans (Fr.grownR hg14 (fun k e => ⟨(HOWNB.out k e), e.symm⟩)) (fun _ _ h => h))
                        have HFZ : Hid (w14.frozen? ⟨gx, j, none⟩ = false) := Lib.hid (HFRZ.out _ HF14.out)
                        have HOWN14 := Lib.hid hown14
                        have HAT := Lib.hid hat14
                        clear hown14 hg14 hat14 hlt14
                        refine hK.out _ _ ?_ (fun hHeld => ?_)
                        · exact HS.out _ HF14.out
                        clear hK K
                        try dsimp only
                        try simp only [Act.put, List.setIfInBounds_toArray, List.set_cons_zero, List.set_cons_succ]
                        refine take_op 13 (some 77) (Op.indexAddr 69 ( .tmp 66) ( .tmp 67)) 0 ?_ (by kernel_rfl) (by kernel_rfl) (by kernel_rfl) (fun _ _ _ h => h) ?_ (by assumption) ?_
                        rotate_left
                        · intro w hSw; (try dsimp only at hSw); go_simp; (try (with_reducible rfl))
                        try simp only [Act.put, List.setIfInBounds_toArray, List.set_cons_zero, List.set_cons_succ]
                        have hfz := HFZ.out
                        refine ready_e (rs := [14]) (by kernel_rfl) (by simp) ?_
                        refine do_late (o := _) rfl (by kernel_rfl) (fun K hK => ?_) none_e -- slot None store
                        go_simp
                        refine hK.out _ _ ?_
                        clear hK K
                        try dsimp only
                        try simp only [Act.put, List.setIfInBounds_toArray, List.set_cons_zero, List.set_cons_succ]
                        refine done_e (by kernel_rfl) ?_ _
                        (try simp only [Exit.inBlock, Exit.then])
                        obtain ⟨w15, hw15⟩ : ∃ w15, w15 = w14.setCell ⟨gx, j, none⟩ (.slice (some ⟨g14, 0, none⟩) (ln + 1) c14) := ⟨_, rfl⟩
                        have HAPP : Hid (Bl base w1.heap.size w w15 mb (k + 1) (upd E' (hdOf is p) ⟨x.g, x.cols.set j (.slice (some ⟨g14, 0, none⟩) (ln + 1) c14, colP is (l.take k) (hdOf is p) j ++ [t])⟩) ∧ Fr (fun i => i = gx ∨ (w1.heap.size ≤ i ∧ some i = (Value.slice av ln cv).ownBlock)) w12 w15) := Lib.hid (by
                          rw [hw15, ← HGX.out]
                          refine HB12.out.app HXE.out HVK.out HMB.out HF14.out (OutP.snoc (x := ⟨0, .int .u8 kk, .string sk, .int .i64 nk, .slice ak mk ck⟩) (HESL.out.trans HLN.out.symm) HES.out (by rw [HLN.out]; exact HOWN14.out) HIT.out) ?_
                          rcases HAT.out with h | h
                          · exact .inl h.symm
                          · refine .inr ⟨g14, rfl, ?_⟩
                            rw [h]
                            exact HF13.out.size)
                        rw [← hw15]
                        have HB15 : Hid (∃ E, Bl base w1.heap.size w w15 mb (k + 1) E ∧ RelI is E (l.take k) p (j + 1)) := Lib.hid ⟨_, HAPP.out.1, HRI.out.step HXE.out HWI.out HTK.out _⟩
                        have HFW15 : Hid (Fr No w1 w15) := Lib.hid ((HFX.out.then HF12.out).own HAPP.out.2 (fun i h => (HFAR.out i h).1))
                        have Y9 := Lib.hid (HAPP.out.2.keeps (HF12.out.keeps X9.out no_one) (fun h => (HFAR.out g9 h).2.2.1 rfl))
                        have YF := Lib.hid (HAPP.out.2.keeps (HF12.out.keeps XF.out no_one) (fun h => (HFAR.out gf h).2.2.2.1 rfl))

                        clear hHeld hw15 HAPP hfz
                        go_wp2_with fail
                        exact ⟨⟨j + 1, by omega, by go_num, HFW15, HB15, Y9, YF⟩, by simp [intOf]; omega⟩
                  · have HSOME := Lib.hid he
                    clear he HEO
                    have HSZ8 : Hid (w1.heap.size ≤ w8.heap.size) := Lib.hid (HF.out.then (HF6.out.then HF8.out)).size
                    have hmp2 : mp ≤ 1048576 := by rw [← HPK.out.1]; exact (wfP_parts (wfL_mem.1 HWF.out p HPM.out)).2.1
                    obtain ⟨q0, q1, q2, q3, q4⟩ : w8.cell? ⟨g9, 0, none⟩ = some (.int .u8 x1) ∧ w8.cell? ⟨g9, 1, none⟩ = some (.int .i64 x2) ∧ w8.cell? ⟨g9, 2, none⟩ = some (.int .i64 x3) ∧ w8.cell? ⟨g9, 3, none⟩ = some (.string x4) ∧ w8.cell? ⟨g9, 4, none⟩ = some (.string x5) := ⟨cell_of (HF8.out.keeps R9.out no_one) 0, cell_of (HF8.out.keeps R9.out no_one) 1, cell_of (HF8.out.keeps R9.out no_one) 2, cell_of (HF8.out.keeps R9.out no_one) 3, cell_of (HF8.out.keeps R9.out no_one) 4⟩
                    have q5 : w8.cell? ⟨g8, 3, none⟩ = some (.slice ap mp cp) := cell_of (HF8.out.keeps R8.out no_one) 3

                    obtain ⟨xe, hxe⟩ := HSOME.out
                    have hlen := (RelI.old (p := p) HR6.out (by rw [HHE.out]; exact hxe) HRT.out HRR.out).len (by rw [HHE.out]; exact hxe)
                    rw [HPK.out.1] at hlen
                    have hlook : (Instr.lookup 63 (.map (some mb)) (.agg #[.int .u8 (x1 : Int), .int .i64 x2, .int .i64 x3, .string x4, .string x5]) false).run Try.prog w8 = .ok (.slice (some ⟨xe.g, 0, none⟩) mp mp) w8 := by
                      have h := (HB6.out.no HF8.out).look (k := ⟨x1, x2, x3, x4, x5⟩) HKL.out
                      rw [hxe] at h
                      simp only [entV, hlen] at h
                      exact h
                    have hnil : ∀ u : World, (binOp .eql 69 (.slice (some ⟨xe.g, 0, none⟩) mp mp) (.slice none 0 0)).run Try.prog u = .ok (.bool false) u := fun u => Lib.run_eql_slice_nil u 69 22 (some ⟨xe.g, 0, none⟩) mp mp 0 0 Try.underlying69
                    have HXE := Lib.hid hxe
                    clear hlen hxe
                    go_upto_region 18 with fail
                    clear q0 q1 q2 q3 q4 q5 hlook hnil
                    have HB10 : Hid (∃ E, Bl base w1.heap.size w w8 mb (k + 1) E ∧ RelI is E (l.take k) p 0) := Lib.hid ⟨E, (HB6.out.no HF8.out).mono (Nat.le_succ _), RelI.old (p := p) HR6.out (by rw [HHE.out]; exact HXE.out) HRT.out HRR.out⟩
                    have HFQ : Hid (Fr No w1 w8) := Lib.hid (HF.out.then (HF6.out.then HF8.out))
                    have Q8 := Lib.hid (HF8.out.keeps R8.out no_one)
                    have Q9 := Lib.hid (HF8.out.keeps R9.out no_one)
                    have QF := Lib.hid (HF8.out.keeps RF.out no_one)

                    obtain ⟨wq, hwq⟩ : ∃ wq, wq = w8 := ⟨_, rfl⟩
                    subst hwq
                    clear R8 R9 HB6 HR6 HF6 HF8
                    obtain ⟨wo, hwo⟩ : ∃ wo, wo = wr := ⟨_, rfl⟩
                    subst hwo
                    have q5 : wq.cell? ⟨g8, 3, none⟩ = some (.slice ap mp cp) := cell_of Q8.out 3
                    go_wp2_with fail
                    clear q5
                    go_loopw [59] (fun i wx => ∃ j : Nat, j ≤ mp ∧ i = .int .i64 j ∧ Hid (Fr No w1 wx) ∧ Hid (∃ E, Bl base w1.heap.size w wx mb (k + 1) E ∧ RelI is E (l.take k) p j) ∧ Hid (wx.heap[g9]? = some (.cells #[.int .u8 x1, .int .i64 x2, .int .i64 x3, .string x4, .string x5] 66 (0, 0))) ∧ Hid (wx.heap[gf]? = some (.cells #[.int .u8 x1, .int .i64 y2, .int .i64 x3, .string y4, .string x5] 66 (0, 0)))) (fun i _ => mp - (intOf i).toNat)
                    case atStart => exact ⟨0, Nat.zero_le _, rfl, HFQ, HB10, Q9, QF⟩
                    case round =>
                      obtain ⟨j, hj, rfl, HFX, HBX, X9, XF⟩ := hrel
                      by_cases hjm : j = mp
                      · subst hjm
                        go_wp2_with fail
                        refine ⟨⟨k + 1, some ⟨gf, 0, none⟩, by omega, by go_num, rfl, HFX, Lib.hid (HFPF.out _ XF.out), Lib.hid ?_, HRT2⟩, by simp [intOf]; omega⟩
                        obtain ⟨E', hb, hr⟩ := HBX.out
                        refine ⟨E', hb, ?_⟩
                        rw [HTS.out]
                        rw [← HPK.out.1] at hr
                        exact hr.done HWI.out
                      · have hjl : (j : Int) < (mp : Int) := by omega
                        obtain ⟨t, ht⟩ : ∃ t, p.kids[j]? = some t := ⟨_, List.getElem?_eq_getElem (by rw [HPK.out.1]; omega)⟩
                        obtain ⟨b', off', z0, z1, z2, z3, rfl, j1, j2, d0, d1, d2, d3, hit⟩ := Row.at_ 0 p.kids HPK.out.2 j t ht
                        clear j1 j2
                        rw [Nat.zero_add] at d0 d1 d2 d3
                        obtain ⟨kk, sk, nk, ak, mk, ck, rfl, rfl, rfl, rfl⟩ := is_cells hit
                        have HIT := Lib.hid hit
                        have HTK := Lib.hid ht
                        replace d0 := (HFW.out.then HFX.out).cell d0
                        replace d1 := (HFW.out.then HFX.out).cell d1
                        replace d2 := (HFW.out.then HFX.out).cell d2
                        replace d3 := (HFW.out.then HFX.out).cell d3
                        obtain ⟨E', hb, hr⟩ := HBX.out
                        obtain ⟨⟨x, hxe, hxc⟩, hxo⟩ := id hr
                        obtain ⟨v, hv⟩ := hr.at_ hxe (j := j) (by rw [HPK.out.1]; omega)
                        have hlen := hr.len hxe
                        rw [HPK.out.1] at hlen
                        have hop := hb.col _ _ hxe j _ hv
                        obtain ⟨av, cv, hvs⟩ := hop.slice
                        simp only at hvs
                        subst hvs
                        obtain ⟨gx, hgx⟩ : ∃ gx, x.g = gx := ⟨_, rfl⟩
                        obtain ⟨ES, hes1, hes2, hes3⟩ := id hop
                        simp only at hes1 hes2 hes3
                        obtain ⟨ln, hln⟩ : ∃ ln, (colP is (l.take k) (hdOf is p) j).length = ln := ⟨_, rfl⟩
                        rw [hln] at hes1 hes2 hv
                        have hln2 : ln ≤ 1048576 := by
                          rw [← hln]
                          have h1 := partsL_col is (hdOf is p) j (l.take k)
                          have h2 := partsL_len (colP is (l.take k) (hdOf is p) j)
                          have h3 := partsL_append (l.take k) (l.drop k)
                          rw [List.take_append_drop] at h3
                          have := HPP.out
                          omega
                        obtain ⟨w12, hw12⟩ : ∃ w12, wr.alloc (.cells #[.int .u8 kk, .string sk, .int .i64 nk, .slice ak mk ck] 40) = w12 := ⟨_, rfl⟩
                        obtain ⟨g11, hg11⟩ : ∃ g11, wr.heap.size = g11 := ⟨_, rfl⟩
                        have R11 : Hid (w12.heap[g11]? = some (.cells #[.int .u8 kk, .string sk, .int .i64 nk, .slice ak mk ck] 40 (0, 0))) := Lib.hid (by rw [← hw12, ← hg11]; exact new_block wr _)
                        have HF12 : Hid (Fr No wr w12) := Lib.hid (by rw [← hw12]; exact Fr.alloc _ _)
                        have HB12 := Lib.hid (hb.no HF12.out)
                        have HRI := Lib.hid hr
                        have HXE := Lib.hid hxe
                        have HVK := Lib.hid hv
                        have HOWN := Lib.hid (owns_no hes2 HF12.out)
                        have HES := Lib.hid hes3
                        have HESL := Lib.hid hes1
                        have HGX := Lib.hid hgx
                        have HLN := Lib.hid hln
                        have HSZ : Hid (w1.heap.size ≤ w12.heap.size) := Lib.hid (HFX.out.then HF12.out).size
                        have HFAR : Hid (∀ i, (i = gx ∨ (w1.heap.size ≤ i ∧ some i = (Value.slice av ln cv).ownBlock)) → w1.heap.size ≤ i ∧ i ≠ mb ∧ i ≠ g9 ∧ i ≠ gf ∧ i ≠ g11) := Lib.hid (fun i hi => by
                          have hv2 := HVK.out
                          rw [← HLN.out] at hv2 hi
                          rw [← hgx] at hi
                          obtain ⟨f1, cs, ty, f2, f3⟩ := hb.far hxe hv2 i hi
                          obtain ⟨es, clk, hm⟩ := hb.mb_map
                          have hX9 := X9.out
                          have hXF := XF.out
                          refine ⟨f1, ?_, ?_, ?_, fun e => by have := lt_of_block f2; omega⟩
                          · rintro rfl
                            rw [hm] at f2
                            cases f2
                          · rintro rfl
                            rw [hX9] at f2
                            cases f2
                            rcases f3 with f3 | ⟨f3, _⟩ <;> cases f3
                          · rintro rfl
                            rw [hXF] at f2
                            cases f2
                            rcases f3 with f3 | ⟨f3, _⟩ <;> cases f3
                          )
                        have HS : Hid (∀ w', Fr (fun i => w1.heap.size ≤ i ∧ some i = (Value.slice av ln cv).ownBlock) w12 w' → w'.cell? ⟨g9, 0, none⟩ = some (.int .u8 x1) ∧ w'.cell? ⟨g9, 1, none⟩ = some (.int .i64 x2) ∧ w'.cell? ⟨g9, 2, none⟩ = some (.int .i64 x3) ∧ w'.cell? ⟨g9, 3, none⟩ = some (.string x4) ∧ w'.cell? ⟨g9, 4, none⟩ = some (.string x5) ∧ w'.cell? ⟨g11, 0, none⟩ = some (.int .u8 kk) ∧ w'.cell? ⟨g11, 1, none⟩ = some (.string sk) ∧ w'.cell? ⟨g11, 2, none⟩ = some (.int .i64 nk) ∧ w'.cell? ⟨g11, 3, none⟩ = some (.slice ak mk ck) ∧ w'.cell? ⟨gx, j, none⟩ = some (.slice av ln cv) ∧ (Instr.lookup 63 (.map (some mb)) (.agg #[.int .u8 (x1 : Int), .int .i64 x2, .int .i64 x3, .string x4, .string x5]) false).run Try.prog w' = .ok (.slice (some ⟨gx, 0, none⟩) mp mp) w') := Lib.hid (fun w' hf => by
                          have k9 := hf.keeps (HF12.out.keeps X9.out no_one) (fun h => (HFAR.out g9 (.inr h)).2.2.1 rfl)
                          have k11 := hf.keeps R11.out (fun h => (HFAR.out g11 (.inr h)).2.2.2.2 rfl)
                          have hbx := (HB12.out.blk _ _ HXE.out).2
                          rw [hgx] at hbx
                          have kx := hf.keeps hbx (fun h => by
                            have hv2 := HVK.out
                            obtain ⟨_, cur, hcur⟩ := (HB12.out.col _ _ HXE.out j _ hv2).own h.2.symm
                            rw [hbx] at hcur
                            cases hcur)
                          have hl := HB12.out.look_fr hf (fun h => (HFAR.out mb (.inr h)).2.1 rfl) (k := ⟨x1, x2, x3, x4, x5⟩) HKL.out
                          have hxe2 := HXE.out
                          rw [HHE.out] at hxe2
                          rw [hxe2] at hl
                          simp only [entV, hlen, hgx] at hl
                          refine ⟨cell_of k9 0, cell_of k9 1, cell_of k9 2, cell_of k9 3, cell_of k9 4, cell_of k11 0, cell_of k11 1, cell_of k11 2, cell_of k11 3, ?_, hl⟩
                          rw [cell_of kx j]
                          simp [HVK.out])
                        have HFRZ : Hid (∀ w', Fr (fun i => w1.heap.size ≤ i ∧ some i = (Value.slice av ln cv).ownBlock) w12 w' → w'.frozen? ⟨gx, j, none⟩ = false) := Lib.hid (fun w' hf => by
                          have hbx := (HB12.out.blk _ _ HXE.out).2
                          rw [hgx] at hbx
                          exact free_of (hf.keeps hbx (fun h => by
                            obtain ⟨_, cur, hcur⟩ := (HB12.out.col _ _ HXE.out j _ HVK.out).own h.2.symm
                            rw [hbx] at hcur
                            cases hcur)) j)
                        have HOWNB : Hid (∀ i, (Value.slice av ln cv).ownBlock = some i → w1.heap.size ≤ i) := Lib.hid (fun i h => ((HB12.out.col _ _ HXE.out j _ HVK.out).own h).1)
                        obtain ⟨i40, z40, hi40, hz40, h140, h240, h340⟩ := zero40
                        clear hit ht hb hr hxe hxc hxo hv hlen hop hes1 hes2 hes3 hgx hln
                        go_upto_region 21 with fail
                        (try rw [hw12, hg11])
                        clear hw12 hg11 d0 d1 d2 d3
                        refine region_e (fun w' => w'.cell? ⟨g9, 0, none⟩ = some (.int .u8 x1) ∧ w'.cell? ⟨g9, 1, none⟩ = some (.int .i64 x2) ∧ w'.cell? ⟨g9, 2, none⟩ = some (.int .i64 x3) ∧ w'.cell? ⟨g9, 3, none⟩ = some (.string x4) ∧ w'.cell? ⟨g9, 4, none⟩ = some (.string x5) ∧ w'.cell? ⟨g11, 0, none⟩ = some (.int .u8 kk) ∧ w'.cell? ⟨g11, 1, none⟩ = some (.string sk) ∧ w'.cell? ⟨g11, 2, none⟩ = some (.int .i64 nk) ∧ w'.cell? ⟨g11, 3, none⟩ = some (.slice ak mk ck) ∧ w'.cell? ⟨gx, j, none⟩ = some (.slice av ln cv) ∧ (Instr.lookup 63 (.map (some mb)) (.agg #[.int .u8 (x1 : Int), .int .i64 x2, .int .i64 x3, .string x4, .string x5]) false).run Try.prog w' = .ok (.slice (some ⟨gx, 0, none⟩) mp mp) w') [14] (by kernel_rfl) ?_ (fun hHeld => ?_)
                        · exact HS.out _ ((Fr.drew _).mono (fun _ _ h => h.elim))
                        refine take_op 0 (some 64) (Op.move ( .tmp 5)) 63 ?_ (by kernel_rfl) (by kernel_rfl) (by kernel_rfl) (fun _ _ _ h => h) ?_ (by assumption) ?_
                        rotate_left
                        · intro w hSw; (try dsimp only at hSw); go_simp; (try (with_reducible rfl))
                        try simp only [Act.put, List.setIfInBounds_toArray, List.set_cons_zero, List.set_cons_succ]
                        refine take_op 1 (some 65) (Op.load 66 ( .tmp 9)) 66 ?_ (by kernel_rfl) (by kernel_rfl) (by kernel_rfl) (fun _ _ _ h => h) ?_ (by assumption) ?_
                        rotate_left
                        · intro w hSw; (try dsimp only at hSw); go_simp; (try (with_reducible rfl))
                        try simp only [Act.put, List.setIfInBounds_toArray, List.set_cons_zero, List.set_cons_succ]
                        refine take_op 2 (some 66) (Op.lookup 63 ( .tmp 64) ( .tmp 65) false) 69 ?_ (by kernel_rfl) (by kernel_rfl) (by kernel_rfl) (fun _ _ _ h => h) ?_ (by assumption) ?_
                        rotate_left
                        · intro w hSw; (try dsimp only at hSw); go_simp; (try (with_reducible rfl))
                        try simp only [Act.put, List.setIfInBounds_toArray, List.set_cons_zero, List.set_cons_succ]
                        refine take_op 3 (some 67) (Op.move ( .tmp 10)) 3 ?_ (by kernel_rfl) (by kernel_rfl) (by kernel_rfl) (fun _ _ _ h => h) ?_ (by assumption) ?_
                        rotate_left
                        · intro w hSw; (try dsimp only at hSw); go_simp; (try (with_reducible rfl))
                        try simp only [Act.put, List.setIfInBounds_toArray, List.set_cons_zero, List.set_cons_succ]
                        refine take_op 4 (some 68) (Op.move ( .tmp 5)) 63 ?_ (by kernel_rfl) (by kernel_rfl) (by kernel_rfl) (fun _ _ _ h => h) ?_ (by assumption) ?_
                        rotate_left
                        · intro w hSw; (try dsimp only at hSw); go_simp; (try (with_reducible rfl))
                        try simp only [Act.put, List.setIfInBounds_toArray, List.set_cons_zero, List.set_cons_succ]
                        refine take_op 5 (some 69) (Op.load 66 ( .tmp 9)) 66 ?_ (by kernel_rfl) (by kernel_rfl) (by kernel_rfl) (fun _ _ _ h => h) ?_ (by assumption) ?_
                        rotate_left
                        · intro w hSw; (try dsimp only at hSw); go_simp; (try (with_reducible rfl))
                        try simp only [Act.put, List.setIfInBounds_toArray, List.set_cons_zero, List.set_cons_succ]
                        refine take_op 6 (some 70) (Op.lookup 63 ( .tmp 68) ( .tmp 69) false) 69 ?_ (by kernel_rfl) (by kernel_rfl) (by kernel_rfl) (fun _ _ _ h => h) ?_ (by assumption) ?_
                        rotate_left
                        · intro w hSw; (try dsimp only at hSw); go_simp; (try (with_reducible rfl))
                        try simp only [Act.put, List.setIfInBounds_toArray, List.set_cons_zero, List.set_cons_succ]
                        refine take_op 7 (some 71) (Op.move ( .tmp 10)) 3 ?_ (by kernel_rfl) (by kernel_rfl) (by kernel_rfl) (fun _ _ _ h => h) ?_ (by assumption) ?_
                        rotate_left
                        · intro w hSw; (try dsimp only at hSw); go_simp; (try (with_reducible rfl))
                        try simp only [Act.put, List.setIfInBounds_toArray, List.set_cons_zero, List.set_cons_succ]
                        refine take_op 8 (some 72) (Op.indexAddr 69 ( .tmp 70) ( .tmp 71)) 0 ?_ (by kernel_rfl) (by kernel_rfl) (by kernel_rfl) (fun _ _ _ h => h) ?_ (by assumption) ?_
                        rotate_left
                        · intro w hSw; (try dsimp only at hSw); go_simp; (try (with_reducible rfl))
                        try simp only [Act.put, List.setIfInBounds_toArray, List.set_cons_zero, List.set_cons_succ]
                        refine take_op 9 (some 73) (Op.load 22 ( .tmp 72)) 22 ?_ (by kernel_rfl) (by kernel_rfl) (by kernel_rfl) (fun _ _ _ h => h) ?_ (by assumption) ?_
                        rotate_left
                        · intro w hSw; (try dsimp only at hSw); go_simp; (try (with_reducible rfl))
                        try simp only [Act.put, List.setIfInBounds_toArray, List.set_cons_zero, List.set_cons_succ]
                        refine take_op 10 (some 74) (Op.load 40 ( .tmp 11)) 40 ?_ (by kernel_rfl) (by kernel_rfl) (by kernel_rfl) (fun _ _ _ h => h) ?_ (by assumption) ?_
                        rotate_left
                        · intro w hSw; (try dsimp only at hSw); go_simp; (try (with_reducible rfl))
                        try simp only [Act.put, List.setIfInBounds_toArray, List.set_cons_zero, List.set_cons_succ]
                        refine ready_e (rs := [11]) (by kernel_rfl) (by simp) ?_
                        refine do_mid (o := _) rfl (fun K hK => ?_) none_e -- slot 75 buildSlice
                        go_simp
                        have HF13 : Hid (Fr No w12 (w12.drew.alloc (.cells #[.int .u8 kk, .string sk, .int .i64 nk, .slice ak mk ck] 40))) := Lib.hid ((Fr.drew _).then (Fr.alloc _ _))
                        refine hK.out _ _ ?_ (fun hHeld => ?_)
                        · exact HS.out _ (HF13.out.mono (fun _ _ h => h.elim))
                        clear hK K
                        try dsimp only
                        try simp only [Act.put, List.setIfInBounds_toArray, List.set_cons_zero, List.set_cons_succ]
                        refine ready_e (rs := [12]) (by kernel_rfl) (by simp) ?_
                        refine do_mid (o := _) rfl (fun K hK => ?_) none_e -- slot 76 B
                        refine step_append_lies _ rfl _ _ 22 rfl w1.heap.size 40 i40 z40 4 56 Try.underlying22 hi40 hz40 h140 h240 h340 (by decide) (.slice av ln cv) ln (ES.flatMap El.cs) rfl (owns_no HOWN.out HF13.out) ⟨w12.heap.size, 0, none⟩ 1 1 [.int .u8 kk, .string sk, .int .i64 nk, .slice ak mk ck] rfl rfl (World.news_of_block (new_block w12.drew _)) (by simp [Value.oneCell']) (by decide) (by unfold maxLen; omega) (by omega) (Nat.le_trans HSZ.out HF13.out.size) _ rfl ?_
                        intro g14 c14 w14 hown14 hg14 hat14 hlt14
                        have HF14 : Hid (Fr (fun j => w1.heap.size ≤ j ∧ some j = (Value.slice av ln cv).ownBlock) w12 w14) := Lib.hid ((HF13.out.mono (fun _ _ h => h.elim)).trans (Fr.grownR hg14 (fun k e => ⟨(HOWNB.out k e), e.symm⟩)) (fun _ _ h => h))
                        have HFZ : Hid (w14.frozen? ⟨gx, j, none⟩ = false) := Lib.hid (HFRZ.out _ HF14.out)
                        have HOWN14 := Lib.hid hown14
                        have HAT := Lib.hid hat14
                        clear hown14 hg14 hat14 hlt14
                        refine hK.out _ _ ?_ (fun hHeld => ?_)
                        · exact HS.out _ HF14.out
                        clear hK K
                        try dsimp only
                        try simp only [Act.put, List.setIfInBounds_toArray, List.set_cons_zero, List.set_cons_succ]
                        refine take_op 13 (some 77) (Op.indexAddr 69 ( .tmp 66) ( .tmp 67)) 0 ?_ (by kernel_rfl) (by kernel_rfl) (by kernel_rfl) (fun _ _ _ h => h) ?_ (by assumption) ?_
                        rotate_left
                        · intro w hSw; (try dsimp only at hSw); go_simp; (try (with_reducible rfl))
                        try simp only [Act.put, List.setIfInBounds_toArray, List.set_cons_zero, List.set_cons_succ]
                        have hfz := HFZ.out
                        refine ready_e (rs := [14]) (by kernel_rfl) (by simp) ?_
                        refine do_late (o := _) rfl (by kernel_rfl) (fun K hK => ?_) none_e -- slot None store
                        go_simp
                        refine hK.out _ _ ?_
                        clear hK K
                        try dsimp only
                        try simp only [Act.put, List.setIfInBounds_toArray, List.set_cons_zero, List.set_cons_succ]
                        refine done_e (by kernel_rfl) ?_ _
                        (try simp only [Exit.inBlock, Exit.then])
                        obtain ⟨w15, hw15⟩ : ∃ w15, w15 = w14.setCell ⟨gx, j, none⟩ (.slice (some ⟨g14, 0, none⟩) (ln + 1) c14) := ⟨_, rfl⟩
                        have HAPP : Hid (Bl base w1.heap.size w w15 mb (k + 1) (upd E' (hdOf is p) ⟨x.g, x.cols.set j (.slice (some ⟨g14, 0, none⟩) (ln + 1) c14, colP is (l.take k) (hdOf is p) j ++ [t])⟩) ∧ Fr (fun i => i = gx ∨ (w1.heap.size ≤ i ∧ some i = (Value.slice av ln cv).ownBlock)) w12 w15) := Lib.hid (by
                          rw [hw15, ← HGX.out]
                          refine HB12.out.app HXE.out HVK.out HMB.out HF14.out (OutP.snoc (x := ⟨0, .int .u8 kk, .string sk, .int .i64 nk, .slice ak mk ck⟩) (HESL.out.trans HLN.out.symm) HES.out (by rw [HLN.out]; exact HOWN14.out) HIT.out) ?_
                          rcases HAT.out with h | h
                          · exact .inl h.symm
                          · refine .inr ⟨g14, rfl, ?_⟩
                            rw [h]
                            exact HF13.out.size)
                        rw [← hw15]
                        have HB15 : Hid (∃ E, Bl base w1.heap.size w w15 mb (k + 1) E ∧ RelI is E (l.take k) p (j + 1)) := Lib.hid ⟨_, HAPP.out.1, HRI.out.step HXE.out HWI.out HTK.out _⟩
                        have HFW15 : Hid (Fr No w1 w15) := Lib.hid ((HFX.out.then HF12.out).own HAPP.out.2 (fun i h => (HFAR.out i h).1))
                        have Y9 := Lib.hid (HAPP.out.2.keeps (HF12.out.keeps X9.out no_one) (fun h => (HFAR.out g9 h).2.2.1 rfl))
                        have YF := Lib.hid (HAPP.out.2.keeps (HF12.out.keeps XF.out no_one) (fun h => (HFAR.out gf h).2.2.2.1 rfl))

                        clear hHeld hw15 HAPP hfz
                        go_wp2_with fail
                        exact ⟨⟨j + 1, by omega, by go_num, HFW15, HB15, Y9, YF⟩, by simp [intOf]; omega⟩
                · have HSF : Hid (∀ w', Calls Try.prog 32 #[.agg #[.int .u8 (y1 : Int), .int .i64 y2, .int .i64 y3, .string y4, .string y5]] w' (SaidV w' (.agg #[.int .u8 (y1 : Int), .int .i64 0, .int .i64 y3, .string ⟨#[]⟩, .string y5]))) := Lib.hid (fun w' => sort_any ⟨y1, y2, y3, y4, y5⟩ w')
                  have HCMP := Lib.hid (fun w : World => cmp_sort x1 y1 x3 y3 x5 y5 w hs)
                  have HVF : Hid (V = false) := Lib.hid (by
                    rw [← HV.out]
                    obtain ⟨f, h1, h2, h3⟩ := HFE.out
                    refine sort_ne HPM.out (mem_take h1) HWI.out h2 fun e => hs ?_
                    rw [HHE.out, h3] at e
                    simp only [Hd.sort, Hd.mk.injEq] at e
                    exact ⟨e.1, e.2.2.1, e.2.2.2.2⟩)
                  clear hs
                  go_upto_region 14 with fail
                  refine region_e (fun w' => w'.cell? ⟨g9, 0, none⟩ = some (.int .u8 x1) ∧ w'.cell? ⟨g9, 1, none⟩ = some (.int .i64 x2) ∧ w'.cell? ⟨g9, 2, none⟩ = some (.int .i64 x3) ∧ w'.cell? ⟨g9, 3, none⟩ = some (.string x4) ∧ w'.cell? ⟨g9, 4, none⟩ = some (.string x5) ∧ w'.cell? ⟨gf, 0, none⟩ = some (.int .u8 y1) ∧ w'.cell? ⟨gf, 1, none⟩ = some (.int .i64 y2) ∧ w'.cell? ⟨gf, 2, none⟩ = some (.int .i64 y3) ∧ w'.cell? ⟨gf, 3, none⟩ = some (.string y4) ∧ w'.cell? ⟨gf, 4, none⟩ = some (.string y5)) [] (by kernel_rfl) ?_ (fun hHeld => ?_)
                  · exact ⟨cell_of ((Fr.drew _).keeps R9.out no_one) 0, cell_of ((Fr.drew _).keeps R9.out no_one) 1, cell_of ((Fr.drew _).keeps R9.out no_one) 2, cell_of ((Fr.drew _).keeps R9.out no_one) 3, cell_of ((Fr.drew _).keeps R9.out no_one) 4, cell_of ((Fr.drew _).keeps RF.out no_one) 0, cell_of ((Fr.drew _).keeps RF.out no_one) 1, cell_of ((Fr.drew _).keeps RF.out no_one) 2, cell_of ((Fr.drew _).keeps RF.out no_one) 3, cell_of ((Fr.drew _).keeps RF.out no_one) 4⟩
                  refine take_op 0 (some 39) (Op.load 66 ( .tmp 9)) 66 ?_ (by kernel_rfl) (by kernel_rfl) (by kernel_rfl) (fun _ _ _ h => h) ?_ (by assumption) ?_
                  rotate_left
                  · intro w hSw; (try dsimp only at hSw); go_simp; (try (with_reducible rfl))
                  try simp only [Act.put, List.setIfInBounds_toArray, List.set_cons_zero, List.set_cons_succ]
                  refine take_op 2 (some 41) (Op.move ( .tmp 6)) 64 ?_ (by kernel_rfl) (by kernel_rfl) (by kernel_rfl) (fun _ _ _ h => h) ?_ (by assumption) ?_
                  rotate_left
                  · intro w hSw; (try dsimp only at hSw); go_simp; (try (with_reducible rfl))
                  try simp only [Act.put, List.setIfInBounds_toArray, List.set_cons_zero, List.set_cons_succ]
                  refine take_op 3 (some 42) (Op.nilCheck ( .tmp 41)) 0 ?_ (by kernel_rfl) (by kernel_rfl) (by kernel_rfl) (fun _ _ _ h => h) ?_ (by assumption) ?_
                  rotate_left
                  · intro w hSw; (try dsimp only at hSw); go_simp; (try (with_reducible rfl))
                  try simp only [Act.put, List.setIfInBounds_toArray, List.set_cons_zero, List.set_cons_succ]
                  refine take_op 4 (some 43) (Op.load 66 ( .tmp 42)) 66 ?_ (by kernel_rfl) (by kernel_rfl) (by kernel_rfl) (fun _ _ _ h => h) ?_ (by assumption) ?_
                  rotate_left
                  · intro w hSw; (try dsimp only at hSw); go_simp; (try (with_reducible rfl))
                  try simp only [Act.put, List.setIfInBounds_toArray, List.set_cons_zero, List.set_cons_succ]
                  refine ready_e (rs := [1]) (by kernel_rfl) (by simp) ?_
                  refine do_mid (o := _) rfl (fun K hK => ?_) none_e -- slot 40 F32
                  go_simp
                  go_at_call 32
                  refine (HS9.out _).mono ?_
                  rintro e' w7 ⟨rfl, hf7⟩
                  have HF7 : Hid (Fr No w6 w7) := Lib.hid ((Fr.drew _).then hf7)
                  clear hf7
                  refine hK.out _ _ ?_ (fun hHeld => ?_)
                  · exact ⟨cell_of (HF7.out.keeps R9.out no_one) 0, cell_of (HF7.out.keeps R9.out no_one) 1, cell_of (HF7.out.keeps R9.out no_one) 2, cell_of (HF7.out.keeps R9.out no_one) 3, cell_of (HF7.out.keeps R9.out no_one) 4, cell_of (HF7.out.keeps RF.out no_one) 0, cell_of (HF7.out.keeps RF.out no_one) 1, cell_of (HF7.out.keeps RF.out no_one) 2, cell_of (HF7.out.keeps RF.out no_one) 3, cell_of (HF7.out.keeps RF.out no_one) 4⟩
                  clear hK K
                  try dsimp only
                  try simp only [Act.put, List.setIfInBounds_toArray, List.set_cons_zero, List.set_cons_succ]
                  refine ready_e (rs := [5]) (by kernel_rfl) (by simp) ?_
                  refine do_mid (o := _) rfl (fun K hK => ?_) none_e -- slot 44 F32
                  go_simp
                  go_at_call 32
                  refine (HSF.out _).mono ?_
                  rintro e' w8 ⟨rfl, hf8⟩
                  have HF8 : Hid (Fr No w6 w8) := Lib.hid (HF7.out.then hf8)
                  clear hf8
                  refine hK.out _ _ ?_ (fun hHeld => ?_)
                  · exact ⟨cell_of (HF8.out.keeps R9.out no_one) 0, cell_of (HF8.out.keeps R9.out no_one) 1, cell_of (HF8.out.keeps R9.out no_one) 2, cell_of (HF8.out.keeps R9.out no_one) 3, cell_of (HF8.out.keeps R9.out no_one) 4, cell_of (HF8.out.keeps RF.out no_one) 0, cell_of (HF8.out.keeps RF.out no_one) 1, cell_of (HF8.out.keeps RF.out no_one) 2, cell_of (HF8.out.keeps RF.out no_one) 3, cell_of (HF8.out.keeps RF.out no_one) 4⟩
                  clear hK K
                  try dsimp only
                  try simp only [Act.put, List.setIfInBounds_toArray, List.set_cons_zero, List.set_cons_succ]
                  refine take_op 6 (some 45) (Op.binOp BinOp.neq 66 ( .tmp 40) ( .tmp 44) 66) 4 ?_ (by kernel_rfl) (by kernel_rfl) (by kernel_rfl) (fun _ _ _ h => h) ?_ (by assumption) ?_
                  rotate_left
                  · intro w hSw; (try dsimp only at hSw); go_simp; exact HCMP.out w
                  try simp only [Act.put, List.setIfInBounds_toArray, List.set_cons_zero, List.set_cons_succ]
                  refine done_e (by kernel_rfl) ?_ _
                  (try simp only [Exit.inBlock, Exit.then])
                  clear hHeld HS9 HSF HF7
                  go_wp2_with fail
                  go_ret
                  exact ⟨by rw [HVF.out]; rfl, HW6.out.then HF8.out⟩
theorem fits_any (base : Nat) (is : List Inf) (gc : Nat) : ∀ (F : Nat) (l : List T), partsL l < F → partsL l ≤ 1048576 → wfL is l → ∀ (n cap : Nat) (a : Option Addr) (w : World), l.length = n → Row base (fun _ => True) w a 0 l → Chk w gc is → base ≤ w.heap.size →
    Calls Try.prog 22 #[.pointer (some ⟨gc, 0, none⟩), .slice a n cap] w (SaidT w (fitsL is l))
  | 0, _, h, _, _ => absurd h (Nat.not_lt_zero _)
  | F + 1, l, hF, hP, hwf => fun n cap a w hn hrow hc hbase => fits_step base is gc F l hF hP hwf n cap a w hn hrow hc hbase (Lib.hid (fun l' h1 h2 h3 n cap a w' h4 h5 h6 => fits_any base is gc F l' h1 h2 h3 n cap a w' h4 h5 (hc.no h6) (Nat.le_trans hbase h6.size)))
end Go.Proofs.Ythjecikdkdjlaaa
