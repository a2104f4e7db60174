/- An unknown is bound. -/
import Derived.Test.YtfjddfcndammdaaUni
import Derived.Test.YtfjddfcndammdaaBack
import Derived.Test.YtfjddfcndammdaaIn
import Derived.Deep.RegionLaw
import Derived.Deep.CutRange
namespace Go.Proofs.Ytfjddfcndammdaa
open Go.RowKit

theorem Bk.cell0 {base : Nat} {w : World} {g many : Nat} {l : Bs} (h : Bk base w g many l) : w.cell? ⟨g, 0, none⟩ = some (.int .i64 many) := by
  obtain ⟨mb, tr, D, h1, _⟩ := h
  exact cell_of h1 0
theorem BkR.cell0 {base N : Nat} {w : World} {g many : Nat} {l : Bs} (h : BkR base w g many l N) : w.cell? ⟨g, 0, none⟩ = some (.int .i64 many) := by
  obtain ⟨mb, tr, D, h1, _⟩ := h
  exact cell_of h1 0
theorem Fine.snoc {many : Nat} {l : Bs} (h : Fine many l) {n : Int} {t : T} (hg : Good many t) (hp : parts t ≤ 1048576) : Fine many (l ++ [(n, t)]) := by
  refine ⟨h.small, fun m x hx => ?_⟩
  rw [look_app] at hx
  cases hl : look l m with
  | some y =>
    rw [hl] at hx
    simp only [Option.some.injEq] at hx
    rw [← hx]
    exact h.good m y hl
  | none =>
    rw [hl] at hx
    by_cases e : n = m
    · simp only [if_pos e, Option.some.injEq] at hx
      rw [← hx]
      exact ⟨hg, hp⟩
    · simp [if_neg e] at hx
theorem holds_put {base : Nat} {w w' : World} {l : Bs} {key : Int} {t : T} {v : Value} {D : DataW Value} (h : HoldsB base w l D) (hl : look l key = none) (hD : Maps.IsMap D) (hf : Fb base w w') (hv : IsT base w' t v) : HoldsB base w' (l ++ [(key, t)]) (D.put (kn key) (.held v)) := by
  intro n
  rw [look_app]
  by_cases hn : n = key
  · subst hn
    rw [hl]
    refine ⟨fun e => by simp at e, fun x hx => ?_⟩
    simp only [if_true, Option.some.injEq] at hx
    subst hx
    exact ⟨Maps.has_put_same hD (by simp [kn, WideAt.IsKeyLit]) _, v, fun z => Maps.atKey_put_same hD (by simp [kn, WideAt.IsKeyLit]) _ _, hv⟩
  · have hne : kn n ≠ kn key := kn_ne hn
    rw [Maps.has_put_other hne]
    cases hq : look l n with
    | none => exact ⟨fun _ => (h n).1 hq, fun x hx => by simp [Ne.symm hn] at hx⟩
    | some y =>
      refine ⟨(fun e => by cases e), fun x hx => ?_⟩
      simp only [Option.some.injEq] at hx
      subst hx
      obtain ⟨q1, u, q2, q3⟩ := (h n).2 y hq
      exact ⟨q1, u, fun z => by rw [Maps.atKey_put_other hne]; exact q2 z, q3.fb hf⟩
/-- what is said of a call that may write the book: an error's number, the book, what stays -/
def ErrSaid (base : Nat) (w : World) (g many : Nat) (x : Int) (l : Bs) (e : Ending) (w' : World) : Prop := e = .returned (.int .i64 x) ∧ Bk base w' g many l ∧ Fb base w w'
/-- a job's nine cells -/
def jobV (g : Nat) (s0 s1 s2 s3 t0 t1 t2 t3 : Value) : Value := .agg #[.pointer (some ⟨g, 0, none⟩), s0, s1, s2, s3, t0, t1, t2, t3]
set_option maxHeartbeats 2000000 in
set_option maxRecDepth 100000 in
theorem bind_occ (base g many : Nat) (l : Bs) (hfine : Fine many l) (n : Int) (f : Nat) (t u : T) (hu : ap l f t = some u) (hocc : occ n u = true) (hgood : Good many t) (hpt : parts t ≤ 1048576) (v : Value) (a0 a1 a2 a3 b0 b1 b2 b3 : Value) (w : World) (hb : Bk base w g many l) (hi : IsT base w t v) :
    Calls Try.prog 52 #[.agg #[.pointer (some ⟨g, 0, none⟩), a0, a1, a2, a3, b0, b1, b2, b3], .int .i64 n, v] w (ErrSaid base w g many 13 l) := by
  have HI := Lib.hid (fun w' (hf : Fr No w w') => in_any base w.heap.size g many l hfine n f t u hu hgood hpt v w' (hb.reads.no hf) (hi.no hf))
  rw [hocc] at HI
  have HB := Lib.hid hb
  obtain ⟨x0, x1, x2, x3, rfl⟩ := is_agg hi
  obtain ⟨k1, s1, n1, aa1, mm1, cc1, rfl, rfl, rfl, rfl⟩ := is_cells hi
  clear hb hi hu hocc
  go_enter Try.func52, Try.ntmps52
  go_wp2_with fail
  refine (HI.out _ ((Fr.alloc w _).then (Fr.alloc _ _))).mono ?_
  rintro e w1 ⟨rfl, hf1⟩
  have HF := Lib.hid (((Fr.alloc w _).then (Fr.alloc _ _)).then hf1)
  clear hf1
  go_wp2_with fail
  go_ret
  exact ⟨rfl, HB.out.no HF.out, Fb.ofNo HF.out⟩
theorem info3 : ∃ i, Try.prog.info? 3 = some i ∧ i.zero = some (.int .i64 0) ∧ i.size = 1 ∧ i.bytes = 8 := ⟨_, rfl, rfl, rfl, rfl⟩
theorem own_three {w : World} {base n b : Nat} {v : Value} {xs : List Value} (h : w.ownsRow base 3 1 v n xs) (hb : v.ownBlock = some b) : base ≤ b ∧ ∃ cs, w.heap[b]? = some (.cells cs 3 (0, 0)) := by
  rcases h.2 with ⟨rfl, _⟩ | ⟨g, cap, cur, rfl, h1, h2, _⟩
  · cases hb
  · simp only [Value.ownBlock, Option.some.injEq] at hb
    subst hb
    exact ⟨h1, cur, h2⟩
theorem grown_keeps {w w' : World} {base n : Nat} {v : Value} {xs : List Value} (hown : w.ownsRow base 3 1 v n xs) (hg : w.grownBy w' v.ownBlock) {b : Nat} {o : Obj} (hb : w.heap[b]? = some o) (ho : ∀ cs z, o ≠ .cells cs 3 z) : w'.heap[b]? = some o :=
  (Fr.grown hg).keeps hb fun e => by
    obtain ⟨_, cs, h2⟩ := own_three hown e
    rw [hb] at h2
    simp only [Option.some.injEq] at h2
    exact ho cs (0, 0) h2
theorem Fb.grown {base n : Nat} {w w' : World} {v : Value} {xs : List Value} (hown : w.ownsRow base 3 1 v n xs) (hg : w.grownBy w' v.ownBlock) : Fb base w w' :=
  (Fr.grown hg).mono fun k _ e => by
    obtain ⟨h1, cs, h2⟩ := own_three hown e
    exact ⟨h1, _, h2, .inr rfl⟩
/-- a binding is noted behind the others -/
theorem bk_push {base g many mb len : Nat} {l' : Bs} {D : DataW Value} {w2 wb wn : World} {tr tr' : Value} {xs : List Value} (h1 : w2.heap[g]? = some (.cells #[.int .i64 many, .map (some mb), tr] 61 (0, 0))) (h2 : base ≤ g) (h3 : base ≤ mb)
    (h4 : w2.ownsMap Try.prog 3 Rv mb (len + 1) D) (h5 : HoldsB base w2 l' D) (h6 : w2.ownsRow base 3 1 tr len xs) (hl : l'.length = len + 1) (hwb : Fr No w2 wb) (hown : wn.ownsRow base 3 1 tr' (len + 1) (l'.map fun p => .int .i64 p.1)) (hgrow : wb.grownBy wn tr.ownBlock) :
    Bk base (wn.setCell ⟨g, 2, none⟩ tr') g many l' ∧ Fb base w2 (wn.setCell ⟨g, 2, none⟩ tr') := by
  have h6b := owns_fr h6 hwb fun _ _ => no_one
  have hbn : wn.heap[g]? = some (.cells #[.int .i64 many, .map (some mb), tr] 61 (0, 0)) := grown_keeps h6b hgrow (hwb.keeps h1 no_one) (by simp)
  have hFn : Fb base w2 wn := (Fb.ofNo hwb).trans (Fb.grown h6b hgrow)
  have hset := Fr.setCell wn ⟨g, 2, none⟩ tr'
  have hfin : Fb base w2 (wn.setCell ⟨g, 2, none⟩ tr') := hFn.trans (Fb.cell61 hbn h2 _)
  have h4n : wn.ownsMap Try.prog 3 Rv mb (len + 1) D := by
    obtain ⟨es, clock, hb, F⟩ := h4
    exact ⟨es, clock, grown_keeps h6b hgrow (hwb.keeps hb no_one) (by simp), F⟩
  refine ⟨⟨mb, tr', D, block_setCell hbn 2 _, h2, h3, map_fr (by rw [hl]; exact h4n) hset (fun e => ?_), fun n => ?_, owns_fr (by rw [hl]; exact hown) hset (fun b hb e => ?_)⟩, hfin⟩
  · obtain ⟨es, clock, hb, _⟩ := h4n
    rw [show mb = g from e, hbn] at hb
    cases hb
  · refine ⟨(h5 n).1, fun x hx => ?_⟩
    obtain ⟨q1, v, q2, q3⟩ := (h5 n).2 x hx
    exact ⟨q1, v, q2, q3.fb hfin⟩
  · obtain ⟨_, cs, h7⟩ := own_three hown hb
    rw [show b = g from e, hbn] at h7
    simp at h7
set_option maxHeartbeats 4000000 in
set_option maxRecDepth 100000 in
theorem bind_new (base g many : Nat) (l : Bs) (hfine : Fine many l) (hll : l.length ≤ 4096) (n : Int) (hn0 : 0 ≤ n) (hn1 : n < 4096) (hlook : look l n = none) (f : Nat) (t u S T0 ua ub : T) (hu : ap l f t = some u) (hocc : occ n u = false) (hgood : Good many t) (hpt : parts t ≤ 1048576)
    (hgS : Good many S) (hpS : parts S ≤ 1048576) (hgT : Good many T0) (hpT : parts T0 ≤ 1048576) (hua : ap (l ++ [(n, t)]) f S = some ua) (hub : ap (l ++ [(n, t)]) f T0 = some ub)
    (v : Value) (a0 a1 a2 a3 b0 b1 b2 b3 : Value) (w : World) (hb : Bk base w g many l) (hi : IsT base w t v) (hiS : IsT base w S (.agg #[a0, a1, a2, a3])) (hiT : IsT base w T0 (.agg #[b0, b1, b2, b3])) :
    Calls Try.prog 52 #[.agg #[.pointer (some ⟨g, 0, none⟩), a0, a1, a2, a3, b0, b1, b2, b3], .int .i64 n, v] w (ErrSaid base w g many (if greatT ua || greatT ub then 16 else 0) (l ++ [(n, t)])) := by
  have HI := Lib.hid (fun w' (hf : Fr No w w') => in_any base w.heap.size g many l hfine n f t u hu hgood hpt v w' (hb.reads.no hf) (hi.no hf))
  rw [hocc] at HI
  obtain ⟨mb, tr, D, h1, h2, h3, h4, h5, h6⟩ := hb
  obtain ⟨ta, cap, rfl⟩ := trail_slice h6
  obtain ⟨len, hlen⟩ : ∃ len, l.length = len := ⟨_, rfl⟩
  rw [hlen] at h1 h4 h6 hll
  obtain ⟨x0, x1, x2, x3, rfl⟩ := is_agg hi
  obtain ⟨k1, s1, n1, aa1, mm1, cc1, rfl, rfl, rfl, rfl⟩ := is_cells hi
  obtain ⟨w0, hw0⟩ : ∃ w0, w0 = (w.alloc (.cells #[.pointer (some ⟨g, 0, none⟩), a0, a1, a2, a3, b0, b1, b2, b3] 58)).alloc (.cells #[.int .u8 k1, .string s1, .int .i64 n1, .slice aa1 mm1 cc1] 24) := ⟨_, rfl⟩
  have r0 : w0.heap[w.heap.size]? = some (.cells #[.pointer (some ⟨g, 0, none⟩), a0, a1, a2, a3, b0, b1, b2, b3] 58 (0, 0)) := by rw [hw0]; exact (Fr.alloc _ _).keeps (new_block w _) no_one
  have r1 : w0.heap[w.heap.size + 1]? = some (.cells #[.int .u8 k1, .string s1, .int .i64 n1, .slice aa1 mm1 cc1] 24 (0, 0)) := by
    have h := new_block (w.alloc (.cells #[.pointer (some ⟨g, 0, none⟩), a0, a1, a2, a3, b0, b1, b2, b3] 58)) (.cells #[.int .u8 k1, .string s1, .int .i64 n1, .slice aa1 mm1 cc1] 24)
    rw [size_alloc] at h
    rw [hw0]
    exact h
  have hF0 : Fr No w w0 := by rw [hw0]; exact (Fr.alloc w _).then (Fr.alloc _ _)
  have HP := Lib.hid (And.intro h1 (And.intro h2 (And.intro h3 (And.intro h5 (And.intro h6 (And.intro hi (And.intro hiS hiT)))))))
  have HR := Lib.hid (And.intro r0 (And.intro r1 hF0))
  have HOWN := Lib.hid h4
  have HLK := Lib.hid (And.intro hlen hlook)
  have HG := Lib.hid (fun w' (hb : Bk base w' g many (l ++ [(n, t)])) (hi : IsT base w' S (.agg #[a0, a1, a2, a3])) => great_any base w'.heap.size g many (l ++ [(n, t)]) (hfine.snoc hgood hpt) f S ua hua hgS hpS _ w' hb.reads (Nat.le_refl _) hi)
  have HG2 := Lib.hid (fun w' (hb : Bk base w' g many (l ++ [(n, t)])) (hi : IsT base w' T0 (.agg #[b0, b1, b2, b3])) => great_any base w'.heap.size g many (l ++ [(n, t)]) (hfine.snoc hgood hpt) f T0 ub hub hgT hpT _ w' hb.reads (Nat.le_refl _) hi)
  clear h1 h2 h3 h4 h5 h6 hi hiS hiT hu hocc hgood hpt hgS hpS hgT hpT hua hub hlen hlook r0 r1 hF0 hfine
  obtain ⟨R, hR⟩ : ∃ R : Int, (if greatT ua || greatT ub then (16 : Int) else 0) = R := ⟨_, rfl⟩
  rw [hR]
  have HRES := Lib.hid hR
  clear hR
  go_enter Try.func52, Try.ntmps52
  go_wp2_with fail
  rw [← hw0]
  refine (HI.out _ HR.out.2.2).mono ?_
  rintro e w1 ⟨rfl, hf1⟩
  obtain ⟨r0, r1, hF0⟩ := HR.out
  obtain ⟨h1, h2, h3, h5, h6, hi, hiS, hiT⟩ := HP.out
  have hF1 := hF0.then hf1
  have R0 := Lib.hid (hf1.keeps r0 no_one)
  have R1 := Lib.hid (hf1.keeps r1 no_one)
  have RB := Lib.hid (hF1.keeps h1 no_one)
  have HF1 := Lib.hid hF1
  have c0 : w1.cell? ⟨w.heap.size, 0, none⟩ = some (.pointer (some ⟨g, 0, none⟩)) := cell_of R0.out 0
  have d0 : w1.cell? ⟨w.heap.size + 1, 0, none⟩ = some (.int .u8 k1) := cell_of R1.out 0
  have d1 : w1.cell? ⟨w.heap.size + 1, 1, none⟩ = some (.string s1) := cell_of R1.out 1
  have d2 : w1.cell? ⟨w.heap.size + 1, 2, none⟩ = some (.int .i64 n1) := cell_of R1.out 2
  have d3 : w1.cell? ⟨w.heap.size + 1, 3, none⟩ = some (.slice aa1 mm1 cc1) := cell_of R1.out 3
  have b1 : w1.cell? ⟨g, 1, none⟩ = some (.map (some mb)) := cell_of RB.out 1
  have HO1 := Lib.hid (map_fr HOWN.out (hF1.then (Fr.drew w1)) no_one)
  clear r0 r1 hF0 hf1 h1 h2 h3 h5 h6 hi hiS hiT hF1 hw0
  go_upto_region 3 with fail
  go_still_tail 7, (by kernel_rfl)
  go_wp2_with (at_mapUpdate; refine wpList_mapUpdate_in _ rfl _ _ _ 59 rfl 3 24 law3 Try.underlying59 Rv mb len D rfl HO1.out (by unfold maxLen; omega) (.int .i64 n) (.agg #[.int .u8 k1, .string s1, .int .i64 n1, .slice aa1 mm1 cc1]) (kn n) rfl rfl (wfk ⟨hn0, hn1⟩) _ [] rfl ?_; intro w2 hown2 hturn2)
  obtain ⟨h1, h2, h3, h5, h6, hi, hiS, hiT⟩ := HP.out
  obtain ⟨hlen, hlook⟩ := HLK.out
  have hg2 : Fr (fun k => some mb = some k) w1 w2 := (Fr.drew w1).then' (Fr.grown hturn2.grown) (fun _ h => h)
  have hmbt : ∀ cs t z, w1.heap[mb]? ≠ some (.cells cs t z) := fun cs t z e => by
    obtain ⟨es, clock, hb, _⟩ := HO1.out
    have hb : w1.heap[mb]? = _ := hb
    rw [e] at hb
    cases hb
  have hf2 : Fb base w w2 := (Fb.ofNo (HF1.out.then (Fr.drew w1))).trans (Fb.turned hturn2 h3)
  have R0' := Lib.hid (hg2.keeps R0.out (fun e => by simp only [Option.some.injEq] at e; subst e; exact hmbt _ _ _ R0.out))
  have RB' := Lib.hid (hg2.keeps RB.out (fun e => by simp only [Option.some.injEq] at e; subst e; exact hmbt _ _ _ RB.out))
  have hrow2 : w2.ownsRow base 3 1 (.slice ta len cap) len (l.map fun p => .int .i64 p.1) := owns_fr (owns_fr h6 HF1.out fun _ _ => no_one) hg2 (fun b hb e => by
    obtain ⟨_, cs, h7⟩ := own_three (owns_fr h6 HF1.out fun _ _ => no_one) hb
    simp only [Option.some.injEq] at e
    subst e
    exact hmbt _ _ _ h7)
  have hhold : HoldsB base w2 (l ++ [(n, t)]) (D.put (kn n) (.held (.agg #[.int .u8 k1, .string s1, .int .i64 n1, .slice aa1 mm1 cc1]))) := holds_put h5 hlook (HO1.out.isMap) hf2 (hi.fb hf2)
  have HPUSH := Lib.hid (fun wb wn tr' (hwb : Fr No w2 wb) (hown : wn.ownsRow base 3 1 tr' (len + 1) ((l ++ [(n, t)]).map fun p => Value.int .i64 p.1)) (hgrow : wb.grownBy wn (Value.slice ta len cap).ownBlock) => bk_push RB'.out h2 h3 hown2 hhold hrow2 (by rw [List.length_append, hlen]; rfl) hwb hown hgrow)
  have HROW := Lib.hid hrow2
  have HF2 := Lib.hid hf2
  have hbase : base ≤ w2.heap.size := by
    have := lt_of_block RB'.out
    omega
  have HIS := Lib.hid (And.intro (hiS.fb hf2) (hiT.fb hf2))
  have hg0 : w2.cell? ⟨w.heap.size, 0, none⟩ = some (.pointer (some ⟨g, 0, none⟩)) := cell_of R0'.out 0
  have hg1 : w2.cell? ⟨g, 2, none⟩ = some (.slice ta len cap) := cell_of RB'.out 2
  have hg3 : w2.frozen? ⟨g, 2, none⟩ = false := free_of RB'.out 2
  have e0 : ∀ o, (w2.alloc o).cell? ⟨w.heap.size, 0, none⟩ = some (.pointer (some ⟨g, 0, none⟩)) := fun o => cell_of ((Fr.alloc w2 o).keeps R0'.out no_one) 0
  have e1 : ∀ o, (w2.alloc o).cell? ⟨g, 2, none⟩ = some (.slice ta len cap) := fun o => cell_of ((Fr.alloc w2 o).keeps RB'.out no_one) 2
  obtain ⟨i0, hi0, hz0, hz1, hz2⟩ := info3
  have HINF := Lib.hid (And.intro hi0 (And.intro hz0 (And.intro hz1 hz2)))
  clear h1 h2 h3 h5 h6 hi hiS hiT hlen hlook hg2 hmbt hf2 hrow2 hhold hown2 hturn2 hi0 hz0 hz1 hz2 c0 d0 d1 d2 d3 b1
  simp only [Act.put]
  go_cut [] from 19 to 30 (fun wx => Hid (Bk base wx g many (l ++ [(n, t)])) ∧ Hid (Fb base w2 wx) ∧ Hid (wx.heap[w.heap.size]? = some (.cells #[.pointer (some ⟨g, 0, none⟩), a0, a1, a2, a3, b0, b1, b2, b3] 58 (0, 0))))
  case first =>
    go_region_law
      (refine step_append_lies _ rfl _ _ _ rfl base 3 i0 _ 1 8 Try.underlying42 HINF.out.1 HINF.out.2.1 HINF.out.2.2.1 HINF.out.2.2.2 rfl (by decide) (.slice ta len cap) len (l.map fun p => .int .i64 p.1) rfl (owns_fr HROW.out ((Fr.drew w2).then (Fr.alloc _ _)) fun _ _ => no_one) _ 1 1 [.int .i64 n] rfl rfl (World.news_of_block (new_block _ _)) (by simp [Value.oneCell']) (by decide) (by unfold maxLen; omega) (by omega) (Nat.le_trans hbase ((Fr.drew w2).then (Fr.alloc _ _)).size) _ rfl ?_
       intro gn capn wn hownn hgrow hat hltn
       have HNN := Lib.hid (HPUSH.out _ wn (.slice (some ⟨gn, 0, none⟩) (len + 1) capn) ((Fr.drew w2).then (Fr.alloc _ _)) (by rw [List.map_append]; exact hownn) hgrow)
       have e4 : wn.cell? ⟨w.heap.size, 0, none⟩ = some (.pointer (some ⟨g, 0, none⟩)) := cell_of (grown_keeps (owns_fr HROW.out ((Fr.drew w2).then (Fr.alloc _ _)) fun _ _ => no_one) hgrow (((Fr.drew w2).then (Fr.alloc _ _)).keeps R0'.out no_one) (by simp)) 0
       have f3 : wn.cell? ⟨g, 2, none⟩ = some (.slice ta len cap) := cell_of (grown_keeps (owns_fr HROW.out ((Fr.drew w2).then (Fr.alloc _ _)) fun _ _ => no_one) hgrow (((Fr.drew w2).then (Fr.alloc _ _)).keeps RB'.out no_one) (by simp)) 2
       have f4 : wn.frozen? ⟨g, 2, none⟩ = false := free_of (grown_keeps (owns_fr HROW.out ((Fr.drew w2).then (Fr.alloc _ _)) fun _ _ => no_one) hgrow (((Fr.drew w2).then (Fr.alloc _ _)).keeps RB'.out no_one) (by simp)) 2
       clear hownn hgrow hat hltn)
    all_goals
      go_wp2_with fail
      go_meet
      exact ⟨Lib.hid HNN.out.1, Lib.hid HNN.out.2, Lib.hid (HNN.out.2.keeps R0'.out (by simp [Bobj]))⟩
  case rest =>
    obtain ⟨HBW, HFW, HJW⟩ := hcut
    have HISW := Lib.hid (And.intro (HIS.out.1.fb HFW.out) (HIS.out.2.fb HFW.out))
    have q := fun (w' : World) (hf : Fr No wc w') i => cell_of (hf.keeps HJW.out no_one) i
    have HQ := Lib.hid q
    have q0 : wc.cell? ⟨w.heap.size, 0, none⟩ = some (.pointer (some ⟨g, 0, none⟩)) := q wc (Fr.refl _ _) 0
    have q1 : wc.cell? ⟨w.heap.size, 1, none⟩ = some a0 := q wc (Fr.refl _ _) 1
    have q2 : wc.cell? ⟨w.heap.size, 2, none⟩ = some a1 := q wc (Fr.refl _ _) 2
    have q3 : wc.cell? ⟨w.heap.size, 3, none⟩ = some a2 := q wc (Fr.refl _ _) 3
    have q4 : wc.cell? ⟨w.heap.size, 4, none⟩ = some a3 := q wc (Fr.refl _ _) 4
    clear q hg0 hg1 hg3 e0 e1
    go_wp2_with fail
    refine (HG.out _ HBW.out HISW.out.1).mono ?_
    rintro e w3 ⟨rfl, hf3⟩
    have HF3 := Lib.hid hf3
    have q5 : w3.cell? ⟨w.heap.size, 0, none⟩ = some (.pointer (some ⟨g, 0, none⟩)) := HQ.out w3 hf3 0
    have q6 : w3.cell? ⟨w.heap.size, 5, none⟩ = some b0 := HQ.out w3 hf3 5
    have q7 : w3.cell? ⟨w.heap.size, 6, none⟩ = some b1 := HQ.out w3 hf3 6
    have q8 : w3.cell? ⟨w.heap.size, 7, none⟩ = some b2 := HQ.out w3 hf3 7
    have q9 : w3.cell? ⟨w.heap.size, 8, none⟩ = some b3 := HQ.out w3 hf3 8
    clear hf3
    cases hga : greatT ua with
    | true =>
      have HA := Lib.hid hga
      clear hga
      go_wp2_with fail
      go_ret
      refine ⟨?_, HBW.out.no HF3.out, (HF2.out.trans HFW.out).then HF3.out⟩
      rw [← HRES.out, HA.out]
      rfl
    | false =>
      have HA := Lib.hid hga
      clear hga
      go_wp2_with fail
      refine (HG2.out _ (HBW.out.no HF3.out) (HISW.out.2.no HF3.out)).mono ?_
      rintro e w4 ⟨rfl, hf4⟩
      have HF4 := Lib.hid (HF3.out.then hf4)
      clear hf4
      cases hgb : greatT ub with
      | true =>
        have HB2 := Lib.hid hgb
        clear hgb
        go_wp2_with fail
        go_ret
        refine ⟨?_, HBW.out.no HF4.out, (HF2.out.trans HFW.out).then HF4.out⟩
        rw [← HRES.out, HA.out, HB2.out]
        rfl
      | false =>
        have HB2 := Lib.hid hgb
        clear hgb
        go_wp2_with fail
        go_ret
        refine ⟨?_, HBW.out.no HF4.out, (HF2.out.trans HFW.out).then HF4.out⟩
        rw [← HRES.out, HA.out, HB2.out]
        rfl
end Go.Proofs.Ytfjddfcndammdaa
