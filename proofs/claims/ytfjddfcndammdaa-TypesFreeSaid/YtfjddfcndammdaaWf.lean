/- A type in memory of its own. -/
import Derived.Test.YtfjddfcndammdaaKids
import Derived.Deep.RegionHeld3
import Derived.Deep.RegionLaw
namespace Go.Proofs.Ytfjddfcndammdaa
open Go.RowKit

/-- a type that the call has made -/
def MadeT (w : World) (t : T) (e : Ending) (w' : World) : Prop := ∃ v', e = .returned v' ∧ Is 0 (fun b => w.heap.size ≤ b) w' t v' ∧ Fr No w w'
theorem info24 : ∃ i, Try.prog.info? 24 = some i ∧ i.zero = some (.agg #[.int .u8 0, .string ⟨#[]⟩, .int .i64 0, .slice none 0 0]) ∧ i.size = 4 ∧ i.bytes = 56 := ⟨_, rfl, rfl, rfl, rfl⟩
/-- the five cells that a round of a copying loop reads -/
def Five (g b o : Nat) (v c0 c1 c2 c3 : Value) (w : World) : Prop := w.cell? ⟨g, 3, none⟩ = some v ∧ w.cell? ⟨b, o, none⟩ = some c0 ∧ w.cell? ⟨b, o + 1, none⟩ = some c1 ∧ w.cell? ⟨b, o + 2, none⟩ = some c2 ∧ w.cell? ⟨b, o + 3, none⟩ = some c3
theorem five_fr {S : Nat → Prop} {w w' : World} (hf : Fr S w w') {g b o : Nat} {v c0 c1 c2 c3 : Value} (hg : ¬ S g) (hb : ¬ S b) (h : Five g b o v c0 c1 c2 c3 w) : Five g b o v c0 c1 c2 c3 w' := by
  obtain ⟨h1, h2, h3, h4, h5⟩ := h
  have kg := hf.block g (World.block_lt_of_cell? w _ h1) hg
  have kb := hf.block b (World.block_lt_of_cell? w _ h2) hb
  exact ⟨(World.cell?_of_block kg).trans h1, (World.cell?_of_block kb).trans h2, (World.cell?_of_block kb).trans h3, (World.cell?_of_block kb).trans h4, (World.cell?_of_block kb).trans h5⟩
set_option maxHeartbeats 4000000 in
set_option maxRecDepth 100000 in
theorem twin_any : ∀ (f : Nat) (t : T), parts t ≤ f → f ≤ 1048576 → ∀ (B0 : Nat) (ok : Nat → Prop) (v : Value) (w : World), Is B0 ok w t v → Calls Try.prog 22 #[v] w (MadeT w t)
  | 0, t, h, _, _, _, _, _, _ => by have := parts_pos t; omega
  | f + 1, .mk k s n l, h, hf, B0, ok, v, w, hi => by
    simp only [Is] at hi
    obtain ⟨a, cap, rfl, hrow⟩ := hi
    obtain ⟨m, hm⟩ : ∃ m, l.length = m := ⟨_, rfl⟩
    rw [hm]
    have hml := partsL_len l
    simp only [parts] at h
    rw [hm] at hml
    have HI : Hid (∀ (j : Nat) (t : T) (v : Value) (w' : World), l[j]? = some t → Is B0 ok w' t v → Calls Try.prog 22 #[v] w' (MadeT w' t)) := Lib.hid (fun j t v w' hj his => by
      have hk := parts_kid l j t hj
      exact twin_any f t (by omega) (by omega) B0 ok v w' his)
    have HM := Lib.hid hm
    have HROW := Lib.hid hrow
    obtain ⟨i0, hi, hz0, hz1, hz2⟩ := info24
    have HINF := Lib.hid (And.intro hi (And.intro hz0 (And.intro hz1 hz2)))
    clear hm hrow hi hz0 hz1 hz2
    go_enter Try.func22, Try.ntmps22
    obtain ⟨w0, hw0⟩ : ∃ w0, w0 = (((w.alloc (.cells #[.int .u8 k, .string s, .int .i64 n, .slice a m cap] 24)).alloc (.cells #[.int .u8 0, .string ⟨#[]⟩, .int .i64 0, .slice none 0 0] 24)).alloc (.cells #[.int .u8 k, .string s, .int .i64 n, .slice none 0 0] 24)) := ⟨_, rfl⟩
    have r0 : Hid (w0.heap[w.heap.size]? = some (.cells #[.int .u8 k, .string s, .int .i64 n, .slice a m cap] 24 (0, 0))) := Lib.hid (by rw [hw0]; exact (Fr.alloc _ _).keeps ((Fr.alloc _ _).keeps (new_block w _) no_one) no_one)
    have r1 : Hid (w0.heap[w.heap.size + 1]? = some (.cells #[.int .u8 0, .string ⟨#[]⟩, .int .i64 0, .slice none 0 0] 24 (0, 0))) := Lib.hid (by
      have h := new_block (w.alloc (.cells #[.int .u8 k, .string s, .int .i64 n, .slice a m cap] 24)) (.cells #[.int .u8 0, .string ⟨#[]⟩, .int .i64 0, .slice none 0 0] 24)
      rw [size_alloc] at h
      rw [hw0]
      exact (Fr.alloc _ _).keeps h no_one)
    have r2 : Hid (w0.heap[w.heap.size + 1 + 1]? = some (.cells #[.int .u8 k, .string s, .int .i64 n, .slice none 0 0] 24 (0, 0))) := Lib.hid (by
      have h := new_block ((w.alloc (.cells #[.int .u8 k, .string s, .int .i64 n, .slice a m cap] 24)).alloc (.cells #[.int .u8 0, .string ⟨#[]⟩, .int .i64 0, .slice none 0 0] 24)) (.cells #[.int .u8 k, .string s, .int .i64 n, .slice none 0 0] 24)
      rw [size_alloc, size_alloc] at h
      rw [hw0]
      exact h)
    have HF0 : Hid (Fr No w w0) := Lib.hid (by rw [hw0]; exact ((Fr.alloc w _).then (Fr.alloc _ _)).then (Fr.alloc _ _))
    have hsz : w0.heap.size = w.heap.size + 3 := by rw [hw0, size_alloc, size_alloc, size_alloc]
    go_wp2_with fail
    rw [← hw0]
    obtain ⟨g, hg⟩ : ∃ g, w.heap.size = g := ⟨_, rfl⟩
    obtain ⟨g1, hg1⟩ : ∃ g1, g + 1 = g1 := ⟨_, rfl⟩
    obtain ⟨g2, hg2⟩ : ∃ g2, g1 + 1 = g2 := ⟨_, rfl⟩
    rw [hg] at r0 r1 r2 ⊢
    rw [hg1] at r1 r2 ⊢
    rw [hg2] at r2 ⊢
    have hgs : w.heap.size ≤ g2 ∧ w.heap.size ≤ g1 := by omega
    have hb0 : w0.heap.size = g2 + 1 := by omega
    have hgg : g ≠ g2 ∧ g1 ≠ g2 := by omega
    have hgl : g < g2 ∧ g1 < g2 := by omega
    clear hw0 hg hg1 hg2 hsz
    go_loopw [4] (fun i wr => ∃ (q : Nat) (vk : Value), q ≤ m ∧ i = .int .i64 q ∧ Hid (wr.heap[g]? = some (.cells #[.int .u8 k, .string s, .int .i64 n, .slice a m cap] 24 (0, 0))) ∧ Hid (wr.heap[g1]? = some (.cells #[.int .u8 0, .string ⟨#[]⟩, .int .i64 0, .slice none 0 0] 24 (0, 0))) ∧
      Hid (wr.heap[g2]? = some (.cells #[.int .u8 k, .string s, .int .i64 n, vk] 24 (0, 0))) ∧ Hid (Built (g2 + 1) wr vk (l.take q)) ∧ Hid (Fr No w wr)) (fun i _ => m - (intOf i).toNat)
    case atStart => exact ⟨0, _, Nat.zero_le _, rfl, r0, r1, r2, Lib.hid (Built.nil _ _), HF0⟩
    case round =>
      obtain ⟨q, vk, hq, rfl, R0, R1, R2, HB, HF⟩ := hrel
      obtain ⟨av, cv, hvk, _⟩ := HB.out.row
      have hql : (l.take q).length = q := by rw [List.length_take, HM.out]; omega
      rw [hql] at hvk
      have b3 : wr.cell? ⟨g, 3, none⟩ = some (.slice a m cap) := cell_of R0.out 3
      by_cases hqm : q = m
      · subst hqm
        subst hvk
        have d0 : wr.cell? ⟨g2, 0, none⟩ = some (.int .u8 k) := cell_of R2.out 0
        have d1 : wr.cell? ⟨g2, 1, none⟩ = some (.string s) := cell_of R2.out 1
        have d2 : wr.cell? ⟨g2, 2, none⟩ = some (.int .i64 n) := cell_of R2.out 2
        have d3 : wr.cell? ⟨g2, 3, none⟩ = some (.slice av q cv) := cell_of R2.out 3
        have z0 : wr.cell? ⟨g1, 0, none⟩ = some (.int .u8 0) := cell_of R1.out 0
        have z1 : wr.cell? ⟨g1, 1, none⟩ = some (.string ⟨#[]⟩) := cell_of R1.out 1
        have z2 : wr.cell? ⟨g1, 2, none⟩ = some (.int .i64 0) := cell_of R1.out 2
        have z3 : wr.cell? ⟨g1, 3, none⟩ = some (.slice none 0 0) := cell_of R1.out 3
        have y0 := free_of R1.out 0
        have y1 := free_of R1.out 1
        have y2 := free_of R1.out 2
        have y3 := free_of R1.out 3
        have HBT : Hid (Is 0 (fun b => g2 + 1 ≤ b) wr (.mk k s n l) (.agg #[.int .u8 k, .string s, .int .i64 n, .slice av q cv])) := Lib.hid (by
          have h := HB.out.is k s n
          rw [List.take_of_length_le (Nat.le_of_eq HM.out)] at h
          exact h)
        go_wp2_with fail
        (try simp only [Exit.inBlock, Exit.then])
        refine bodyPost_ret (results_cell_row rfl _ _ g1 24 _ (0, 0) _ rfl (four_block R1.out _ _ _ _) Try.underlying24 rfl (by kernel_rfl)) rfl ?_
        refine ⟨.agg #[.int .u8 k, .string s, .int .i64 n, .slice av q cv], rfl, ?_, HF.out.own (fr_four wr g1 _ _ _ _) (fun i e => by rw [e]; omega)⟩
        exact HBT.out.keep (fun b hb ho _ => (fr_four wr g1 _ _ _ _).block b hb (fun e => by rw [e] at ho; omega)) (fun b hb => by omega)
      · obtain ⟨t, ht⟩ : ∃ t, l[q]? = some t := ⟨_, List.getElem?_eq_getElem (by rw [HM.out]; omega)⟩
        have hrw := Row.keep (Stays.of_no HF.out) (fun _ h => h) a 0 l (row_lt a 0 l HROW.out)
        obtain ⟨b, off, x0, x1, x2, x3, rfl, ⟨_, hbw⟩, _, d0, d1, d2, d3, his⟩ := Row.at_ 0 l hrw q t ht
        rw [Nat.zero_add] at d0 d1 d2 d3
        have HC := Lib.hid (fun w' => HI.out q t (.agg #[x0, x1, x2, x3]) w' ht)
        have HIS := Lib.hid (fun w' (hf : Fr No wr w') => (his.no hf).mono (ok' := ok) (fun b h => h.1))
        obtain ⟨k1, s1, n1, aa1, mm1, cc1, rfl, rfl, rfl, rfl⟩ := is_cells his
        have HTK := Lib.hid ht
        have e3 : wr.cell? ⟨g2, 3, none⟩ = some vk := cell_of R2.out 3
        have f3 : wr.frozen? ⟨g2, 3, none⟩ = false := free_of R2.out 3
        have hb1 : g2 + 1 ≤ wr.heap.size := lt_of_block R2.out
        obtain ⟨vs, hvs, hown, hvi⟩ := HB.out
        have far : Hid (∀ x, x < g2 → ¬ (Value.slice av q cv).ownBlock = some x) := Lib.hid (fun x hx e => by rw [hvk] at hown; have := (own_ge hown e).1; omega)
        rw [hql] at hown
        have HBR := Lib.hid (fun wb wn t u v' => Built.round (wb := wb) (wn := wn) (t := t) (u := u) (v' := v') hb1 hql hvs hown hvi)
        have HOWN := Lib.hid hown
        have hbg : b ≠ g2 := by omega
        have hbo2 : b < g2 := by omega
        obtain ⟨o, ho⟩ : ∃ o, off + q * 4 = o := ⟨_, rfl⟩
        rw [ho] at d0 d1 d2 d3
        subst hvk
        clear his hrw ht hvs hown hvi
        go_wp2_with fail
        go_region_law
          (first
            | (go_simp
               go_at_call 22
               refine (HC.out _ (HIS.out _ (Fr.drew _))).mono ?_
               rintro e w2 ⟨v2, rfl, his2, hf2⟩
               obtain ⟨y0, y1, y2, y3, rfl⟩ := is_agg his2
               obtain ⟨k2, s2, n2, aa2, mm2, cc2, rfl, rfl, rfl, rfl⟩ := is_cells his2
               have HIS2 := Lib.hid his2
               have e5 : w2.cell? ⟨g2, 3, none⟩ = some (.slice av q cv) := hf2.cell ((World.cell?_drew ..).trans e3)
               have e6 : ∀ ob, (w2.alloc ob).cell? ⟨g2, 3, none⟩ = some (.slice av q cv) := fun ob => (Fr.alloc _ _).cell e5
               clear his2)
            | (refine step_append_lies _ rfl _ _ _ rfl (g2 + 1) 24 i0 _ 4 56 rfl HINF.out.1 HINF.out.2.1 HINF.out.2.2.1 HINF.out.2.2.2 rfl (by decide) (.slice av q cv) q (vs.flatMap cells4) rfl (owns_no HOWN.out (((Fr.drew wr).then hf2).then (Fr.alloc _ _))) _ 1 1 [.int .u8 k2, .string s2, .int .i64 n2, .slice aa2 mm2 cc2] rfl rfl (World.news_of_block (new_block _ _)) (by simp [Value.oneCell']) (by decide) (by unfold maxLen; omega) (by omega) (Nat.le_trans hb1 (((Fr.drew wr).then hf2).then (Fr.alloc _ _)).size) _ rfl ?_
               intro gn capn wn hownn hgrow hat hltn
               have HNN := Lib.hid (HBR.out _ _ _ _ _ (((Fr.drew wr).then hf2).then (Fr.alloc _ _)) (HIS2.out.no (Fr.alloc _ _)) hownn hgrow (hat.imp id (fun e => by rw [e]; rfl)))
               have e4 : wn.cell? ⟨g2, 3, none⟩ = some (.slice av q cv) := cell_of (HNN.out.2.keeps R2.out (by omega)) 3
               have f4 : wn.frozen? ⟨g2, 3, none⟩ = false := free_of (HNN.out.2.keeps R2.out (by omega)) 3))
        all_goals
          have HSN : Hid (Built (g2 + 1) (wn.setCell ⟨g2, 3, none⟩ (.slice (some ⟨gn, 0, none⟩) (q + 1) capn)) (.slice (some ⟨gn, 0, none⟩) (q + 1) capn) (l.take (q + 1))) := Lib.hid (by
            have h := HNN.out.1.far (Fr.setCell wn ⟨g2, 3, none⟩ (.slice (some ⟨gn, 0, none⟩) (q + 1) capn)) (fun k e => by rw [e]; exact Nat.lt_succ_self _)
            rw [take_snoc HTK.out]
            exact h)
          have HSF : Hid (Fr (fun k => g2 ≤ k) wr (wn.setCell ⟨g2, 3, none⟩ (.slice (some ⟨gn, 0, none⟩) (q + 1) capn))) := Lib.hid ((HNN.out.2.mono (fun k _ h => by omega)).trans (Fr.setCell wn ⟨g2, 3, none⟩ (.slice (some ⟨gn, 0, none⟩) (q + 1) capn)) (fun k _ e => by rw [e]; exact Nat.le_refl _))
          have HSG : Hid ((wn.setCell ⟨g2, 3, none⟩ (.slice (some ⟨gn, 0, none⟩) (q + 1) capn)).heap[g2]? = some (.cells #[.int .u8 k, .string s, .int .i64 n, .slice (some ⟨gn, 0, none⟩) (q + 1) capn] 24 (0, 0))) := Lib.hid (block_setCell (HNN.out.2.keeps R2.out (by omega)) 3 _)
          clear hownn hgrow hat hltn
          go_wp2_with fail
          refine ⟨⟨q + 1, _, by omega, by go_num, Lib.hid (HSF.out.keeps R0.out (by omega)), Lib.hid (HSF.out.keeps R1.out (by omega)), HSG, HSN, Lib.hid (HF.out.own HSF.out (fun i h => by omega))⟩, by simp [intOf]; omega⟩
end Go.Proofs.Ytfjddfcndammdaa
