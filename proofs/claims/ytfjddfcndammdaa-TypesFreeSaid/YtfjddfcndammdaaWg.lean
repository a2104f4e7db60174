/- A type made of one, unknowns put by a function that is handed in. -/
import Derived.Test.YtfjddfcndammdaaWf
import Derived.Deep.CutRange
import Derived.Deep.RegionLaw
namespace Go.Proofs.Ytfjddfcndammdaa
open Go.RowKit

mutual
/-- what a walk makes: sp says what an unknown becomes (none: not told; some none: it stays) -/
def walkT (sp : Int → Option (Option T)) : T → Option T
  | .mk k s n l => if k = 1 then (match sp n with | none => none | some (some x) => some x | some none => (walkL sp l).map (.mk k s n)) else (walkL sp l).map (.mk k s n)
def walkL (sp : Int → Option (Option T)) : List T → Option (List T)
  | [] => some []
  | t :: r => match walkT sp t, walkL sp r with | some x, some y => some (x :: y) | _, _ => none
end
theorem walkL_at {sp : Int → Option (Option T)} : ∀ (l r : List T), walkL sp l = some r → l.length = r.length ∧ ∀ (j : Nat) (t : T), l[j]? = some t → ∃ u, r[j]? = some u ∧ walkT sp t = some u
  | [], r, h => by
    simp only [walkL, Option.some.injEq] at h
    subst h
    exact ⟨rfl, fun j t hj => by simp at hj⟩
  | x :: l, r, h => by
    simp only [walkL] at h
    cases hx : walkT sp x with
    | none => rw [hx] at h; cases h
    | some y =>
      cases hl : walkL sp l with
      | none => rw [hx, hl] at h; cases h
      | some z =>
        rw [hx, hl] at h
        simp only [Option.some.injEq] at h
        subst h
        obtain ⟨h1, h2⟩ := walkL_at l z hl
        refine ⟨by simp [h1], fun j t hj => ?_⟩
        cases j with
        | zero =>
          simp only [List.getElem?_cons_zero, Option.some.injEq] at hj
          subst hj
          exact ⟨y, rfl, hx⟩
        | succ j => exact h2 j t (by simpa using hj)
/-- what the function that is handed in does -/
def Of (sp : Int → Option (Option T)) (g : FuncId) (caps : Array Value) (w0 : World) : Prop :=
  ∀ (n : Int) (x : Option T) (w1 : World), sp n = some x → Fr No w0 w1 → Calls Try.prog g (#[.int .i64 n] ++ caps) w1 fun e w2 =>
    ∃ (k2 : Nat) (s2 : ByteArray) (n2 : Int) (a2 : Option Addr) (m2 c2 : Nat), e = .returned (.tuple #[.agg #[.int .u8 k2, .string s2, .int .i64 n2, .slice a2 m2 c2], .bool x.isSome]) ∧
      (∀ y, x = some y → Is 0 (fun b => w1.heap.size ≤ b) w2 y (.agg #[.int .u8 k2, .string s2, .int .i64 n2, .slice a2 m2 c2])) ∧ Fr No w1 w2
theorem Of.keep {sp : Int → Option (Option T)} {g : FuncId} {caps : Array Value} {w w' : World} (h : Of sp g caps w) (hf : Fr No w w') : Of sp g caps w' := fun n x w1 hs h1 => h n x w1 hs (hf.then h1)
set_option maxHeartbeats 4000000 in
set_option maxRecDepth 100000 in
theorem walk_any (sp : Int → Option (Option T)) (fid : FuncId) (caps : Array Value) (hcf : ∀ (args : Array Value) (u : World), Sem.run Try.prog (callFunc fid args) u = .ok (.enter fid args) u) :
    ∀ (f : Nat) (t r : T), parts t ≤ f → f ≤ 1048576 → walkT sp t = some r → ∀ (B0 : Nat) (ok : Nat → Prop) (v : Value) (w : World), Is B0 ok w t v → Of sp fid caps w → Calls Try.prog 46 #[v, .func (.func fid) #[] caps] w (MadeT w r)
  | 0, t, _, h, _, _, _, _, _, _, _, _ => by have := parts_pos t; omega
  | f + 1, .mk k s n l, r, h, hf, hr, B0, ok, v, w, hi, hof => by
    simp only [Is] at hi
    obtain ⟨a, cap, rfl, hrow⟩ := hi
    obtain ⟨m, hm⟩ : ∃ m, l.length = m := ⟨_, rfl⟩
    rw [hm]
    have hml := partsL_len l
    simp only [parts] at h
    rw [hm] at hml
    have HI : Hid (∀ (j : Nat) (t r : T) (v : Value) (w' : World), l[j]? = some t → walkT sp t = some r → Is B0 ok w' t v → Fr No w w' → Calls Try.prog 46 #[v, .func (.func fid) #[] caps] w' (MadeT w' r)) := Lib.hid (fun j t r v w' hj hr his hfr => by
      have hk := parts_kid l j t hj
      exact walk_any sp fid caps hcf f t r (by omega) (by omega) hr B0 ok v w' his (hof.keep hfr))
    have HM := Lib.hid hm
    have HROW := Lib.hid hrow
    have HOF := Lib.hid hof
    obtain ⟨i0, hi, hz0, hz1, hz2⟩ := info24
    have HINF := Lib.hid (And.intro hi (And.intro hz0 (And.intro hz1 hz2)))
    simp only [walkT] at hr
    have HR := Lib.hid hr
    obtain ⟨w0, hw0⟩ : ∃ w0, w0 = (w.alloc (.cells #[.int .u8 k, .string s, .int .i64 n, .slice a m cap] 24)).alloc (.cells #[.int .u8 0, .string ⟨#[]⟩, .int .i64 0, .slice none 0 0] 24) := ⟨_, rfl⟩
    have r0 : Hid (w0.heap[w.heap.size]? = some (.cells #[.int .u8 k, .string s, .int .i64 n, .slice a m cap] 24 (0, 0))) := Lib.hid (by rw [hw0]; exact (Fr.alloc _ _).keeps (new_block w _) no_one)
    have r1 : Hid (w0.heap[w.heap.size + 1]? = some (.cells #[.int .u8 0, .string ⟨#[]⟩, .int .i64 0, .slice none 0 0] 24 (0, 0))) := Lib.hid (by
      have h := new_block (w.alloc (.cells #[.int .u8 k, .string s, .int .i64 n, .slice a m cap] 24)) (.cells #[.int .u8 0, .string ⟨#[]⟩, .int .i64 0, .slice none 0 0] 24)
      rw [size_alloc] at h
      rw [hw0]
      exact h)
    have HF0 : Hid (Fr No w w0) := Lib.hid (by rw [hw0]; exact (Fr.alloc w _).then (Fr.alloc _ _))
    clear hm hrow hi hz0 hz1 hz2 hr hof
    have c0 : w0.cell? ⟨w.heap.size, 0, none⟩ = some (.int .u8 k) := cell_of r0.out 0
    have c1 : w0.cell? ⟨w.heap.size, 1, none⟩ = some (.string s) := cell_of r0.out 1
    have c2 : w0.cell? ⟨w.heap.size, 2, none⟩ = some (.int .i64 n) := cell_of r0.out 2
    have c3 : w0.cell? ⟨w.heap.size, 3, none⟩ = some (.slice a m cap) := cell_of r0.out 3
    go_enter Try.func46, Try.ntmps46
    go_upto_if 12 with fail
    rw [← hw0]
    obtain ⟨g, hg⟩ : ∃ g, w.heap.size = g := ⟨_, rfl⟩
    obtain ⟨g1, hg1⟩ : ∃ g1, g + 1 = g1 := ⟨_, rfl⟩
    rw [hg] at r0 r1 c0 c1 c2 c3 ⊢
    rw [hg1] at r1 ⊢
    have hgs : w.heap.size ≤ g ∧ w.heap.size ≤ g1 := by omega
    have hgg : g ≠ g1 ∧ g < g1 := by omega
    clear hw0 hg hg1
    go_cut [] from 5 to 21 (fun wx => Hid (wx.heap[g]? = some (.cells #[.int .u8 k, .string s, .int .i64 n, .slice a m cap] 24 (0, 0))) ∧ Hid (wx.heap[g1]? = some (.cells #[.int .u8 0, .string ⟨#[]⟩, .int .i64 0, .slice none 0 0] 24 (0, 0))) ∧
      Hid (Fr No w wx) ∧ Hid (∃ rl, walkL sp l = some rl ∧ r = .mk k s n rl))
    case first =>
      by_cases hk : k = 1
      · have hkb : ((k : Int) == 1) = true := by simp [hk]
        have hr2 := HR.out
        rw [if_pos hk] at hr2
        clear hk
        cases hs : sp n with
        | none => rw [hs] at hr2; cases hr2
        | some x =>
          have hcall := HOF.out n x w0 hs HF0.out
          rw [hs] at hr2
          cases x with
          | none =>
            have HR3 : Hid (∃ rl, walkL sp l = some rl ∧ r = .mk k s n rl) := Lib.hid (by
              cases hl : walkL sp l with
              | none => rw [hl] at hr2; cases hr2
              | some rl =>
                rw [hl] at hr2
                simp only [Option.map_some, Option.some.injEq] at hr2
                exact ⟨rl, rfl, hr2.symm⟩)
            have HC := Lib.hid hcall
            clear hr2 hs hcall
            go_wp2_with fail
            refine HC.out.mono ?_
            rintro e w2 ⟨k2, s2, n2, a2, m2, cc2, rfl, his2, hf2⟩
            have HF2 := Lib.hid hf2
            clear his2 hf2
            go_wp2_with fail
            go_meet
            exact ⟨Lib.hid ((HF2.out.then (Fr.alloc _ _)).keeps r0.out no_one), Lib.hid ((HF2.out.then (Fr.alloc _ _)).keeps r1.out no_one), Lib.hid (HF0.out.then (HF2.out.then (Fr.alloc _ _))), HR3⟩
          | some x =>
            simp only [Option.some.injEq] at hr2
            have HRX := Lib.hid hr2
            have HC := Lib.hid hcall
            clear hr2 hs hcall
            go_wp2_with fail
            refine HC.out.mono ?_
            rintro e w2 ⟨k2, s2, n2, a2, m2, cc2, rfl, his2, hf2⟩
            have HF2 := Lib.hid hf2
            have HX := Lib.hid (his2 x rfl)
            have R1 := Lib.hid ((hf2.then (Fr.alloc _ (.cells #[.int .u8 k2, .string s2, .int .i64 n2, .slice a2 m2 cc2] 24))).keeps r1.out no_one)
            have z0 := cell_of R1.out 0
            have z1 := cell_of R1.out 1
            have z2 := cell_of R1.out 2
            have z3 := cell_of R1.out 3
            have y0 := free_of R1.out 0
            have y1 := free_of R1.out 1
            have y2 := free_of R1.out 2
            have y3 := free_of R1.out 3
            clear his2 hf2
            go_wp2_with fail
            (try simp only [Exit.inBlock, Exit.then])
            refine bodyPost_ret (results_cell_row rfl _ _ g1 24 _ (0, 0) _ rfl (four_block R1.out _ _ _ _) Try.underlying24 rfl (by kernel_rfl)) rfl ?_
            have hcl := made_close (v := .agg #[.int .u8 k2, .string s2, .int .i64 n2, .slice a2 m2 cc2]) hgs.2 (HF0.out.then (HF2.out.then (Fr.alloc _ _))) ((HX.out.no (Fr.alloc _ (.cells #[.int .u8 k2, .string s2, .int .i64 n2, .slice a2 m2 cc2] 24))).mono (fun b hb => Nat.lt_of_lt_of_le (lt_of_block r1.out) hb)) (.int .u8 k2) (.string s2) (.int .i64 n2) (.slice a2 m2 cc2)
            rw [HRX.out] at hcl
            exact ⟨_, rfl, hcl⟩
      · have hkb : ((k : Int) == 1) = false := by
          simp only [beq_eq_false_iff_ne, ne_eq]
          omega
        have hr2 := HR.out
        rw [if_neg hk] at hr2
        have HR3 : Hid (∃ rl, walkL sp l = some rl ∧ r = .mk k s n rl) := Lib.hid (by
          cases hl : walkL sp l with
          | none => rw [hl] at hr2; cases hr2
          | some rl =>
            rw [hl] at hr2
            simp only [Option.map_some, Option.some.injEq] at hr2
            exact ⟨rl, rfl, hr2.symm⟩)
        clear hr2 hk
        go_wp2_with fail
        go_meet
        exact ⟨r0, r1, HF0, HR3⟩
    case rest =>
      obtain ⟨R0, R1, HF, HR3⟩ := hcut
      clear c0 c1 c2 c3 r0 r1 HR HF0
      obtain ⟨rl, hrl, rfl⟩ := HR3.out
      obtain ⟨hlen, hat⟩ := walkL_at l rl hrl
      have HRL := Lib.hid (And.intro (hlen.symm.trans HM.out) hat)
      clear hrl hlen hat HR3
      have c0 : wc.cell? ⟨g, 0, none⟩ = some (.int .u8 k) := cell_of R0.out 0
      have c1 : wc.cell? ⟨g, 1, none⟩ = some (.string s) := cell_of R0.out 1
      have c2 : wc.cell? ⟨g, 2, none⟩ = some (.int .i64 n) := cell_of R0.out 2
      obtain ⟨w1, hw1⟩ : ∃ w1, w1 = wc.alloc (.cells #[.int .u8 k, .string s, .int .i64 n, .slice none 0 0] 24) := ⟨_, rfl⟩
      have r0 : Hid (w1.heap[g]? = some (.cells #[.int .u8 k, .string s, .int .i64 n, .slice a m cap] 24 (0, 0))) := Lib.hid (by rw [hw1]; exact (Fr.alloc _ _).keeps R0.out no_one)
      have r1 : Hid (w1.heap[g1]? = some (.cells #[.int .u8 0, .string ⟨#[]⟩, .int .i64 0, .slice none 0 0] 24 (0, 0))) := Lib.hid (by rw [hw1]; exact (Fr.alloc _ _).keeps R1.out no_one)
      have r2 : Hid (w1.heap[wc.heap.size]? = some (.cells #[.int .u8 k, .string s, .int .i64 n, .slice none 0 0] 24 (0, 0))) := Lib.hid (by rw [hw1]; exact new_block _ _)
      have HF1 : Hid (Fr No w w1) := Lib.hid (by rw [hw1]; exact HF.out.then (Fr.alloc _ _))
      have k3 : w1.cell? ⟨g, 3, none⟩ = some (.slice a m cap) := cell_of r0.out 3
      have hg2 : g1 < wc.heap.size := lt_of_block R1.out
      go_upto_region 6 with fail
      rw [← hw1]
      obtain ⟨g2, hg2e⟩ : ∃ g2, wc.heap.size = g2 := ⟨_, rfl⟩
      rw [hg2e] at r2 hg2 ⊢
      have hgl : g < g2 ∧ g1 < g2 := by omega
      have hg2n : g ≠ g2 ∧ g1 ≠ g2 := by omega
      clear hw1 hg2e R0 R1 HF c0 c1 c2 wc
      go_wp2_with fail
      go_loopw [32] (fun i wr => ∃ (q : Nat) (vk : Value), q ≤ m ∧ i = .int .i64 q ∧ Hid (wr.heap[g]? = some (.cells #[.int .u8 k, .string s, .int .i64 n, .slice a m cap] 24 (0, 0))) ∧ Hid (wr.heap[g1]? = some (.cells #[.int .u8 0, .string ⟨#[]⟩, .int .i64 0, .slice none 0 0] 24 (0, 0))) ∧
        Hid (wr.heap[g2]? = some (.cells #[.int .u8 k, .string s, .int .i64 n, vk] 24 (0, 0))) ∧ Hid (Built (g2 + 1) wr vk (rl.take q)) ∧ Hid (Fr No w wr)) (fun i _ => m - (intOf i).toNat)
      case atStart => exact ⟨0, _, Nat.zero_le _, rfl, r0, r1, r2, Lib.hid (Built.nil _ _), HF1⟩
      case round =>
        obtain ⟨q, vk, hq, rfl, R0, R1, R2, HB, HF⟩ := hrel
        obtain ⟨av, cv, hvk, _⟩ := HB.out.row
        have hql : (rl.take q).length = q := by rw [List.length_take, HRL.out.1]; omega
        rw [hql] at hvk
        by_cases hqm : q = m
        · subst hqm
          subst hvk
          have d0 : wr.cell? ⟨g2, 0, none⟩ = some (.int .u8 k) := cell_of R2.out 0
          have d1 : wr.cell? ⟨g2, 1, none⟩ = some (.string s) := cell_of R2.out 1
          have d2 : wr.cell? ⟨g2, 2, none⟩ = some (.int .i64 n) := cell_of R2.out 2
          have d3 : wr.cell? ⟨g2, 3, none⟩ = some (.slice av q cv) := cell_of R2.out 3
          have z0 := cell_of R1.out 0
          have z1 := cell_of R1.out 1
          have z2 := cell_of R1.out 2
          have z3 := cell_of R1.out 3
          have y0 := free_of R1.out 0
          have y1 := free_of R1.out 1
          have y2 := free_of R1.out 2
          have y3 := free_of R1.out 3
          have HBT : Hid (Is 0 (fun b => g1 < b) wr (.mk k s n rl) (.agg #[.int .u8 k, .string s, .int .i64 n, .slice av q cv])) := Lib.hid (by
            have h := HB.out.is k s n
            rw [List.take_of_length_le (Nat.le_of_eq HRL.out.1)] at h
            exact h.mono fun b hb => by omega)
          go_wp2_with fail
          (try simp only [Exit.inBlock, Exit.then])
          refine bodyPost_ret (results_cell_row rfl _ _ g1 24 _ (0, 0) _ rfl (four_block R1.out _ _ _ _) Try.underlying24 rfl (by kernel_rfl)) rfl ?_
          exact ⟨_, rfl, made_close hgs.2 HF.out HBT.out _ _ _ _⟩
        · obtain ⟨t, ht⟩ : ∃ t, l[q]? = some t := ⟨_, List.getElem?_eq_getElem (by rw [HM.out]; omega)⟩
          obtain ⟨u, hu, hwu⟩ := HRL.out.2 q t ht
          have hrw := Row.keep (Stays.of_no HF.out) (fun _ h => h) a 0 l HROW.out
          obtain ⟨b, off, x0, x1, x2, x3, rfl, _, _, d0, d1, d2, d3, his⟩ := Row.at_ 0 l hrw q t ht
          rw [Nat.zero_add] at d0 d1 d2 d3
          have HC := Lib.hid (fun w' (hf : Fr No wr w') => HI.out q t u (.agg #[x0, x1, x2, x3]) w' ht hwu (his.no hf) (HF.out.then hf))
          obtain ⟨k1, s1, n1, aa1, mm1, cc1, rfl, rfl, rfl, rfl⟩ := is_cells his
          have HTK := Lib.hid hu
          have hb1 : g2 + 1 ≤ wr.heap.size := lt_of_block R2.out
          obtain ⟨vs, hvs, hown, hvi⟩ := HB.out
          have far : Hid (∀ x, x < g2 → ¬ (Value.slice av q cv).ownBlock = some x) := Lib.hid (fun x hx e => by rw [hvk] at hown; have := (own_ge hown e).1; omega)
          rw [hql] at hown
          have HBR := Lib.hid (fun wb wn t u v' => Built.round (wb := wb) (wn := wn) (t := t) (u := u) (v' := v') hb1 hql hvs hown hvi)
          have HOWN := Lib.hid hown
          obtain ⟨o, ho⟩ : ∃ o, off + q * 4 = o := ⟨_, rfl⟩
          rw [ho] at d0 d1 d2 d3
          subst hvk
          have hnb := new_block wr (.cells #[.int .u8 k1, .string s1, .int .i64 n1, .slice aa1 mm1 cc1] 24)
          obtain ⟨w1, hw1⟩ : ∃ w1, w1 = wr.alloc (.cells #[.int .u8 k1, .string s1, .int .i64 n1, .slice aa1 mm1 cc1] 24) := ⟨_, rfl⟩
          rw [← hw1] at hnb
          have HF1 : Hid (Fr No wr w1) := Lib.hid (by rw [hw1]; exact Fr.alloc _ _)
          have e3 : w1.cell? ⟨g2, 3, none⟩ = some (.slice av q cv) := HF1.out.cell (cell_of R2.out 3)
          have e0 : ∀ i, w1.cell? ⟨wr.heap.size, i, none⟩ = #[.int .u8 k1, .string s1, .int .i64 n1, .slice aa1 mm1 cc1][i]? := fun i => cell_of hnb i
          have E0 := Lib.hid e0
          have fgb : Hid (¬ (Value.slice av q cv).ownBlock = some wr.heap.size) := Lib.hid (fun e => by have := (own_ge hown e).2; omega)
          clear his hrw ht hvs hown hvi hu hwu hnb e0
          go_upto_region 9 with fail
          rw [← hw1]
          obtain ⟨gb, hgb⟩ : ∃ gb, wr.heap.size = gb := ⟨_, rfl⟩
          rw [hgb] at E0 fgb ⊢
          have hgbn : gb ≠ g2 := by omega
          clear hw1 hgb
          have q0 : w1.cell? ⟨gb, 0, none⟩ = some (.int .u8 k1) := E0.out 0
          have q1 : w1.cell? ⟨gb, 1, none⟩ = some (.string s1) := E0.out 1
          have q2 : w1.cell? ⟨gb, 2, none⟩ = some (.int .i64 n1) := E0.out 2
          have q3 : w1.cell? ⟨gb, 3, none⟩ = some (.slice aa1 mm1 cc1) := E0.out 3
          go_region_law
            (first
              | (go_simp
                 go_at_call 46
                 refine (HC.out _ (HF1.out.then (Fr.drew _))).mono ?_
                 rintro e w2 ⟨v2, rfl, his2, hf2⟩
                 obtain ⟨y0, y1, y2, y3, rfl⟩ := is_agg his2
                 obtain ⟨k2, s2, n2, aa2, mm2, cc2, rfl, rfl, rfl, rfl⟩ := is_cells his2
                 have HIS2 := Lib.hid (his2.mono (ok' := fun b => wr.heap.size ≤ b) (fun b hb => Nat.le_trans HF1.out.size hb))
                 have e5 : w2.cell? ⟨g2, 3, none⟩ = some (.slice av q cv) := hf2.cell ((World.cell?_drew ..).trans e3)
                 have e6 : ∀ ob, (w2.alloc ob).cell? ⟨g2, 3, none⟩ = some (.slice av q cv) := fun ob => (Fr.alloc _ _).cell e5
                 clear his2)
              | (refine step_append_lies _ rfl _ _ _ rfl (g2 + 1) 24 i0 _ 4 56 rfl HINF.out.1 HINF.out.2.1 HINF.out.2.2.1 HINF.out.2.2.2 rfl (by decide) (.slice av q cv) q (vs.flatMap cells4) rfl (owns_no HOWN.out ((HF1.out.then ((Fr.drew w1).then hf2)).then (Fr.alloc _ _))) _ 1 1 [.int .u8 k2, .string s2, .int .i64 n2, .slice aa2 mm2 cc2] rfl rfl (World.news_of_block (new_block _ _)) (by simp [Value.oneCell']) (by decide) (by unfold maxLen; omega) (by omega) (Nat.le_trans hb1 ((HF1.out.then ((Fr.drew w1).then hf2)).then (Fr.alloc _ _)).size) _ rfl ?_
                 intro gn capn wn hownn hgrow hat hltn
                 have HNN := Lib.hid (HBR.out _ _ _ _ _ ((HF1.out.then ((Fr.drew w1).then hf2)).then (Fr.alloc _ _)) (HIS2.out.no (Fr.alloc _ _)) hownn hgrow (hat.imp id (fun e => by rw [e]; rfl)))
                 have e4 : wn.cell? ⟨g2, 3, none⟩ = some (.slice av q cv) := cell_of (HNN.out.2.keeps R2.out (by omega)) 3
                 have f4 : wn.frozen? ⟨g2, 3, none⟩ = false := free_of (HNN.out.2.keeps R2.out (by omega)) 3))
          all_goals
            have HSN : Hid (Built (g2 + 1) (wn.setCell ⟨g2, 3, none⟩ (.slice (some ⟨gn, 0, none⟩) (q + 1) capn)) (.slice (some ⟨gn, 0, none⟩) (q + 1) capn) (rl.take (q + 1))) := Lib.hid (by
              have h := HNN.out.1.far (Fr.setCell wn ⟨g2, 3, none⟩ (.slice (some ⟨gn, 0, none⟩) (q + 1) capn)) (fun k e => by rw [e]; exact Nat.lt_succ_self _)
              rw [take_snoc HTK.out]
              exact h)
            have HSF : Hid (Fr (fun k => g2 ≤ k) wr (wn.setCell ⟨g2, 3, none⟩ (.slice (some ⟨gn, 0, none⟩) (q + 1) capn))) := Lib.hid ((HNN.out.2.mono (fun k _ h => by omega)).trans (Fr.setCell wn ⟨g2, 3, none⟩ (.slice (some ⟨gn, 0, none⟩) (q + 1) capn)) (fun k _ e => by rw [e]; exact Nat.le_refl _))
            have HSG : Hid ((wn.setCell ⟨g2, 3, none⟩ (.slice (some ⟨gn, 0, none⟩) (q + 1) capn)).heap[g2]? = some (.cells #[.int .u8 k, .string s, .int .i64 n, .slice (some ⟨gn, 0, none⟩) (q + 1) capn] 24 (0, 0))) := Lib.hid (block_setCell (HNN.out.2.keeps R2.out (by omega)) 3 _)
            clear hownn hgrow hat hltn
            go_wp2_with fail
            refine ⟨⟨q + 1, _, by omega, by go_num, Lib.hid (HSF.out.keeps R0.out (by omega)), Lib.hid (HSF.out.keeps R1.out (by omega)), HSG, HSN, Lib.hid (HF.out.own HSF.out (fun i h => by omega))⟩, by simp [intOf]; omega⟩
end Go.Proofs.Ytfjddfcndammdaa
