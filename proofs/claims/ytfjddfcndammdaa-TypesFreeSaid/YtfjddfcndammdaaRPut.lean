/- The document's Put. -/
import Derived.Test.YtfjddfcndammdaaKidsN
import Derived.Test.YtfjddfcndammdaaSm
import Derived.Deep.CutRange
import Derived.Deep.AppendLies
namespace Go.Proofs.Ytfjddfcndammdaa
open Go.RowKit

/-- a type that a call has made, or that lies in memory below N -/
def MadeN (B0 N : Nat) (w : World) (t : T) (e : Ending) (w' : World) : Prop := ∃ v', e = .returned v' ∧ Is B0 (okN N w.heap.size) w' t v' ∧ Fr No w w'
theorem madeN_close {B0 N : Nat} {w wr : World} {g1 : Nat} {t : T} {v : Value} (hN : N ≤ g1) (hw : w.heap.size ≤ g1) (hF : Fr No w wr) (h : Is B0 (okN N (g1 + 1)) wr t v) (v0 v1 v2 v3 : Value) :
    Is B0 (okN N w.heap.size) ((((wr.setCell ⟨g1, 0, none⟩ v0).setCell ⟨g1, 1, none⟩ v1).setCell ⟨g1, 2, none⟩ v2).setCell ⟨g1, 3, none⟩ v3) t v ∧
      Fr No w ((((wr.setCell ⟨g1, 0, none⟩ v0).setCell ⟨g1, 1, none⟩ v1).setCell ⟨g1, 2, none⟩ v2).setCell ⟨g1, 3, none⟩ v3) :=
  ⟨h.keep (fun b hb ho _ => (fr_four wr g1 v0 v1 v2 v3).block b hb (fun e => by rw [e] at ho; rcases ho with h | h <;> omega)) (fun b hb => hb.imp id (fun h => by omega)), hF.own (fr_four wr g1 v0 v1 v2 v3) (fun i e => by rw [e]; exact hw)⟩
theorem putL_at (l : List T) : ∀ (r : List T) (j : Nat) (t : T), r[j]? = some t → (putL l r)[j]? = some (putT l t)
  | [], j, t, h => by simp at h
  | x :: r, 0, t, h => by
    simp only [List.getElem?_cons_zero, Option.some.injEq] at h
    simp [putL, h]
  | x :: r, j + 1, t, h => by
    simp only [putL, List.getElem?_cons_succ]
    exact putL_at l r j t (by simpa using h)
theorem putL_snoc (l : List T) : ∀ (r : List T) (t : T), putL l (r ++ [t]) = putL l r ++ [putT l t]
  | [], t => by simp [putL]
  | x :: r, t => by simp [putL, putL_snoc l r t]
theorem putL_len (l : List T) : ∀ r : List T, (putL l r).length = r.length
  | [] => rfl
  | x :: r => by simp [putL, putL_len l r]
/-- is it an unknown for which there is a type? -/
def inR (k : Nat) (n : Int) (m : Nat) : Bool := decide (k = 1 ∧ 0 ≤ n ∧ n < m)
set_option maxHeartbeats 4000000 in
set_option maxRecDepth 100000 in
theorem rput_any (B0 N : Nat) (l : List T) (m cap2 : Nat) (a2 : Option Addr) (hl : l.length = m) (hm : m ≤ 1152921504606846976) : ∀ (f : Nat) (t : T), parts t ≤ f → f ≤ 1048576 → ∀ (v : Value) (w : World), Is B0 (fun b => b < N) w t v → Row B0 (fun b => b < N) w a2 0 l → N ≤ w.heap.size →
    Calls Try.prog 15 #[v, .slice a2 m cap2] w (MadeN B0 N w (putT l t))
  | 0, t, h, _, _, _, _, _, _ => by have := parts_pos t; omega
  | f + 1, .mk k s n r, h, hf, v, w, hi, hrow2, hN => by
    simp only [Is] at hi
    obtain ⟨a, cap, rfl, hrow⟩ := hi
    obtain ⟨mr, hmr⟩ : ∃ mr, r.length = mr := ⟨_, rfl⟩
    rw [hmr]
    have hml := partsL_len r
    simp only [parts] at h
    rw [hmr] at hml
    have HI : Hid (∀ (j : Nat) (t : T) (v : Value) (w' : World), r[j]? = some t → Is B0 (fun b => b < N) w' t v → Fr No w w' → Calls Try.prog 15 #[v, .slice a2 m cap2] w' (MadeN B0 N w' (putT l t))) := Lib.hid (fun j t v w' hj his hfr => by
      have hk := parts_kid r j t hj
      exact rput_any B0 N l m cap2 a2 hl hm f t (by omega) (by omega) v w' his (Row.keep (Stays.of_no hfr) (fun _ h => h) a2 0 l hrow2) (Nat.le_trans hN hfr.size))
    have HM := Lib.hid hmr
    have HROW := Lib.hid hrow
    have HROW2 := Lib.hid hrow2
    have HL := Lib.hid hl
    obtain ⟨i0, hi, hz0, hz1, hz2⟩ := info24
    have HINF := Lib.hid (And.intro hi (And.intro hz0 (And.intro hz1 hz2)))
    obtain ⟨w0, hw0⟩ : ∃ w0, w0 = (w.alloc (.cells #[.int .u8 k, .string s, .int .i64 n, .slice a mr cap] 24)).alloc (.cells #[.int .u8 0, .string ⟨#[]⟩, .int .i64 0, .slice none 0 0] 24) := ⟨_, rfl⟩
    have r0 : Hid (w0.heap[w.heap.size]? = some (.cells #[.int .u8 k, .string s, .int .i64 n, .slice a mr cap] 24 (0, 0))) := Lib.hid (by rw [hw0]; exact keep_alloc (new_block w _) _)
    have r1 : Hid (w0.heap[w.heap.size + 1]? = some (.cells #[.int .u8 0, .string ⟨#[]⟩, .int .i64 0, .slice none 0 0] 24 (0, 0))) := Lib.hid (by
      have h := new_block (w.alloc (.cells #[.int .u8 k, .string s, .int .i64 n, .slice a mr cap] 24)) (.cells #[.int .u8 0, .string ⟨#[]⟩, .int .i64 0, .slice none 0 0] 24)
      rw [size_alloc] at h
      rw [hw0]
      exact h)
    have HF0 : Hid (Fr No w w0) := Lib.hid (by rw [hw0]; exact (Fr.alloc _ _).then (Fr.alloc _ _))
    have HS0 : Hid (w0.heap.size = w.heap.size + 1 + 1) := Lib.hid (by rw [hw0, size_alloc, size_alloc])
    have HP : Hid (putT l (.mk k s n r) = if k = 1 ∧ 0 ≤ n ∧ n < l.length then l.getD n.toNat (.mk k s n (putL l r)) else .mk k s n (putL l r)) := Lib.hid (by rw [putT])
    clear hmr hrow hrow2 hl hi hz0 hz1 hz2
    go_enter Try.func15, Try.ntmps15
    go_upto_region 1 with fail
    rw [← hw0]
    obtain ⟨g, hg⟩ : ∃ g, w.heap.size = g := ⟨_, rfl⟩
    obtain ⟨g1, hg1⟩ : ∃ g1, g + 1 = g1 := ⟨_, rfl⟩
    rw [hg] at r0 r1 HS0 ⊢
    rw [hg1] at r1 HS0 ⊢
    have hgs : w.heap.size ≤ g ∧ w.heap.size ≤ g1 ∧ N ≤ g1 := by omega
    have hgg : g ≠ g1 := by omega
    clear hw0 hg hg1
    have c0 : w0.cell? ⟨g, 0, none⟩ = some (.int .u8 k) := cell_of r0.out 0
    have c1 : w0.cell? ⟨g, 1, none⟩ = some (.string s) := cell_of r0.out 1
    have c2 : w0.cell? ⟨g, 2, none⟩ = some (.int .i64 n) := cell_of r0.out 2
    have c3 : w0.cell? ⟨g, 3, none⟩ = some (.slice a mr cap) := cell_of r0.out 3
    go_cut [21] from 7 to 21 (fun c wx => Hid (wx = w0) ∧ ∃ B, c = .bool B ∧ Hid (inR k n m = B))
    case first =>
      by_cases hk : k = 1
      · have hkb : ((k : Int) == 1) = true := by simp [hk]
        by_cases h0 : 0 ≤ n
        · have hd0 : decide (0 ≤ n) = true := by simpa using h0
          by_cases hnm : n < m
          · have hdm : decide (n < (m : Int)) = true := by simpa using hnm
            have HE : Hid (inR k n m = true) := Lib.hid (decide_eq_true ⟨hk, h0, hnm⟩)
            clear hk
            go_wp2_with fail
            go_meet
            exact ⟨Lib.hid rfl, _, rfl, HE⟩
          · have hdm : decide (n < (m : Int)) = false := by simpa using hnm
            have HE : Hid (inR k n m = false) := Lib.hid (decide_eq_false (fun h => hnm h.2.2))
            clear hk
            go_wp2_with fail
            go_meet
            exact ⟨Lib.hid rfl, _, rfl, HE⟩
        · have hd0 : decide (0 ≤ n) = false := by simpa using h0
          have HE : Hid (inR k n m = false) := Lib.hid (decide_eq_false (fun h => h0 h.2.1))
          clear hk
          go_wp2_with fail
          go_meet
          exact ⟨Lib.hid rfl, _, rfl, HE⟩
      · have hkb : ((k : Int) == 1) = false := by simp only [beq_eq_false_iff_ne, ne_eq]; omega
        have HE : Hid (inR k n m = false) := Lib.hid (decide_eq_false (fun h => hk h.1))
        clear hk
        go_wp2_with fail
        go_meet
        exact ⟨Lib.hid rfl, _, rfl, HE⟩
    case rest =>
      obtain ⟨HW, B, rfl, HIN⟩ := hcut
      have hw := HW.out
      subst hw
      clear HW
      cases B with
      | true =>
        obtain ⟨hk, h0, hnm⟩ : k = 1 ∧ 0 ≤ n ∧ n < m := of_decide_eq_true HIN.out
        clear HIN
        obtain ⟨q, rfl⟩ : ∃ q : Nat, n = q := ⟨n.toNat, by omega⟩
        have hqm : q < m := by omega
        obtain ⟨x, hx⟩ : ∃ x, l[q]? = some x := ⟨_, List.getElem?_eq_getElem (by rw [HL.out]; exact hqm)⟩
        have HE : Hid (putT l (.mk k s q r) = x) := Lib.hid (by
          rw [HP.out, if_pos ⟨hk, h0, by rw [HL.out]; exact hnm⟩, Int.toNat_natCast, List.getD, hx]
          rfl)
        have hrw := Row.keep (Stays.of_no HF0.out) (fun _ h => h) a2 0 l HROW2.out
        obtain ⟨b, off, x0, x1, x2, x3, rfl, _, _, d0, d1, d2, d3, his⟩ := Row.at_ 0 l hrw q x hx
        rw [Nat.zero_add] at d0 d1 d2 d3
        have HIS := Lib.hid his
        obtain ⟨kx, sx, nx, ax, mx, cx, rfl, rfl, rfl, rfl⟩ := is_cells his
        have k1' : (q : Int) < (m : Int) := by omega
        obtain ⟨⟨z0, z1, z2, z3⟩, y0, y1, y2, y3⟩ := z24 r1.out
        clear his hrw hx hk h0
        go_wp2_with fail
        (try simp only [Exit.inBlock, Exit.then])
        refine bodyPost_ret (results_ty rfl _ _ g1 _ rfl rfl (four_block r1.out _ _ _ _)) rfl ?_
        refine ⟨_, rfl, ?_⟩
        rw [HE.out]
        exact madeN_close hgs.2.2 hgs.2.1 HF0.out (HIS.out.mono fun b hb => .inl hb) _ _ _ _
      | false =>
      have HE : Hid (putT l (.mk k s n r) = .mk k s n (putL l r)) := Lib.hid (by rw [HP.out, if_neg (by rw [HL.out]; exact of_decide_eq_false HIN.out)])
      clear HIN
      go_wp2_with fail
      go_loopw [5, 6] (fun o i wr => ∃ (q : Nat), q ≤ mr ∧ i = .int .i64 q ∧ Hid (Fr No wc wr) ∧ Hid (BuiltN B0 N (g1 + 1) wr o (putL l (r.take q)))) (fun _ i _ => mr - (intOf i).toNat)
      case atStart => exact ⟨0, Nat.zero_le _, rfl, Lib.hid (Fr.refl _ _), Lib.hid (BuiltN.nil _ _ _ _)⟩
      case round =>
        obtain ⟨q, hq, rfl, HF, HB⟩ := hrel
        have c3 : wr.cell? ⟨g, 3, none⟩ = some (.slice a mr cap) := HF.out.cell (cell_of r0.out 3)
        obtain ⟨av, cv, hvk, _⟩ := HB.out.row
        have hql : (putL l (r.take q)).length = q := by rw [putL_len, List.length_take, HM.out]; omega
        rw [hql] at hvk
        by_cases hqm : q = mr
        · subst hqm
          subst hvk
          have c0 : wr.cell? ⟨g, 0, none⟩ = some (.int .u8 k) := HF.out.cell (cell_of r0.out 0)
          have c1 : wr.cell? ⟨g, 1, none⟩ = some (.string s) := HF.out.cell (cell_of r0.out 1)
          have c2 : wr.cell? ⟨g, 2, none⟩ = some (.int .i64 n) := HF.out.cell (cell_of r0.out 2)
          have HBT : Hid (Is B0 (okN N (g1 + 1)) wr (.mk k s n (putL l r)) (.agg #[.int .u8 k, .string s, .int .i64 n, .slice av q cv])) := Lib.hid (by
            have h := HB.out.is k s n
            rw [List.take_of_length_le (Nat.le_of_eq HM.out)] at h
            exact h)
          have R1 := Lib.hid (HF.out.keeps r1.out no_one)
          have HFW := Lib.hid (HF0.out.then HF.out)
          clear hql
          go_wp2_with fail
          refine (kids_any k s n a q cap av q cv wr).mono ?_
          rintro e w2 ⟨rfl, hf2⟩
          have R2 := Lib.hid (hf2.keeps R1.out no_one)
          have HB2 := Lib.hid (HBT.out.no hf2)
          have HF2 := Lib.hid (HFW.out.then hf2)
          obtain ⟨⟨z0, z1, z2, z3⟩, y0, y1, y2, y3⟩ := z24 R2.out
          clear hf2
          go_wp2_with fail
          (try simp only [Exit.inBlock, Exit.then])
          refine bodyPost_ret (results_ty rfl _ _ g1 _ rfl rfl (four_block R2.out _ _ _ _)) rfl ?_
          refine ⟨_, rfl, ?_⟩
          rw [HE.out]
          exact madeN_close hgs.2.2 hgs.2.1 HF2.out HB2.out _ _ _ _
        · obtain ⟨t, ht⟩ : ∃ t, r[q]? = some t := ⟨_, List.getElem?_eq_getElem (by rw [HM.out]; omega)⟩
          have hrw := Row.keep (Stays.of_no (HF0.out.then HF.out)) (fun _ h => h) a 0 r HROW.out
          obtain ⟨b, off, x0, x1, x2, x3, rfl, _, _, d0, d1, d2, d3, his⟩ := Row.at_ 0 r hrw q t ht
          rw [Nat.zero_add] at d0 d1 d2 d3
          have HC := Lib.hid (HI.out q t (.agg #[x0, x1, x2, x3]) wr ht his (HF0.out.then HF.out))
          have HTK := Lib.hid (And.intro ht (putL_at l r q t ht))
          have hb1 : g1 + 1 ≤ wr.heap.size := lt_of_block (HF.out.keeps r1.out no_one)
          obtain ⟨vs, hvs, hown, hvi⟩ := HB.out
          rw [hql] at hown
          have HBR := Lib.hid (fun wb wn t u v' => BuiltN.round (wb := wb) (wn := wn) (t := t) (u := u) (v' := v') (show N ≤ g1 + 1 by omega) hb1 hql hvs hown hvi)
          have HOWN := Lib.hid hown
          subst hvk
          have k0 : (0 : Int) ≤ (q : Int) := by omega
          have k1' : (q : Int) < (mr : Int) := by omega
          clear his hrw ht hvs hown hvi hql
          go_wp2_with fail
          refine HC.out.mono ?_
          rintro e w2 ⟨v2, rfl, his2, hf2⟩
          obtain ⟨y0, y1, y2, y3, rfl⟩ := is_agg his2
          obtain ⟨k2, s2, n2, aa2, mm2, cc2, rfl, rfl, rfl, rfl⟩ := is_cells his2
          have HIS2 := Lib.hid his2
          have HF2 := Lib.hid hf2
          clear his2 hf2
          go_wp2_with (at_builtin; refine wpList_append_lies _ rfl _ _ _ rfl (g1 + 1) 24 i0 _ 4 56 Try.underlying22 HINF.out.1 HINF.out.2.1 HINF.out.2.2.1 HINF.out.2.2.2 rfl (by decide) (.slice av q cv) q (vs.flatMap cells4) rfl (owns_no HOWN.out (HF2.out.then (Fr.alloc _ _))) _ 1 1 [.int .u8 k2, .string s2, .int .i64 n2, .slice aa2 mm2 cc2] rfl rfl (World.news_of_block (new_block _ _)) (by simp [Value.oneCell']) (by decide) (by unfold maxLen; omega) (by omega) (Nat.le_trans hb1 (HF2.out.then (Fr.alloc _ _)).size) _ rfl ?_; intro gn capn wn hownn hgrow hat hltn)
          have hnn := HBR.out _ wn (putT l t) (.agg #[.int .u8 k2, .string s2, .int .i64 n2, .slice aa2 mm2 cc2]) (.slice (some ⟨gn, 0, none⟩) (q + 1) capn) (HF2.out.then (Fr.alloc w2 _)) (HIS2.out.no (Fr.alloc _ _)) hownn hgrow (hat.imp id (fun e => by rw [e]; rfl))
          have HNB : Hid (BuiltN B0 N (g1 + 1) wn (.slice (some ⟨gn, 0, none⟩) (q + 1) capn) (putL l (r.take (q + 1)))) := Lib.hid (by
            rw [take_snoc HTK.out.1, putL_snoc]
            exact hnn.1)
          have HNF : Hid (Fr No wc wn) := Lib.hid (HF.out.own hnn.2 (fun i h => by have := HS0.out; omega))
          clear hnn hownn hgrow hat hltn
          exact ⟨⟨q + 1, by omega, by go_num, HNF, HNB⟩, by simp [intOf]; omega⟩
end Go.Proofs.Ytfjddfcndammdaa
