/- The law CoverMany: the walk. -/
import Derived.Test.YthjecikdkdjlaaaManyP
import Derived.Test.YthjecikdkdjlaaaAn
import Derived.Test.YthjecikdkdjlaaaOp
namespace Go.Proofs.Ythjecikdkdjlaaa
open Go.RowKit

theorem fr_four_at (w : World) (b i0 i1 i2 i3 : Nat) (v0 v1 v2 v3 : Value) : Fr (Just b) w ((((w.setCell ⟨b, i0, none⟩ v0).setCell ⟨b, i1, none⟩ v1).setCell ⟨b, i2, none⟩ v2).setCell ⟨b, i3, none⟩ v3) :=
  (((Fr.setCell w ⟨b, i0, none⟩ v0).trans (Fr.setCell _ ⟨b, i1, none⟩ v1) fun _ _ (h : _ = b) => (h : Just b _)).trans (Fr.setCell _ ⟨b, i2, none⟩ v2) fun _ _ (h : _ = b) => (h : Just b _)).trans (Fr.setCell _ ⟨b, i3, none⟩ v3) fun _ _ (h : _ = b) => (h : Just b _)
theorem set_at {A R : List Value} {c0 c1 c2 c3 y0 y1 y2 y3 : Value} {m : Nat} (hA : A.length = m) :
    ((((A ++ c0 :: c1 :: c2 :: c3 :: R).set m y0).set (m + 1) y1).set (m + 2) y2).set (m + 3) y3 = A ++ y0 :: y1 :: y2 :: y3 :: R := by
  subst hA
  rw [List.set_append_right _ _ (Nat.le_refl _), Nat.sub_self, List.set_append_right _ _ (by omega), List.set_append_right _ _ (by omega), List.set_append_right _ _ (by omega)]
  simp
/-- the last one of a row of one's own: its cells; another one in its place -/
theorem OutP.last {base B n : Nat} {W0 w : World} {a : Option Addr} {c : Nat} {acc : List T} {t : T} (h : OutP base B W0 w (.slice a (n + 1) c) (acc ++ [t])) (hn : acc.length = n) :
    ∃ g, a = some ⟨g, 0, none⟩ ∧ B ≤ g ∧ (∃ x0 x1 x2 x3, w.cell? ⟨g, n * 4, none⟩ = some x0 ∧ w.cell? ⟨g, n * 4 + 1, none⟩ = some x1 ∧ w.cell? ⟨g, n * 4 + 2, none⟩ = some x2 ∧ w.cell? ⟨g, n * 4 + 3, none⟩ = some x3) ∧
      (w.frozen? ⟨g, n * 4, none⟩ = false ∧ w.frozen? ⟨g, n * 4 + 1, none⟩ = false ∧ w.frozen? ⟨g, n * 4 + 2, none⟩ = false ∧ w.frozen? ⟨g, n * 4 + 3, none⟩ = false) ∧
      ∀ (y0 y1 y2 y3 : Value) (t' : T), IsT base W0 t' (.agg #[y0, y1, y2, y3]) →
        OutP base B W0 ((((w.setCell ⟨g, n * 4, none⟩ y0).setCell ⟨g, n * 4 + 1, none⟩ y1).setCell ⟨g, n * 4 + 2, none⟩ y2).setCell ⟨g, n * 4 + 3, none⟩ y3) (.slice a (n + 1) c) (acc ++ [t']) := by
  obtain ⟨es, hvl, hown, hall⟩ := h
  have hel : es.length = n + 1 := by rw [hvl, List.length_append, hn]; rfl
  obtain ⟨es0, e, rfl⟩ : ∃ es0 e, es = es0 ++ [e] := ⟨es.dropLast, es.getLast (fun h => by rw [h] at hel; cases hel), (List.dropLast_concat_getLast _).symm⟩
  have he0 : es0.length = n := by simpa using hel
  obtain ⟨ei, e0, e1, e2, e3⟩ := e
  rcases hown with ⟨hx, hown⟩
  rcases hown with ⟨h4, h5⟩ | ⟨g, cap, cur, h4, h5, h6, h7, h8, h9, h10⟩
  · rw [List.length_append] at h5
    simp at h5
  · rw [List.length_append, hn] at h4 h7 h10
    cases h4
    have hfl : (es0 ++ [(⟨ei, e0, e1, e2, e3⟩ : El)]).flatMap El.cs = es0.flatMap El.cs ++ [e0, e1, e2, e3] := by
      rw [List.flatMap_append]
      rfl
    have hA : (es0.flatMap El.cs).length = n * 4 := by rw [flat_len, he0]
    have hl1 : [t].length = 1 := rfl
    rw [hl1] at h7 h10
    have hcur : cur.toList = es0.flatMap El.cs ++ e0 :: e1 :: e2 :: e3 :: cur.toList.drop ((n + 1) * 4) := by
      have h := (List.take_append_drop ((n + 1) * 4) cur.toList).symm
      rw [h10, hfl, List.append_assoc] at h
      exact h
    have hget : ∀ i : Nat, cur[i]? = cur.toList[i]? := fun i => (Array.getElem?_toList ..).symm
    have cellAt : ∀ (i : Nat) (v : Value), cur.toList[i]? = some v → w.cell? ⟨g, i, none⟩ = some v := fun i v hv => by rw [cell_of h6, hget]; exact hv
    have at_ : ∀ (i : Nat) (v : Value), (e0 :: e1 :: e2 :: e3 :: cur.toList.drop ((n + 1) * 4))[i]? = some v → w.cell? ⟨g, n * 4 + i, none⟩ = some v := fun i v hv => cellAt _ _ (by
      rw [hcur, List.getElem?_append_right (by omega), hA, show n * 4 + i - n * 4 = i by omega]
      exact hv)
    refine ⟨g, rfl, h5, ⟨e0, e1, e2, e3, at_ 0 _ rfl, at_ 1 _ rfl, at_ 2 _ rfl, at_ 3 _ rfl⟩, ⟨free_of h6 _, free_of h6 _, free_of h6 _, free_of h6 _⟩, fun y0 y1 y2 y3 t' ht' => ?_⟩
    refine ⟨es0 ++ [⟨0, y0, y1, y2, y3⟩], by simp [he0, hn], ⟨?_, .inr ⟨g, c, _, by rw [List.length_append, hn]; rfl, h5, block_setCell (block_setCell (block_setCell (block_setCell h6 _ _) _ _) _ _) _ _, by rw [List.length_append, hn]; exact h7, h8, by simp only [Array.size_setIfInBounds]; exact h9, ?_⟩⟩, fun j t2 x hj hu => ?_⟩
    · rw [flat_len, List.length_append, List.length_append, he0, hn]
      rfl
    · simp only [Array.toList_setIfInBounds]
      rw [hcur, set_at hA, List.length_append, hn, List.flatMap_append]
      have e4 : (es0.flatMap El.cs ++ y0 :: y1 :: y2 :: y3 :: cur.toList.drop ((n + 1) * 4)) = (es0.flatMap El.cs ++ [y0, y1, y2, y3]) ++ cur.toList.drop ((n + 1) * 4) := by simp
      rw [e4]
      show ((es0.flatMap El.cs ++ [y0, y1, y2, y3]) ++ _).take ((n + 1) * 4) = _
      rw [List.take_left' (by rw [List.length_append, hA]; show n * 4 + 4 = _; omega)]
      rfl
    · rcases Nat.lt_or_ge j acc.length with hlt | hge
      · rw [List.getElem?_append_left hlt] at hj
        rw [List.getElem?_append_left (by omega)] at hu
        exact hall j t2 x (by rw [List.getElem?_append_left hlt]; exact hj) (by rw [List.getElem?_append_left (by omega)]; exact hu)
      · rw [List.getElem?_append_right hge] at hj
        rw [List.getElem?_append_right (by omega)] at hu
        have hj0 : j - acc.length = 0 := by
          have := (List.getElem?_eq_some_iff.1 hj).1
          simp at this
          omega
        rw [hj0] at hj
        rw [show j - es0.length = 0 by omega] at hu
        simp only [List.getElem?_cons_zero, Option.some.injEq] at hj hu
        subst hj hu
        exact ht'

set_option maxHeartbeats 1000000 in
set_option maxRecDepth 100000 in
theorem many_law_any (x : Int) (hx : (Lit.int .u8 x).wf = true) (y : Int) (hy : (Lit.int .u8 y).wf = true) (w : World) :
    Calls Try.prog 7 #[.int .u8 x, .int .u8 y] w (SaidT w true) := by
  have HCK : Hid (∀ (l' : List T) (a' : Option Addr) (n' cap' : Nat) (wh : Bool) (w' : World), l'.length = n' → partsL l' ≤ 1048576 → wfL [] l' → Row w.heap.size (fun _ => True) w' a' 0 l' → Fr No w w' → Calls Try.prog 11 #[.slice a' n' cap', .slice none 0 0, .bool wh] w' (SaidI w' (checkP [] l' wh))) :=
    Lib.hid (fun l' a' n' cap' wh w' h1 h2 h3 h4 h6 => check_any w.heap.size [] l' n' cap' 0 0 a' none wh w' h1 rfl (by omega) (by omega) h3 h4 (fun j x h => by simp at h) h6.size)
  have hx0 : 0 ≤ x ∧ x ≤ 255 := by simpa [Lit.wf, IntKind.min, IntKind.max, IntKind.signed, IntKind.bits] using hx
  obtain ⟨n, rfl⟩ : ∃ n : Nat, x = n := ⟨x.toNat, by omega⟩
  have hn : n ≤ 255 := by omega
  have hy0 : 0 ≤ y ∧ y ≤ 255 := by simpa [Lit.wf, IntKind.min, IntKind.max, IntKind.signed, IntKind.bits] using hy
  obtain ⟨yn, rfl⟩ : ∃ n : Nat, y = n := ⟨y.toNat, by omega⟩
  have hyn : yn ≤ 255 := by omega
  have hwn : IntKind.i64.wrap (n : Int) = (n : Int) := by rw [IntKind.wrap_i64]; omega
  have hwy : IntKind.i64.wrap (yn : Int) = (yn : Int) := by rw [IntKind.wrap_i64]; omega
  clear hx hy hx0 hy0
  go_enter Try.func7, Try.ntmps7
  go_wp2_with fail
  go_loopw [5, 6] (fun v i wr => ∃ k : Nat, k ≤ n ∧ i = .int .i64 k ∧ ∃ a c, v = .slice a k c ∧ Hid (OutP w.heap.size w.heap.size w wr (.slice a k c) (ints k)) ∧ Hid (Fr No w wr)) (fun _ i _ => n - (intOf i).toNat)
  case atStart => exact ⟨0, Nat.zero_le _, rfl, none, 0, rfl, Lib.hid (OutP.nil _ _ _ _), Lib.hid (Fr.refl _ _)⟩
  case round =>
    obtain ⟨k, hk, rfl, a, c, rfl, HO, HF⟩ := hrel
    by_cases hkn : k = n
    · subst hkn
      have HRW : Hid (∀ w', Fr No wr w' → Row w.heap.size (fun _ => True) w' a 0 (ints k)) := Lib.hid (fun w' hf => by
        obtain ⟨a', c', e, _, h⟩ := HO.out.row HF.out
        rw [ints_len] at e
        cases e
        exact row_keepNo h hf)
      by_cases h200 : 200 < k
      · have hd : decide ((200 : Int) < (k : Int)) = true := decide_eq_true (by omega)
        have E1 := Lib.hid (many_deep h200 false)
        have E2 := Lib.hid (many_deep h200 true)
        go_wp2_with fail
        refine (HCK.out (ints k) a (k) c false wr (ints_len k) (by rw [partsL_ints]; omega) (wf_ints (by omega)) (HRW.out _ (Fr.refl _ _)) HF.out).mono ?_
        rintro e w1 ⟨rfl, hf⟩
        have HF1 : Hid (Fr No w w1) := Lib.hid ((HF.out).then hf)
        have HD1 : Hid (Fr No wr w1) := Lib.hid hf
        clear hf
        rw [E1.out]
        go_wp2_with fail
        refine (HCK.out (ints k) a (k) c true w1 (ints_len k) (by rw [partsL_ints]; omega) (wf_ints (by omega)) (HRW.out _ HD1.out) HF1.out).mono ?_
        rintro e w2 ⟨rfl, hf⟩
        have HF2 : Hid (Fr No w w2) := Lib.hid ((HF1.out).then hf)
        have HD2 : Hid (Fr No wr w2) := Lib.hid (HD1.out.then hf)
        clear hf
        rw [E2.out]
        go_wp2_with fail
        refine (works_any _).mono ?_
        rintro e w3 ⟨rfl, hf3⟩
        have HF3 := Lib.hid (HF2.out.then hf3)
        clear hf3
        go_wp2_with fail
        go_ret
        exact ⟨rfl, HF3.out⟩
      · have hd : decide ((200 : Int) < (k : Int)) = false := decide_eq_false (by omega)
        have E1 := Lib.hid (many_all (n := k) (by omega)).1
        have E2 := Lib.hid (many_all (n := k) (by omega)).2
        by_cases h0 : k = 0
        · have hk0 : ((k : Int) == 0) = true := by simp [h0]
          clear h0
          go_wp2_with fail
          refine (HCK.out (ints k) a (k) c false wr (ints_len k) (by rw [partsL_ints]; omega) (wf_ints (by omega)) (HRW.out _ (Fr.refl _ _)) HF.out).mono ?_
          rintro e w1 ⟨rfl, hf⟩
          have HF1 : Hid (Fr No w w1) := Lib.hid ((HF.out).then hf)
          have HD1 : Hid (Fr No wr w1) := Lib.hid hf
          clear hf
          rw [E1.out]
          go_wp2_with fail
          refine (HCK.out (ints k) a (k) c true w1 (ints_len k) (by rw [partsL_ints]; omega) (wf_ints (by omega)) (HRW.out _ HD1.out) HF1.out).mono ?_
          rintro e w2 ⟨rfl, hf⟩
          have HF2 : Hid (Fr No w w2) := Lib.hid ((HF1.out).then hf)
          have HD2 : Hid (Fr No wr w2) := Lib.hid (HD1.out.then hf)
          clear hf
          rw [E2.out]
          go_wp2_with fail
          refine (works_any _).mono ?_
          rintro e w3 ⟨rfl, hf3⟩
          have HF3 := Lib.hid (HF2.out.then hf3)
          clear hf3
          go_wp2_with fail
          go_ret
          exact ⟨rfl, HF3.out⟩
        have hk0 : ((k : Int) == 0) = false := by simp only [beq_eq_false_iff_ne, ne_eq]; omega
        by_cases h2 : k = 200
        · have hk2 : ((k : Int) == 200) = true := by simp [h2]
          clear h2
          go_wp2_with fail
          refine (HCK.out (ints k) a (k) c false wr (ints_len k) (by rw [partsL_ints]; omega) (wf_ints (by omega)) (HRW.out _ (Fr.refl _ _)) HF.out).mono ?_
          rintro e w1 ⟨rfl, hf⟩
          have HF1 : Hid (Fr No w w1) := Lib.hid ((HF.out).then hf)
          have HD1 : Hid (Fr No wr w1) := Lib.hid hf
          clear hf
          rw [E1.out]
          go_wp2_with fail
          refine (HCK.out (ints k) a (k) c true w1 (ints_len k) (by rw [partsL_ints]; omega) (wf_ints (by omega)) (HRW.out _ HD1.out) HF1.out).mono ?_
          rintro e w2 ⟨rfl, hf⟩
          have HF2 : Hid (Fr No w w2) := Lib.hid ((HF1.out).then hf)
          have HD2 : Hid (Fr No wr w2) := Lib.hid (HD1.out.then hf)
          clear hf
          rw [E2.out]
          go_wp2_with fail
          refine (works_any _).mono ?_
          rintro e w3 ⟨rfl, hf3⟩
          have HF3 := Lib.hid (HF2.out.then hf3)
          clear hf3
          go_wp2_with fail
          go_ret
          exact ⟨rfl, HF3.out⟩
        have hk2 : ((k : Int) == 200) = false := by simp only [beq_eq_false_iff_ne, ne_eq]; omega
        have hlt200 : k < 200 := by omega
        obtain ⟨q, hq⟩ : ∃ q, yn % k = q := ⟨_, rfl⟩
        have hqk : q < k := by rw [← hq]; exact Nat.mod_lt _ (by omega)
        have hmod : Int.tmod (yn : Int) (k : Int) = (q : Int) := by rw [← hq]; rfl
        have hwq : IntKind.i64.wrap (q : Int) = (q : Int) := by rw [IntKind.wrap_i64]; omega
        have hqk' : (q : Int) < (k : Int) := by omega
        have E3 := Lib.hid (many_twice hlt200 hqk)
        have E4 := Lib.hid (many_wild hlt200)
        clear hq h200
        go_wp2_with fail
        refine (HCK.out (ints k) a (k) c false wr (ints_len k) (by rw [partsL_ints]; omega) (wf_ints (by omega)) (HRW.out _ (Fr.refl _ _)) HF.out).mono ?_
        rintro e w1 ⟨rfl, hf⟩
        have HF1 : Hid (Fr No w w1) := Lib.hid ((HF.out).then hf)
        have HD1 : Hid (Fr No wr w1) := Lib.hid hf
        clear hf
        rw [E1.out]
        go_wp2_with fail
        refine (HCK.out (ints k) a (k) c true w1 (ints_len k) (by rw [partsL_ints]; omega) (wf_ints (by omega)) (HRW.out _ HD1.out) HF1.out).mono ?_
        rintro e w2 ⟨rfl, hf⟩
        have HF2 : Hid (Fr No w w2) := Lib.hid ((HF1.out).then hf)
        have HD2 : Hid (Fr No wr w2) := Lib.hid (HD1.out.then hf)
        clear hf
        rw [E2.out]
        obtain ⟨b, off, x0, x1, x2, x3, ha, j1, j2, d0, d1, d2, d3, his⟩ := Row.at_ 0 _ (HRW.out _ HD2.out) q _ (ints_at hqk)
        subst ha
        rw [Nat.zero_add] at d0 d1 d2 d3
        obtain ⟨kx, sx, nx, ax, mx, cx, rfl, rfl, rfl, rfl⟩ := is_cells his
        obtain ⟨rx, hrx, hm, hr⟩ := is_mk his
        simp only [intP, T.mk.injEq] at hrx
        obtain ⟨rfl, rfl, rfl, rfl⟩ := hrx
        subst hm
        have HO2 := Lib.hid (HO.out.no HD2.out)
        clear j1 j2 his hr
        go_wp2_with (at_builtin; refine wpList_pat1 rfl _ _ rfl w.heap.size w.heap.size w (.slice (some ⟨b, off, none⟩) k c) (ints k) rfl (HO2.out.no (Fr.alloc _ _)) w2.heap.size 3 ⟨#[]⟩ ((q : Int) - 100) ax 0 cx rfl (new_block w2 _) (intP ((q : Int) - 100)) (by simp only [IsT, intP, Is]; exact ⟨ax, cx, rfl, by simp [Row]⟩) (by rw [ints_len]; omega) (Nat.le_trans HF2.out.size (Fr.alloc _ (.cells #[.int .u8 3, .string ⟨#[]⟩, .int .i64 ((q : Int) - 100), .slice ax 0 cx] 40)).size) ?_; rw [ints_len]; intro a3 c3 w3 HO3 HFB3)
        have HF3 : Hid (Fr No w w3) := Lib.hid ((HF2.out.then (Fr.alloc _ _)).own HFB3.out (fun i h => h.1))
        have HL3 : Hid ((ints k ++ [intP ((q : Int) - 100)]).length = k + 1) := Lib.hid (by rw [List.length_append, ints_len]; rfl)
        have HR3 : Hid (Row w.heap.size (fun _ => True) w3 a3 0 (ints k ++ [intP ((q : Int) - 100)])) := Lib.hid (by
          obtain ⟨a', c', e, _, h⟩ := HO3.out.row HF3.out
          rw [HL3.out] at e
          cases e
          exact h)
        clear HFB3 HO2 HRW HO d0 d1 d2 d3
        refine (HCK.out (ints k ++ [intP ((q : Int) - 100)]) a3 (k + 1) c3 false w3 HL3.out (by rw [partsL_append, partsL_ints]; show k + 1 ≤ _; omega) (wfL_app (wf_ints (by omega)) ⟨wf_int (by omega), trivial⟩) HR3.out HF3.out).mono ?_
        rintro e w4 ⟨rfl, hf⟩
        have HF4 := Lib.hid (HF3.out.then hf)
        have HO4 := Lib.hid (HO3.out.no hf)
        clear hf HR3 HO3
        rw [E3.out]
        go_wp2_with fail
        refine (wildf_any _).mono ?_
        rintro e w5 ⟨rfl, hf⟩
        have HF5 := Lib.hid (HF4.out.then hf)
        obtain ⟨g, ha, hg, ⟨y0, y1, y2, y3, z0, z1, z2, z3⟩, ⟨f0, f1, f2, f3⟩, hset⟩ := (HO4.out.no hf).last (ints_len k)
        subst ha
        have HSET := Lib.hid (hset (.int .u8 1) (.string ⟨#[]⟩) (.int .i64 0) (.slice none 0 0) anyP (is_anyP w))
        have hk1 : (k : Int) < ((k + 1 : Nat) : Int) := by omega
        clear hf hset HO4
        go_upto_region 18 with fail
        obtain ⟨w6, hw6⟩ : ∃ w6, ((((w5.setCell ⟨g, k * 4, none⟩ (.int .u8 1)).setCell ⟨g, k * 4 + 1, none⟩ (.string ⟨#[]⟩)).setCell ⟨g, k * 4 + 2, none⟩ (.int .i64 0)).setCell ⟨g, k * 4 + 3, none⟩ (.slice none 0 0)) = w6 := ⟨_, rfl⟩
        have HF6 : Hid (Fr No w w6) := Lib.hid (by
          rw [← hw6]
          refine HF5.out.own (T := Just g) ?_ (fun i e => by rw [e]; exact hg)
          exact fr_four_at w5 g _ _ _ _ _ _ _ _)
        rw [hw6] at HSET ⊢
        have HL6 : Hid ((ints k ++ [anyP]).length = k + 1) := Lib.hid (by rw [List.length_append, ints_len]; rfl)
        have HR6 : Hid (Row w.heap.size (fun _ => True) w6 (some ⟨g, 0, none⟩) 0 (ints k ++ [anyP])) := Lib.hid (by
          obtain ⟨a', c', e, _, h⟩ := HSET.out.row HF6.out
          rw [HL6.out] at e
          cases e
          exact h)
        clear hw6 HSET z0 z1 z2 z3 f0 f1 f2 f3
        go_wp2_with fail
        refine (HCK.out (ints k ++ [anyP]) _ (k + 1) c3 true w6 HL6.out (by rw [partsL_append, partsL_ints]; show k + 1 ≤ _; omega) (wfL_app (wf_ints (by omega)) ⟨wf_any0, trivial⟩) HR6.out HF6.out).mono ?_
        rintro e w7 ⟨rfl, hf⟩
        have HF7 := Lib.hid (HF6.out.then hf)
        clear hf HR6
        rw [E4.out]
        go_wp2_with fail
        refine (works_any _).mono ?_
        rintro e w8 ⟨rfl, hf⟩
        have HF8 := Lib.hid (HF7.out.then hf)
        clear hf
        go_wp2_with fail
        go_ret
        exact ⟨rfl, HF8.out⟩
    · have hlt : (k : Int) < (n : Int) := by omega
      have hwk : IntKind.i64.wrap ((k : Int) - 100) = (k : Int) - 100 := by rw [IntKind.wrap_i64]; omega
      go_wp2_with (at_builtin; refine wpList_pat1 rfl _ _ rfl w.heap.size w.heap.size w (.slice a k c) (ints k) rfl (HO.out.no (Fr.alloc _ _)) wr.heap.size 3 ⟨#[]⟩ ((k : Int) - 100) none 0 0 rfl (new_block wr _) (intP ((k : Int) - 100)) (is_none' _ _ _) (by rw [ints_len]; omega) (Nat.le_trans HF.out.size (Fr.alloc _ (.cells #[.int .u8 3, .string ⟨#[]⟩, .int .i64 ((k : Int) - 100), .slice none 0 0] 40)).size) ?_; rw [ints_len]; intro a3 c3 w3 HO3 HF3)
      refine ⟨⟨k + 1, by omega, by go_num, a3, c3, rfl, Lib.hid (by rw [ints_succ]; exact HO3.out), Lib.hid ((HF.out.then (Fr.alloc _ _)).own HF3.out (fun i h => h.1))⟩, by simp [intOf]; omega⟩
end Go.Proofs.Ythjecikdkdjlaaa
