/- Does a pattern take a value? The law's own function. -/
import Derived.Test.YthjecikdkdjlaaaVa
import Derived.Deep.CutRange
import Derived.Deep.CutBlock
namespace Go.Proofs.Ythjecikdkdjlaaa
open Go.RowKit

theorem tkL_step {l : List T} {vs : List V} {i : Nat} {t : T} {u : V} (ht : l[i]? = some t) (hu : vs[i]? = some u) : tkL (l.take (i + 1)) (vs.take (i + 1)) = (tkL (l.take i) (vs.take i) && tk t u) := by
  have h1 := (List.getElem?_eq_some_iff.1 ht).1
  have h2 := (List.getElem?_eq_some_iff.1 hu).1
  rw [take_snoc ht, take_snoc hu, tkL_append _ _ _ _ (by rw [List.length_take, List.length_take]; omega)]
  simp only [tkL, Bool.and_true]
theorem tkL_fails {l : List T} {vs : List V} {i : Nat} {t : T} {u : V} (ht : l[i]? = some t) (hu : vs[i]? = some u) (hl : l.length = vs.length) (h : tk t u = false) : tkL l vs = false := by
  have h1 := (List.getElem?_eq_some_iff.1 ht).1
  have e1 : l = l.take (i + 1) ++ l.drop (i + 1) := (List.take_append_drop _ l).symm
  have e2 : vs = vs.take (i + 1) ++ vs.drop (i + 1) := (List.take_append_drop _ vs).symm
  have h3 := tkL_append (l.take (i + 1)) (l.drop (i + 1)) (vs.take (i + 1)) (vs.drop (i + 1)) (by rw [List.length_take, List.length_take]; omega)
  rw [← e1, ← e2, tkL_step ht hu, h, Bool.and_false, Bool.false_and] at h3
  exact h3
set_option maxHeartbeats 2000000 in
set_option maxRecDepth 100000 in
theorem takes_any (base : Nat) (ok : Nat → Prop) : ∀ (F : Nat) (p : T), parts p < F → F ≤ 1000000 → ∀ (v : V) (vp vv : Value) (w : World), IsT base w p vp → IsV ok w v vv → Calls Try.prog 15 #[vp, vv] w (SaidT w (tk p v))
  | 0, _, h, _, _, _, _, _, _, _ => absurd h (Nat.not_lt_zero _)
  | F + 1, p, hF, hFm, v, vp, vv, w, hp, hv => by
    obtain ⟨x0, x1, x2, x3, rfl⟩ := is_agg hp
    obtain ⟨k, s, n, ak, m, ck, rfl, rfl, rfl, rfl⟩ := is_cells hp
    obtain ⟨l, rfl, hm, hrow⟩ := is_mk hp
    obtain ⟨sv, nv, lv⟩ := v
    simp only [IsV] at hv
    obtain ⟨av, cv, rfl, hnv, hrv⟩ := hv
    have HI : Hid (∀ (j : Nat) (t : T) (u : V) (vt vu : Value) (w' : World), l[j]? = some t → lv[j]? = some u → IsT base w' t vt → IsV ok w' u vu → Calls Try.prog 15 #[vt, vu] w' (SaidT w' (tk t u))) := Lib.hid (fun j t u vt vu w' h1 h2 h3 h4 => takes_any base ok F t (by
      have := parts_kid l j t h1
      simp only [parts] at hF
      omega) (by omega) u vt vu w' h3 h4)
    have hml : m ≤ 1000000 := by
      have := partsL_len l
      simp only [parts] at hF
      omega
    obtain ⟨mv, hmv⟩ : ∃ mv, lv.length = mv := ⟨_, rfl⟩
    rw [hmv]
    have HM := Lib.hid hm
    have HMV := Lib.hid hmv
    have HROW := Lib.hid hrow
    have HRV := Lib.hid hrv
    obtain ⟨R, hR⟩ : ∃ R, tk (.mk k s n l) (.mk sv nv lv) = R := ⟨_, rfl⟩
    rw [hR]
    have HR := Lib.hid hR
    obtain ⟨w1, hw1⟩ : ∃ w1, w.alloc (.cells #[.int .u8 k, .string s, .int .i64 n, .slice ak m ck] 40) = w1 := ⟨_, rfl⟩
    obtain ⟨gp, hgp⟩ : ∃ gp, w.heap.size = gp := ⟨_, rfl⟩
    obtain ⟨w0, hw0⟩ : ∃ w0, w1.alloc (.cells #[.string sv, .int .i64 nv, .slice av mv cv] 36) = w0 := ⟨_, rfl⟩
    obtain ⟨gv, hgv⟩ : ∃ gv, w1.heap.size = gv := ⟨_, rfl⟩
    have HF0 : Hid (Fr No w w0) := Lib.hid (by rw [← hw0, ← hw1]; exact (Fr.alloc _ _).then (Fr.alloc _ _))
    have RP : Hid (w0.heap[gp]? = some (.cells #[.int .u8 k, .string s, .int .i64 n, .slice ak m ck] 40 (0, 0))) := Lib.hid (by rw [← hw0, ← hgp]; exact (Fr.alloc _ _).keeps (by rw [← hw1]; exact new_block _ _) no_one)
    have RV : Hid (w0.heap[gv]? = some (.cells #[.string sv, .int .i64 nv, .slice av mv cv] 36 (0, 0))) := Lib.hid (by rw [← hw0, ← hgv]; exact new_block _ _)
    have e1 : w.heap.size + 1 = w1.heap.size := by rw [← hw1]; exact (size_alloc _ _).symm
    clear hm hmv hrow hrv hR hnv hp hF
    go_enter Try.func15, Try.ntmps15
    go_upto_region 1 with fail
    (try rw [hw1])
    (try rw [e1])
    (try rw [hw0])
    (try rw [hgp])
    (try rw [hgv])
    clear hw1 hw0 hgp hgv e1
    have p0 : w0.cell? ⟨gp, 0, none⟩ = some (.int .u8 k) := cell_of RP.out 0
    have p1 : w0.cell? ⟨gp, 1, none⟩ = some (.string s) := cell_of RP.out 1
    have p2 : w0.cell? ⟨gp, 2, none⟩ = some (.int .i64 n) := cell_of RP.out 2
    have p3 : w0.cell? ⟨gp, 3, none⟩ = some (.slice ak m ck) := cell_of RP.out 3
    have v0 : w0.cell? ⟨gv, 0, none⟩ = some (.string sv) := cell_of RV.out 0
    have v1 : w0.cell? ⟨gv, 1, none⟩ = some (.int .i64 nv) := cell_of RV.out 1
    have v2 : w0.cell? ⟨gv, 2, none⟩ = some (.slice av mv cv) := cell_of RV.out 2
    by_cases h1 : k = 1
    · subst h1
      go_wp2_with fail
      go_ret
      exact ⟨by rw [← HR.out]; rfl, HF0.out⟩
    by_cases h2 : k = 2
    · subst h2
      go_wp2_with fail
      go_ret
      exact ⟨by rw [← HR.out]; rfl, HF0.out⟩
    have hb1 : ((k : Int) == 1) = false := by simp only [beq_eq_false_iff_ne, ne_eq]; omega
    have hb2 : ((k : Int) == 2) = false := by simp only [beq_eq_false_iff_ne, ne_eq]; omega
    have HK12 : Hid (¬ (k = 1 ∨ k = 2)) := Lib.hid (by omega)
    clear h1 h2
    by_cases h3 : k = 3
    · subst h3
      by_cases he : sv = ⟨#[]⟩
      · have hb : (sv.toList == (⟨#[]⟩ : ByteArray).toList) = true := by rw [bytes_eq_iff]; exact decide_eq_true he
        have HE : Hid ((n == nv) = R) := Lib.hid (by
          rw [← HR.out, tk, if_neg (by decide), if_pos rfl]
          simp only [V.name, V.num, he, decide_true, Bool.true_and]
          by_cases h : n = nv <;> simp [h])
        subst he
        go_wp2_with fail
        go_ret
        exact ⟨by rw [← HE.out]; rfl, HF0.out⟩
      · have hb : sv.toList.isEmpty = false := by
          cases hl : sv.toList with
          | nil => exact absurd (bytes_inj (hl.trans (show ([] : List UInt8) = (⟨#[]⟩ : ByteArray).toList by first | kernel_rfl | simp))) he
          | cons _ _ => rfl
        have HE : Hid (R = false) := Lib.hid (by rw [← HR.out]; simp [tk, V.name, V.num, he])
        clear he
        go_wp2_with fail
        go_ret
        exact ⟨by rw [HE.out]; rfl, HF0.out⟩
    have hb3 : ((k : Int) == 3) = false := by simp only [beq_eq_false_iff_ne, ne_eq]; omega
    by_cases h56 : k = 5 ∨ k = 6
    · by_cases hgo : m = mv ∧ (k = 6 → s = sv)
      · obtain ⟨rfl, hss⟩ := hgo
        have HR2 : Hid (tkL l lv = R) := Lib.hid (by
          rw [← HR.out, tk, if_neg HK12.out, if_neg h3]
          rcases h56 with rfl | rfl
          · rw [if_neg (by decide), if_pos rfl]
            simp [V.kids, HM.out, HMV.out]
          · rw [if_pos rfl]
            simp [V.kids, V.name, HM.out, HMV.out, hss rfl])
        go_upto_block 0 with fail
        go_cut [] from 8 to 47 (fun wx => Hid (wx = w0))
        case first =>
          rcases h56 with rfl | rfl
          · go_wp2_with fail
            go_meet
            exact Lib.hid rfl
          · have hs := hss rfl
            subst hs
            go_wp2_with fail
            go_meet
            exact Lib.hid rfl
        case rest =>
          obtain rfl := hcut.out
          clear p0 p1 p2 p3 v0 v1 v2 hcut hss h56 HR HK12 h3 hb1 hb2 hb3
          go_wp2_with fail
          go_loopw [5] (fun v wr => ∃ i : Nat, i ≤ m ∧ v = .int .i64 i ∧ Hid (Fr No wc wr) ∧ Hid (tkL (l.take i) (lv.take i) = true)) (fun v _ => m - (intOf v).toNat)
          case atStart => exact ⟨0, Nat.zero_le _, rfl, Lib.hid (Fr.refl _ _), Lib.hid rfl⟩
          case round =>
            obtain ⟨i, hi, rfl, HF, HT0⟩ := hrel
            have p3 : wr.cell? ⟨gp, 3, none⟩ = some (.slice ak m ck) := cell_of (HF.out.keeps RP.out no_one) 3
            have v2 : wr.cell? ⟨gv, 2, none⟩ = some (.slice av m cv) := cell_of (HF.out.keeps RV.out no_one) 2
            by_cases him : i = m
            · have HE : Hid (R = true) := Lib.hid (by
                rw [← HR2.out, ← HT0.out, him, List.take_of_length_le (Nat.le_of_eq HM.out), List.take_of_length_le (Nat.le_of_eq HMV.out)])
              subst him
              go_wp2_with fail
              go_ret
              exact ⟨by rw [HE.out]; rfl, HF0.out.then HF.out⟩
            · obtain ⟨t, ht⟩ : ∃ t, l[i]? = some t := ⟨_, List.getElem?_eq_getElem (by rw [HM.out]; omega)⟩
              obtain ⟨tv, hu⟩ : ∃ tv, lv[i]? = some tv := ⟨_, List.getElem?_eq_getElem (by rw [HMV.out]; omega)⟩
              obtain ⟨b, off, x0, x1, x2, x3, ha, j1, j2, d0, d1, d2, d3, his⟩ := Row.at_ 0 l (row_keepNo HROW.out (HF0.out.then HF.out)) i t ht
              obtain ⟨b2, off2, y0, y1, y2, ha2, j3, e0, e1, e2, hiv⟩ := RowW.at_ 0 lv (HRV.out.no (HF0.out.then HF.out)) i tv hu
              subst ha ha2
              rw [Nat.zero_add] at d0 d1 d2 d3 e0 e1 e2
              obtain ⟨k1, s1, n1, a1, m1, c1, rfl, rfl, rfl, rfl⟩ := is_cells his
              obtain ⟨s2, n2, a2, m2, c2, l2, rfl, rfl, rfl, _, _, _, _⟩ := isV_cells hiv
              have HT := Lib.hid ht
              have HU := Lib.hid hu
              have HP1 : Hid (IsT base wr t (.agg #[.int .u8 k1, .string s1, .int .i64 n1, .slice a1 m1 c1])) := Lib.hid his
              have HV1 := Lib.hid hiv
              have hlt : (i : Int) < (m : Int) := by omega
              have HS : Hid (∀ w', Fr No wr w' → w'.cell? ⟨gp, 3, none⟩ = some (.slice (some ⟨b, off, none⟩) m ck) ∧ w'.cell? ⟨gv, 2, none⟩ = some (.slice (some ⟨b2, off2, none⟩) m cv) ∧ w'.cell? ⟨b, off + i * 4, none⟩ = some (.int .u8 k1) ∧ w'.cell? ⟨b, off + i * 4 + 1, none⟩ = some (.string s1) ∧ w'.cell? ⟨b, off + i * 4 + 2, none⟩ = some (.int .i64 n1) ∧ w'.cell? ⟨b, off + i * 4 + 3, none⟩ = some (.slice a1 m1 c1) ∧ w'.cell? ⟨b2, off2 + i * 3, none⟩ = some (.string s2) ∧ w'.cell? ⟨b2, off2 + i * 3 + 1, none⟩ = some (.int .i64 n2) ∧ w'.cell? ⟨b2, off2 + i * 3 + 2, none⟩ = some (.slice a2 m2 c2)) := Lib.hid (fun w' hf => ⟨hf.cell p3, hf.cell v2, hf.cell d0, hf.cell d1, hf.cell d2, hf.cell d3, hf.cell e0, hf.cell e1, hf.cell e2⟩)
              clear ht hu his hiv d0 d1 d2 d3 e0 e1 e2 j1 j2 j3
              go_upto_region 17 with fail
              have HB0 : Hid (l.length = lv.length) := Lib.hid (HM.out.trans HMV.out.symm)
              cases hB : tk t tv with
              | false =>
                have HB := Lib.hid hB
                have HE : Hid (R = false) := Lib.hid (by rw [← HR2.out]; exact tkL_fails HT.out HU.out HB0.out hB)
                clear hB
                refine region_e (fun w' => w'.cell? ⟨gp, 3, none⟩ = some (.slice (some ⟨b, off, none⟩) m ck) ∧ w'.cell? ⟨gv, 2, none⟩ = some (.slice (some ⟨b2, off2, none⟩) m cv) ∧ w'.cell? ⟨b, off + i * 4, none⟩ = some (.int .u8 k1) ∧ w'.cell? ⟨b, off + i * 4 + 1, none⟩ = some (.string s1) ∧ w'.cell? ⟨b, off + i * 4 + 2, none⟩ = some (.int .i64 n1) ∧ w'.cell? ⟨b, off + i * 4 + 3, none⟩ = some (.slice a1 m1 c1) ∧ w'.cell? ⟨b2, off2 + i * 3, none⟩ = some (.string s2) ∧ w'.cell? ⟨b2, off2 + i * 3 + 1, none⟩ = some (.int .i64 n2) ∧ w'.cell? ⟨b2, off2 + i * 3 + 2, none⟩ = some (.slice a2 m2 c2)) [] (by kernel_rfl) ?_ (fun hHeld => ?_)
                · exact HS.out _ (Fr.drew _)
                refine take_op 0 (some 55) (Op.fieldAddr 40 ( .tmp 2) 3) 0 ?_ (by kernel_rfl) (by kernel_rfl) (by kernel_rfl) (fun _ _ _ h => h) ?_ (by assumption) ?_
                rotate_left
                · intro w hSw; (try dsimp only at hSw); go_simp; (try (with_reducible rfl))
                try simp only [Act.put, List.setIfInBounds_toArray, List.set_cons_zero, List.set_cons_succ]
                refine take_op 1 (some 56) (Op.load 22 ( .tmp 55)) 22 ?_ (by kernel_rfl) (by kernel_rfl) (by kernel_rfl) (fun _ _ _ h => h) ?_ (by assumption) ?_
                rotate_left
                · intro w hSw; (try dsimp only at hSw); go_simp; (try (with_reducible rfl))
                try simp only [Act.put, List.setIfInBounds_toArray, List.set_cons_zero, List.set_cons_succ]
                refine take_op 2 (some 57) (Op.move ( .tmp 5)) 3 ?_ (by kernel_rfl) (by kernel_rfl) (by kernel_rfl) (fun _ _ _ h => h) ?_ (by assumption) ?_
                rotate_left
                · intro w hSw; (try dsimp only at hSw); go_simp; (try (with_reducible rfl))
                try simp only [Act.put, List.setIfInBounds_toArray, List.set_cons_zero, List.set_cons_succ]
                refine take_op 3 (some 58) (Op.indexAddr 22 ( .tmp 56) ( .tmp 57)) 0 ?_ (by kernel_rfl) (by kernel_rfl) (by kernel_rfl) (fun _ _ _ h => h) ?_ (by assumption) ?_
                rotate_left
                · intro w hSw; (try dsimp only at hSw); go_simp; (try (with_reducible rfl))
                try simp only [Act.put, List.setIfInBounds_toArray, List.set_cons_zero, List.set_cons_succ]
                refine take_op 4 (some 59) (Op.load 40 ( .tmp 58)) 40 ?_ (by kernel_rfl) (by kernel_rfl) (by kernel_rfl) (fun _ _ _ h => h) ?_ (by assumption) ?_
                rotate_left
                · intro w hSw; (try dsimp only at hSw); go_simp; (try (with_reducible rfl))
                try simp only [Act.put, List.setIfInBounds_toArray, List.set_cons_zero, List.set_cons_succ]
                refine take_op 5 (some 60) (Op.fieldAddr 36 ( .tmp 3) 2) 0 ?_ (by kernel_rfl) (by kernel_rfl) (by kernel_rfl) (fun _ _ _ h => h) ?_ (by assumption) ?_
                rotate_left
                · intro w hSw; (try dsimp only at hSw); go_simp; (try (with_reducible rfl))
                try simp only [Act.put, List.setIfInBounds_toArray, List.set_cons_zero, List.set_cons_succ]
                refine take_op 6 (some 61) (Op.load 34 ( .tmp 60)) 34 ?_ (by kernel_rfl) (by kernel_rfl) (by kernel_rfl) (fun _ _ _ h => h) ?_ (by assumption) ?_
                rotate_left
                · intro w hSw; (try dsimp only at hSw); go_simp; (try (with_reducible rfl))
                try simp only [Act.put, List.setIfInBounds_toArray, List.set_cons_zero, List.set_cons_succ]
                refine take_op 7 (some 62) (Op.move ( .tmp 5)) 3 ?_ (by kernel_rfl) (by kernel_rfl) (by kernel_rfl) (fun _ _ _ h => h) ?_ (by assumption) ?_
                rotate_left
                · intro w hSw; (try dsimp only at hSw); go_simp; (try (with_reducible rfl))
                try simp only [Act.put, List.setIfInBounds_toArray, List.set_cons_zero, List.set_cons_succ]
                refine take_op 8 (some 63) (Op.indexAddr 34 ( .tmp 61) ( .tmp 62)) 0 ?_ (by kernel_rfl) (by kernel_rfl) (by kernel_rfl) (fun _ _ _ h => h) ?_ (by assumption) ?_
                rotate_left
                · intro w hSw; (try dsimp only at hSw); go_simp; (try (with_reducible rfl))
                try simp only [Act.put, List.setIfInBounds_toArray, List.set_cons_zero, List.set_cons_succ]
                refine take_op 9 (some 64) (Op.load 36 ( .tmp 63)) 36 ?_ (by kernel_rfl) (by kernel_rfl) (by kernel_rfl) (fun _ _ _ h => h) ?_ (by assumption) ?_
                rotate_left
                · intro w hSw; (try dsimp only at hSw); go_simp; (try (with_reducible rfl))
                try simp only [Act.put, List.setIfInBounds_toArray, List.set_cons_zero, List.set_cons_succ]
                refine ready_e (rs := [10]) (by kernel_rfl) (by simp) ?_
                refine (do_mid (o := _) rfl (fun K hK => ?_) none_e) -- [(65, 'F15')]
                go_simp
                go_at_call 15
                refine (HI.out i _ _ _ _ wr.drew HT.out HU.out (HP1.out.no ((Fr.drew wr))) (HV1.out.no ((Fr.drew wr)))).mono ?_
                rintro e' wz1 ⟨rfl, hf⟩
                have HZ1 : Hid (Fr No wr wz1) := Lib.hid (((Fr.drew wr)).then hf)
                have DZ1 : Hid (Fr No (wr.drew) wz1) := Lib.hid hf
                clear hf
                rw [HB.out]
                refine hK.out _ _ ?_ (fun hHeld => ?_)
                · exact HS.out _ HZ1.out
                clear hK K
                try dsimp only
                try simp only [Act.put, List.setIfInBounds_toArray, List.set_cons_zero, List.set_cons_succ]
                refine take_op 11 (some 66) (Op.unOp UnOp.not 4 ( .tmp 65)) 4 ?_ (by kernel_rfl) (by kernel_rfl) (by kernel_rfl) (fun _ _ _ h => h) ?_ (by assumption) ?_
                rotate_left
                · intro w hSw; (try dsimp only at hSw); go_simp; (try (with_reducible rfl))
                try simp only [Act.put, List.setIfInBounds_toArray, List.set_cons_zero, List.set_cons_succ]
                refine done_e (by kernel_rfl) ?_ _
                (try simp only [Exit.inBlock, Exit.then])
                go_wp2_with fail
                go_ret
                exact ⟨by rw [HE.out]; rfl, (HF0.out.then HF.out).then (HZ1.out)⟩
              | true =>
                have HB := Lib.hid hB
                clear hB
                refine region_e (fun w' => w'.cell? ⟨gp, 3, none⟩ = some (.slice (some ⟨b, off, none⟩) m ck) ∧ w'.cell? ⟨gv, 2, none⟩ = some (.slice (some ⟨b2, off2, none⟩) m cv) ∧ w'.cell? ⟨b, off + i * 4, none⟩ = some (.int .u8 k1) ∧ w'.cell? ⟨b, off + i * 4 + 1, none⟩ = some (.string s1) ∧ w'.cell? ⟨b, off + i * 4 + 2, none⟩ = some (.int .i64 n1) ∧ w'.cell? ⟨b, off + i * 4 + 3, none⟩ = some (.slice a1 m1 c1) ∧ w'.cell? ⟨b2, off2 + i * 3, none⟩ = some (.string s2) ∧ w'.cell? ⟨b2, off2 + i * 3 + 1, none⟩ = some (.int .i64 n2) ∧ w'.cell? ⟨b2, off2 + i * 3 + 2, none⟩ = some (.slice a2 m2 c2)) [] (by kernel_rfl) ?_ (fun hHeld => ?_)
                · exact HS.out _ (Fr.drew _)
                refine take_op 0 (some 55) (Op.fieldAddr 40 ( .tmp 2) 3) 0 ?_ (by kernel_rfl) (by kernel_rfl) (by kernel_rfl) (fun _ _ _ h => h) ?_ (by assumption) ?_
                rotate_left
                · intro w hSw; (try dsimp only at hSw); go_simp; (try (with_reducible rfl))
                try simp only [Act.put, List.setIfInBounds_toArray, List.set_cons_zero, List.set_cons_succ]
                refine take_op 1 (some 56) (Op.load 22 ( .tmp 55)) 22 ?_ (by kernel_rfl) (by kernel_rfl) (by kernel_rfl) (fun _ _ _ h => h) ?_ (by assumption) ?_
                rotate_left
                · intro w hSw; (try dsimp only at hSw); go_simp; (try (with_reducible rfl))
                try simp only [Act.put, List.setIfInBounds_toArray, List.set_cons_zero, List.set_cons_succ]
                refine take_op 2 (some 57) (Op.move ( .tmp 5)) 3 ?_ (by kernel_rfl) (by kernel_rfl) (by kernel_rfl) (fun _ _ _ h => h) ?_ (by assumption) ?_
                rotate_left
                · intro w hSw; (try dsimp only at hSw); go_simp; (try (with_reducible rfl))
                try simp only [Act.put, List.setIfInBounds_toArray, List.set_cons_zero, List.set_cons_succ]
                refine take_op 3 (some 58) (Op.indexAddr 22 ( .tmp 56) ( .tmp 57)) 0 ?_ (by kernel_rfl) (by kernel_rfl) (by kernel_rfl) (fun _ _ _ h => h) ?_ (by assumption) ?_
                rotate_left
                · intro w hSw; (try dsimp only at hSw); go_simp; (try (with_reducible rfl))
                try simp only [Act.put, List.setIfInBounds_toArray, List.set_cons_zero, List.set_cons_succ]
                refine take_op 4 (some 59) (Op.load 40 ( .tmp 58)) 40 ?_ (by kernel_rfl) (by kernel_rfl) (by kernel_rfl) (fun _ _ _ h => h) ?_ (by assumption) ?_
                rotate_left
                · intro w hSw; (try dsimp only at hSw); go_simp; (try (with_reducible rfl))
                try simp only [Act.put, List.setIfInBounds_toArray, List.set_cons_zero, List.set_cons_succ]
                refine take_op 5 (some 60) (Op.fieldAddr 36 ( .tmp 3) 2) 0 ?_ (by kernel_rfl) (by kernel_rfl) (by kernel_rfl) (fun _ _ _ h => h) ?_ (by assumption) ?_
                rotate_left
                · intro w hSw; (try dsimp only at hSw); go_simp; (try (with_reducible rfl))
                try simp only [Act.put, List.setIfInBounds_toArray, List.set_cons_zero, List.set_cons_succ]
                refine take_op 6 (some 61) (Op.load 34 ( .tmp 60)) 34 ?_ (by kernel_rfl) (by kernel_rfl) (by kernel_rfl) (fun _ _ _ h => h) ?_ (by assumption) ?_
                rotate_left
                · intro w hSw; (try dsimp only at hSw); go_simp; (try (with_reducible rfl))
                try simp only [Act.put, List.setIfInBounds_toArray, List.set_cons_zero, List.set_cons_succ]
                refine take_op 7 (some 62) (Op.move ( .tmp 5)) 3 ?_ (by kernel_rfl) (by kernel_rfl) (by kernel_rfl) (fun _ _ _ h => h) ?_ (by assumption) ?_
                rotate_left
                · intro w hSw; (try dsimp only at hSw); go_simp; (try (with_reducible rfl))
                try simp only [Act.put, List.setIfInBounds_toArray, List.set_cons_zero, List.set_cons_succ]
                refine take_op 8 (some 63) (Op.indexAddr 34 ( .tmp 61) ( .tmp 62)) 0 ?_ (by kernel_rfl) (by kernel_rfl) (by kernel_rfl) (fun _ _ _ h => h) ?_ (by assumption) ?_
                rotate_left
                · intro w hSw; (try dsimp only at hSw); go_simp; (try (with_reducible rfl))
                try simp only [Act.put, List.setIfInBounds_toArray, List.set_cons_zero, List.set_cons_succ]
                refine take_op 9 (some 64) (Op.load 36 ( .tmp 63)) 36 ?_ (by kernel_rfl) (by kernel_rfl) (by kernel_rfl) (fun _ _ _ h => h) ?_ (by assumption) ?_
                rotate_left
                · intro w hSw; (try dsimp only at hSw); go_simp; (try (with_reducible rfl))
                try simp only [Act.put, List.setIfInBounds_toArray, List.set_cons_zero, List.set_cons_succ]
                refine ready_e (rs := [10]) (by kernel_rfl) (by simp) ?_
                refine (do_mid (o := _) rfl (fun K hK => ?_) none_e) -- [(65, 'F15')]
                go_simp
                go_at_call 15
                refine (HI.out i _ _ _ _ wr.drew HT.out HU.out (HP1.out.no ((Fr.drew wr))) (HV1.out.no ((Fr.drew wr)))).mono ?_
                rintro e' wz1 ⟨rfl, hf⟩
                have HZ1 : Hid (Fr No wr wz1) := Lib.hid (((Fr.drew wr)).then hf)
                have DZ1 : Hid (Fr No (wr.drew) wz1) := Lib.hid hf
                clear hf
                rw [HB.out]
                refine hK.out _ _ ?_ (fun hHeld => ?_)
                · exact HS.out _ HZ1.out
                clear hK K
                try dsimp only
                try simp only [Act.put, List.setIfInBounds_toArray, List.set_cons_zero, List.set_cons_succ]
                refine take_op 11 (some 66) (Op.unOp UnOp.not 4 ( .tmp 65)) 4 ?_ (by kernel_rfl) (by kernel_rfl) (by kernel_rfl) (fun _ _ _ h => h) ?_ (by assumption) ?_
                rotate_left
                · intro w hSw; (try dsimp only at hSw); go_simp; (try (with_reducible rfl))
                try simp only [Act.put, List.setIfInBounds_toArray, List.set_cons_zero, List.set_cons_succ]
                refine done_e (by kernel_rfl) ?_ _
                (try simp only [Exit.inBlock, Exit.then])
                go_wp2_with fail
                exact ⟨⟨i + 1, by omega, by go_num, Lib.hid (HF.out.then (HZ1.out)), Lib.hid (by rw [tkL_step HT.out HU.out, HT0.out, HB.out]; rfl)⟩, by simp [intOf]; omega⟩
      · have HE : Hid (R = false) := Lib.hid (by
          rw [← HR.out, tk, if_neg HK12.out, if_neg h3]
          rcases h56 with rfl | rfl
          · rw [if_neg (by decide), if_pos rfl]
            have : ¬ l.length = (V.mk sv nv lv).kids.length := fun e => hgo ⟨by rw [← HM.out, ← HMV.out]; exact e, fun h => by cases h⟩
            rw [decide_eq_false this]
            rfl
          · rw [if_pos rfl]
            by_cases hs : s = sv
            · have : ¬ l.length = (V.mk sv nv lv).kids.length := fun e => hgo ⟨by rw [← HM.out, ← HMV.out]; exact e, fun _ => hs⟩
              rw [decide_eq_false this]
              simp
            · rw [decide_eq_false (show ¬ s = (V.mk sv nv lv).name from hs)]
              rfl)
        rcases h56 with rfl | rfl
        · have hmm : ((m : Int) == (mv : Int)) = false := by
            simp only [beq_eq_false_iff_ne, ne_eq]
            intro e
            exact hgo ⟨by omega, fun h => by cases h⟩
          clear hgo
          go_wp2_with fail
          go_ret
          exact ⟨by rw [HE.out]; rfl, HF0.out⟩
        · by_cases hs : s = sv
          · have hmm : ((m : Int) == (mv : Int)) = false := by
              simp only [beq_eq_false_iff_ne, ne_eq]
              intro e
              exact hgo ⟨by omega, fun h => hs⟩
            subst hs
            clear hgo
            go_wp2_with fail
            go_ret
            exact ⟨by rw [HE.out]; rfl, HF0.out⟩
          · have hb : (s.toList == sv.toList) = false := by rw [bytes_eq_iff]; exact decide_eq_false hs
            clear hgo hs
            go_wp2_with fail
            go_ret
            exact ⟨by rw [HE.out]; rfl, HF0.out⟩
    · have HE : Hid (R = false) := Lib.hid (by
        rw [← HR.out, tk, if_neg HK12.out, if_neg h3, if_neg (fun e => h56 (.inr e)), if_neg (fun e => h56 (.inl e))])
      have hb5 : ((k : Int) == 5) = false := by simp only [beq_eq_false_iff_ne, ne_eq]; omega
      have hb6 : ((k : Int) == 6) = false := by simp only [beq_eq_false_iff_ne, ne_eq]; omega
      clear h56 h3
      go_wp2_with fail
      go_ret
      exact ⟨by rw [HE.out]; rfl, HF0.out⟩
end Go.Proofs.Ythjecikdkdjlaaa
