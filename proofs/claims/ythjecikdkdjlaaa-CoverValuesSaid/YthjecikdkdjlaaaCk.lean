/- Check: plain, and its walk. -/
import Derived.Test.YthjecikdkdjlaaaFt
import Derived.Test.YthjecikdkdjlaaaUf
namespace Go.Proofs.Ythjecikdkdjlaaa
open Go.RowKit

def one (p : T) : List T := [p]
/-- each is of use behind those ahead -/
def allUse (is : List Inf) : List T → List T → Bool
  | _, [] => true
  | a, p :: r => useW is (a.map one) [p] && allUse is (a ++ [p]) r
def checkP (is : List Inf) (l : List T) (wh : Bool) : Int :=
  if 200 < partsL l then 16 else if unkL is l then 12 else if fitsL is l = false then 13 else if allUse is [] l = false then 14 else if wh && useW is (l.map one) [anyP] then 14 else 0
mutual
theorem wt_le : ∀ t : T, wt t + 1 ≤ 2 * parts t
  | .mk k s n l => by
    have h1 := wtL_le l
    have h2 := partsL_len l
    simp only [wt, parts]
    split <;> omega
theorem wtL_le : ∀ l : List T, wtL l + l.length ≤ 2 * partsL l
  | [] => Nat.le_refl _
  | t :: r => by
    have h1 := wt_le t
    have h2 := wtL_le r
    simp only [wtL, partsL, List.length_cons]
    omega
end
theorem wtR_one : ∀ l : List T, wtR (l.map one) = wtL l
  | [] => rfl
  | t :: r => by
    simp only [List.map_cons, wtR, wtR_one r, one, wtL]
    omega
theorem good_one {is : List Inf} {l : List T} {p : T} (hl : okL is l) (hp : okP is p) (hs : partsL l + parts p ≤ 500000) : Good is (l.map one) [p] := by
  have h1 := wtL_le l
  have h2 := wt_le p
  have h3 := partsL_len l
  refine ⟨by rw [List.length_map]; omega, fun r hr => ?_, by simp only [okL]; exact ⟨hp, trivial⟩, ?_⟩
  · obtain ⟨q, hq, rfl⟩ := List.mem_map.1 hr
    simp only [one, okL]
    exact ⟨rfl, okL_mem.1 hl q hq, trivial⟩
  · simp only [phi, wtR_one, List.length_cons, List.length_nil, wtL]
    omega
theorem allUse_snoc (is : List Inf) : ∀ (l a : List T) (p : T), allUse is a (l ++ [p]) = (allUse is a l && useW is ((a ++ l).map one) [p])
  | [], a, p => by simp [allUse]
  | q :: r, a, p => by
    simp only [List.cons_append, allUse, allUse_snoc is r (a ++ [q]) p, Bool.and_assoc, List.append_assoc, List.nil_append]
theorem allUse_take (is : List Inf) {l : List T} {k : Nat} (h : allUse is [] l = true) : allUse is [] (l.take k) = true := by
  have e : l = l.take k ++ l.drop k := (List.take_append_drop k l).symm
  have key : ∀ (m a b : List T), allUse is b (a ++ m) = true → allUse is b a = true := by
    intro m a
    induction a with
    | nil => intro b _; rfl
    | cons x r ih =>
      intro b hb
      simp only [List.cons_append, allUse, Bool.and_eq_true] at hb ⊢
      exact ⟨hb.1, ih _ hb.2⟩
  rw [e] at h
  exact key _ _ _ h
set_option maxHeartbeats 8000000 in
set_option maxRecDepth 100000 in
theorem check_any (base : Nat) (is : List Inf) (l : List T) (n cap ni ci : Nat) (a ai : Option Addr) (wh : Bool) (w : World) (hn : l.length = n) (hni : is.length = ni) (hni2 : ni ≤ 1152921504606846976) (hP : partsL l ≤ 1152921504606846976) (hwf : wfL is l) (hrow : Row base (fun _ => True) w a 0 l) (hinf : Infs w ai is) (hbase : base ≤ w.heap.size) :
    Calls Try.prog 11 #[.slice a n cap, .slice ai ni ci, .bool wh] w (SaidI w (checkP is l wh)) := by
  obtain ⟨w0, hw0⟩ : ∃ w0, w0 = w.alloc (.cells #[.slice ai ni ci] 55) := ⟨_, rfl⟩
  obtain ⟨gc, hgc⟩ : ∃ gc, w.heap.size = gc := ⟨_, rfl⟩
  have r0 : Hid (w0.heap[gc]? = some (.cells #[.slice ai ni ci] 55 (0, 0))) := Lib.hid (by rw [hw0, ← hgc]; exact new_block w _)
  have HF0 : Hid (Fr No w w0) := Lib.hid (by rw [hw0]; exact Fr.alloc w _)
  have HCH : Hid (Chk w0 gc is) := Lib.hid ⟨by rw [hni]; exact hni2, ai, ci, by rw [hni]; exact cell_of r0.out 0, hinf.no HF0.out⟩
  have HROW := Lib.hid hrow
  have HN := Lib.hid hn
  have HWF := Lib.hid hwf
  have HB0 : Hid (base ≤ w0.heap.size) := Lib.hid (Nat.le_trans hbase HF0.out.size)
  have hpn : n ≤ partsL l := by rw [← hn]; exact partsL_len l
  have HCO : Hid (∀ w', Fr No w w' → Calls Try.prog 20 #[.slice a n cap] w' (SaidI w' (partsL l))) := Lib.hid (fun w' hf => count_any base (partsL l) l (Nat.le_refl _) hP a cap n w' hn (row_keepNo hrow hf))
  have HUK : Hid (∀ w', Fr No w0 w' → Calls Try.prog 21 #[.pointer (some ⟨gc, 0, none⟩), .slice a n cap] w' (SaidT w' (unkL is l))) := Lib.hid (fun w' hf => unknown_any base is gc (partsL l) l (Nat.le_refl _) hP a cap n w' hn (row_keepNo hrow (HF0.out.then hf)) (HCH.out.no hf))
  have HFI : Hid (∀ w', Fr No w0 w' → partsL l ≤ 1048576 → Calls Try.prog 22 #[.pointer (some ⟨gc, 0, none⟩), .slice a n cap] w' (SaidT w' (fitsL is l))) := Lib.hid (fun w' hf h => fits_any base is gc (partsL l + 1) l (by omega) h hwf n cap a w' hn (row_keepNo hrow (HF0.out.then hf)) (HCH.out.no hf) (Nat.le_trans HB0.out hf.size))
  obtain ⟨V, hV⟩ : ∃ V, checkP is l wh = V := ⟨_, rfl⟩
  have HV : Hid ((if 200 < partsL l then 16 else if unkL is l then 12 else if fitsL is l = false then 13 else if allUse is [] l = false then 14 else if wh && useW is (l.map one) [anyP] then 14 else 0) = V) := Lib.hid hV
  rw [hV]
  obtain ⟨P, hPP⟩ : ∃ P, partsL l = P := ⟨_, rfl⟩
  rw [hPP] at hpn hP HCO HFI HV
  have HPP := Lib.hid hPP
  clear hV hn hwf hrow hinf hbase hni hPP
  go_enter Try.func11, Try.ntmps11
  go_upto_region 2 with fail
  rw [← hw0]
  clear hw0 hgc
  go_wp2_with fail
  refine (HCO.out _ HF0.out).mono ?_
  rintro e w1 ⟨rfl, hf1⟩
  have HF1 : Hid (Fr No w0 w1) := Lib.hid hf1
  clear hf1
  by_cases h200 : 200 < P
  · have HR : Hid (V = 16) := Lib.hid (by rw [← HV.out, if_pos h200])
    have hd : decide ((200 : Int) < (P : Int)) = true := decide_eq_true (by omega)
    clear HV
    go_wp2_with fail
    go_ret
    exact ⟨by rw [HR.out]; rfl, HF0.out.then HF1.out⟩
  have hd : decide ((200 : Int) < (P : Int)) = false := decide_eq_false (by omega)
  have HP2 : Hid (P ≤ 200) := Lib.hid (by omega)
  replace HV := Lib.hid ((if_neg h200).symm.trans HV.out)
  clear h200
  go_wp2_with fail
  refine (HUK.out _ HF1.out).mono ?_
  rintro e w2 ⟨rfl, hf2⟩
  have HF2 : Hid (Fr No w0 w2) := Lib.hid (HF1.out.then hf2)
  clear hf2
  cases hu : unkL is l with
  | true =>
    have HR : Hid (V = 12) := Lib.hid (by rw [← HV.out, hu]; rfl)
    clear HV hu
    go_wp2_with fail
    go_ret
    exact ⟨by rw [HR.out]; rfl, HF0.out.then HF2.out⟩
  | false =>
    rw [hu] at HV
    replace HV := Lib.hid ((if_neg Bool.false_ne_true).symm.trans HV.out)
    clear hu
    go_wp2_with fail
    refine (HFI.out _ HF2.out (by have := HP2.out; omega)).mono ?_
    rintro e w3 ⟨rfl, hf3⟩
    have HF3 : Hid (Fr No w0 w3) := Lib.hid (HF2.out.then hf3)
    clear hf3
    cases hf : fitsL is l with
    | false =>
      have HR : Hid (V = 13) := Lib.hid (by rw [← HV.out, hf]; rfl)
      clear HV hf
      go_wp2_with fail
      go_ret
      exact ⟨by rw [HR.out]; rfl, HF0.out.then HF3.out⟩
    | true =>
      rw [hf] at HV
      replace HV := Lib.hid ((if_neg (by decide : ¬ (true = false))).symm.trans HV.out)
      have HOK : Hid (okL is l) := Lib.hid (ok_of_fits (partsL l + 1) l (by omega) HWF.out hf)
      have hn200 : n ≤ 200 := by have := HP2.out; omega
      have HU : Hid (∀ (k : Nat) (p : T) (vr v : Value) (w' : World), okP is p → parts p ≤ 1000 → RowsV base w' vr ((l.take k).map one) → RowV base w' v [p] → Fr No w0 w' → Calls Try.prog 23 #[.pointer (some ⟨gc, 0, none⟩), vr, v] w' (SaidT w' (useW is ((l.take k).map one) [p]))) := Lib.hid (fun k p vr v w' h1 h2 h3 h4 h5 => by
        have hpt : partsL (l.take k) ≤ partsL l := by
          have h := partsL_append (l.take k) (l.drop k)
          rw [List.take_append_drop] at h
          omega
        have := HPP.out
        have := HP2.out
        exact useful_any base is gc _ _ _ (Nat.lt_succ_self _) (good_one (okL_mem.2 fun q hq => okL_mem.1 HOK.out q (List.mem_of_mem_take hq)) h1 (by omega)) vr v w' h3 h4 (HCH.out.no h5) (Nat.le_trans HB0.out h5.size))
      clear hf
      go_wp2_with fail
      go_loopw [8, 29] (fun v i wr => ∃ k : Nat, k ≤ n ∧ i = .int .i64 k ∧ Hid (Fr No w0 wr) ∧ Hid (OutR base w0.heap.size wr v ((l.take k).map one)) ∧ Hid (allUse is [] (l.take k) = true)) (fun _ i _ => n - (intOf i).toNat)
      case atStart => exact ⟨0, Nat.zero_le _, rfl, HF3, Lib.hid (OutR.nil _ _ _), Lib.hid rfl⟩
      case round =>
        obtain ⟨k, hk, rfl, HF, HO, HA⟩ := hrel
        by_cases hkn : k = n
        · have htk : l.take k = l := by rw [hkn, ← HN.out, List.take_length]
          have HRR := Lib.hid HO.out.rows
          rw [htk] at HA HRR
          replace HV : Hid ((if wh && useW is (l.map one) [anyP] then (14 : Int) else 0) = V) := Lib.hid (by
            have h := HV.out
            rw [HA.out, if_neg (by decide : ¬ (true = false))] at h
            exact h)
          have HUL := Lib.hid (HU.out n)
          rw [show l.take n = l by rw [← HN.out, List.take_length]] at HUL
          clear htk
          subst hkn
          cases wh with
          | false =>
            have HR : Hid (V = 0) := Lib.hid (by rw [← HV.out]; rfl)
            clear HV
            go_wp2_with fail
            go_ret
            exact ⟨by rw [HR.out]; rfl, HF0.out.then HF.out⟩
          | true =>
            obtain ⟨w4, hw4⟩ : ∃ w4, wr.alloc (.cells #[.int .u8 1, .string ⟨#[]⟩, .int .i64 0, .slice none 0 0] 40) = w4 := ⟨_, rfl⟩
            obtain ⟨g4, hg4⟩ : ∃ g4, wr.heap.size = g4 := ⟨_, rfl⟩
            have R4 : Hid (w4.heap[g4]? = some (.cells #[.int .u8 1, .string ⟨#[]⟩, .int .i64 0, .slice none 0 0] 40 (0, 0))) := Lib.hid (by rw [← hw4, ← hg4]; exact new_block wr _)
            have HF4 : Hid (Fr No wr w4) := Lib.hid (by rw [← hw4]; exact Fr.alloc _ _)
            have HC := Lib.hid (HUL.out anyP u8 (.slice (some ⟨g4, 0, none⟩) 1 1) w4 (okP_any is) (by simp [parts, partsL, anyP]) (HRR.out.no HF4.out) ⟨some ⟨g4, 0, none⟩, 1, rfl, Nat.le_refl _, row_one (cs := #[]) R4.out (is_anyP w4)⟩ (HF.out.then HF4.out))
            obtain ⟨B, hB⟩ : ∃ B, useW is (l.map one) [anyP] = B := ⟨_, rfl⟩
            rw [hB] at HC HV
            clear hB HU HUL
            go_wp2_with fail
            refine HC.out.mono ?_
            rintro e w5 ⟨rfl, hf5⟩
            have HF5 := Lib.hid ((HF.out.then HF4.out).then hf5)
            clear hf5
            cases B with
            | true =>
              have HR : Hid (V = 14) := Lib.hid (by rw [← HV.out]; rfl)
              clear HV
              go_wp2_with fail
              go_ret
              exact ⟨by rw [HR.out]; rfl, HF0.out.then HF5.out⟩
            | false =>
              have HR : Hid (V = 0) := Lib.hid (by rw [← HV.out]; rfl)
              clear HV
              go_wp2_with fail
              go_ret
              exact ⟨by rw [HR.out]; rfl, HF0.out.then HF5.out⟩
        · obtain ⟨p, hp⟩ : ∃ p, l[k]? = some p := ⟨_, List.getElem?_eq_getElem (by rw [HN.out]; omega)⟩
          obtain ⟨b, off, x0, x1, x2, x3, rfl, j1, j2, d0, d1, d2, d3, his⟩ := Row.at_ 0 l HROW.out k p hp
          clear j1 j2
          rw [Nat.zero_add] at d0 d1 d2 d3
          obtain ⟨kp, sp, np, ap, mp, cp, rfl, rfl, rfl, rfl⟩ := is_cells his
          have HIS := Lib.hid his
          have HWr := Lib.hid (HF0.out.then HF.out)
          replace d0 := HWr.out.cell d0
          replace d1 := HWr.out.cell d1
          replace d2 := HWr.out.cell d2
          replace d3 := HWr.out.cell d3
          have HTS := Lib.hid (take_snoc hp)
          have HPM := Lib.hid (List.mem_of_getElem? hp)
          have HPA : Hid (parts p ≤ 1000) := Lib.hid (by
            have := parts_kid l k p hp
            have := HPP.out
            have := HP2.out
            omega)
          have hlt : (k : Int) < (n : Int) := by omega
          obtain ⟨w4, hw4⟩ : ∃ w4, wr.alloc (.cells #[.int .u8 kp, .string sp, .int .i64 np, .slice ap mp cp] 40) = w4 := ⟨_, rfl⟩
          obtain ⟨g4, hg4⟩ : ∃ g4, wr.heap.size = g4 := ⟨_, rfl⟩
          have R4 : Hid (w4.heap[g4]? = some (.cells #[.int .u8 kp, .string sp, .int .i64 np, .slice ap mp cp] 40 (0, 0))) := Lib.hid (by rw [← hw4, ← hg4]; exact new_block wr _)
          have HF4 : Hid (Fr No wr w4) := Lib.hid (by rw [← hw4]; exact Fr.alloc _ _)
          clear his hp
          go_upto_region 12 with fail
          (try rw [hw4])
          clear hw4 hg4 d0 d1 d2 d3
          obtain ⟨b0, b1, b2, b3⟩ : w4.cell? ⟨g4, 0, none⟩ = some (.int .u8 kp) ∧ w4.cell? ⟨g4, 1, none⟩ = some (.string sp) ∧ w4.cell? ⟨g4, 2, none⟩ = some (.int .i64 np) ∧ w4.cell? ⟨g4, 3, none⟩ = some (.slice ap mp cp) := ⟨cell_of R4.out 0, cell_of R4.out 1, cell_of R4.out 2, cell_of R4.out 3⟩
          obtain ⟨w5, hw5⟩ : ∃ w5, w4.alloc (.cells #[.int .u8 kp, .string sp, .int .i64 np, .slice ap mp cp] 40) = w5 := ⟨_, rfl⟩
          obtain ⟨g5, hg5⟩ : ∃ g5, w4.heap.size = g5 := ⟨_, rfl⟩
          have R5 : Hid (w5.heap[g5]? = some (.cells #[.int .u8 kp, .string sp, .int .i64 np, .slice ap mp cp] 40 (0, 0))) := Lib.hid (by rw [← hw5, ← hg5]; exact new_block w4 _)
          have HF5 : Hid (Fr No wr w5) := Lib.hid (by rw [← hw5]; exact HF4.out.then (Fr.alloc _ _))
          have HF45 : Hid (Fr No w4 w5) := Lib.hid (by rw [← hw5]; exact Fr.alloc _ _)
          have HC := Lib.hid (HU.out k p u8 (.slice (some ⟨g5, 0, none⟩) 1 1) w5 (okL_mem.1 HOK.out p HPM.out) HPA.out (HO.out.rows.no HF5.out) ⟨some ⟨g5, 0, none⟩, 1, rfl, Nat.le_refl _, row_one (cs := #[]) R5.out (Is.no HIS.out (HWr.out.then HF5.out))⟩ (HF.out.then HF5.out))
          have HAS : Hid (allUse is [] (l.take (k + 1)) = useW is ((l.take k).map one) [p]) := Lib.hid (by
            rw [HTS.out, allUse_snoc, HA.out]
            rfl)
          obtain ⟨B, hB⟩ : ∃ B, useW is ((l.take k).map one) [p] = B := ⟨_, rfl⟩
          rw [hB] at HC HAS
          clear hB
          go_wp2_with fail
          refine HC.out.mono ?_
          rintro e w6 ⟨rfl, hf6⟩
          have HF6 : Hid (Fr No wr w6) := Lib.hid (HF5.out.then hf6)
          have HF46 : Hid (Fr No w4 w6) := Lib.hid (HF45.out.then hf6)
          replace b0 := HF46.out.cell b0
          replace b1 := HF46.out.cell b1
          replace b2 := HF46.out.cell b2
          replace b3 := HF46.out.cell b3
          clear hf6 hw5 hg5
          cases B with
          | false =>
            have HR : Hid (V = 14) := Lib.hid (by
              have h : allUse is [] l = false := by
                cases h : allUse is [] l
                · rfl
                · have h2 := allUse_take is (k := k + 1) h
                  rw [HAS.out] at h2
                  cases h2
              rw [← HV.out, h]
              rfl)
            clear HV
            go_wp2_with fail
            go_ret
            exact ⟨by rw [HR.out]; rfl, HWr.out.then HF6.out⟩
          | true =>
            obtain ⟨w7, hw7⟩ : ∃ w7, w6.alloc (.cells #[.int .u8 kp, .string sp, .int .i64 np, .slice ap mp cp] 40) = w7 := ⟨_, rfl⟩
            obtain ⟨g7, hg7⟩ : ∃ g7, w6.heap.size = g7 := ⟨_, rfl⟩
            obtain ⟨w8, hw8⟩ : ∃ w8, w7.alloc (.cells #[.slice (some ⟨g7, 0, none⟩) 1 1] 58) = w8 := ⟨_, rfl⟩
            obtain ⟨g8, hg8⟩ : ∃ g8, w7.heap.size = g8 := ⟨_, rfl⟩
            have R7 : Hid (w7.heap[g7]? = some (.cells #[.int .u8 kp, .string sp, .int .i64 np, .slice ap mp cp] 40 (0, 0))) := Lib.hid (by rw [← hw7, ← hg7]; exact new_block w6 _)
            have R8 : Hid (w8.heap[g8]? = some (.cells #[.slice (some ⟨g7, 0, none⟩) 1 1] 58 (0, 0))) := Lib.hid (by rw [← hw8, ← hg8]; exact new_block w7 _)
            have HF7 : Hid (Fr No wr w7) := Lib.hid (by rw [← hw7]; exact HF6.out.then (Fr.alloc _ _))
            have HF78 : Hid (Fr No w7 w8) := Lib.hid (by rw [← hw8]; exact Fr.alloc _ _)
            have HF8 : Hid (Fr No wr w8) := Lib.hid (HF7.out.then HF78.out)
            have HR8 : Hid (RowV base w8 (.slice (some ⟨g7, 0, none⟩) 1 1) (one p).reverse) := Lib.hid ⟨some ⟨g7, 0, none⟩, 1, rfl, Nat.le_refl _, row_one (cs := #[]) (HF78.out.keeps R7.out no_one) (Is.no HIS.out (HWr.out.then HF8.out))⟩
            have HOD := Lib.hid (HO.out.no HF8.out)
            obtain ⟨av2, cv2, hvv⟩ := HOD.out.slice
            subst hvv
            obtain ⟨ln, hln⟩ : ∃ ln, ((l.take k).map one).length = ln := ⟨_, rfl⟩
            have HLN := Lib.hid hln
            have hln2 : ln ≤ 200 := by rw [← hln, List.length_map, List.length_take]; omega
            rw [hln] at HOD HO ⊢
            have HSZ : Hid (w0.heap.size ≤ w8.heap.size) := Lib.hid (HF.out.then HF8.out).size
            clear hln
            go_wp2_with (at_builtin; refine wpList_row1 rfl _ _ rfl base w0.heap.size (.slice av2 ln cv2) _ rfl HOD.out g8 (.slice (some ⟨g7, 0, none⟩) 1 1) rfl R8.out rfl (one p) HR8.out (by rw [HLN.out]; omega) HSZ.out HB0.out ?_; rw [HLN.out]; intro a3 c3 w9 HO9 HF9)
            refine ⟨⟨k + 1, by omega, by go_num, Lib.hid ((HF.out.then HF8.out).own HF9.out (fun i h => h)), Lib.hid ?_, HAS⟩, by simp [intOf]; omega⟩
            rw [HTS.out, List.map_append]
            exact HO9.out
end Go.Proofs.Ythjecikdkdjlaaa
