/- The law CoverValues: the walk. -/
import Derived.Test.YthjecikdkdjlaaaVd
import Derived.Test.YthjecikdkdjlaaaOp
import Derived.Deep.QuietTactic
import Derived.BigQuiet
namespace Go.Proofs.Ythjecikdkdjlaaa
open Go.RowKit

/-- the values behind k rows of values and q of the next one -/
def midV (all : List (List V)) (x : Ty0) (k q : Nat) : List V := (stepV (all.take k) x ++ (match all[k]? with | some ks => ((vals0 x).take q).map (fun v => ks ++ [v]) | none => [])).map tupV
theorem stepV_snoc {all : List (List V)} {x : Ty0} {k : Nat} {ks : List V} (h : all[k]? = some ks) : stepV (all.take (k + 1)) x = stepV (all.take k) x ++ (vals0 x).map (fun v => ks ++ [v]) := by
  rw [take_snoc h]
  simp [stepV]
theorem midV_zero (all : List (List V)) (x : Ty0) (k : Nat) : midV all x k 0 = (stepV (all.take k) x).map tupV := by
  unfold midV
  cases all[k]? <;> simp
theorem midV_full {all : List (List V)} {x : Ty0} {k : Nat} {ks : List V} (h : all[k]? = some ks) : midV all x k (vals0 x).length = (stepV (all.take (k + 1)) x).map tupV := by
  unfold midV
  rw [stepV_snoc h, h]
  simp
theorem midV_snoc {all : List (List V)} {x : Ty0} {k q : Nat} {ks : List V} {v : V} (h : all[k]? = some ks) (hv : (vals0 x)[q]? = some v) : midV all x k (q + 1) = midV all x k q ++ [tupV (ks ++ [v])] := by
  unfold midV
  rw [h]
  simp only [take_snoc hv, List.map_append, List.append_assoc]
  rfl
theorem midV_len (all : List (List V)) (x : Ty0) (k q : Nat) (hq : q ≤ (vals0 x).length) : (midV all x k q).length ≤ all.length * 4 + 4 := by
  unfold midV
  have h1 := stepV_len x (all.take k)
  have h2 : (all.take k).length ≤ all.length := by rw [List.length_take]; omega
  have h3 := vals_len x
  rw [List.length_map, List.length_append]
  cases all[k]? with
  | none => simp only [List.length_nil]; omega
  | some ks => simp only [List.length_map, List.length_take]; omega
/-- a row of patterns, as the law picks it -/
def rowP (ks r : List Nat) : List T := List.zipWith (fun x y => (pats0 (tyOf x)).getD (y % 5) anyP) ks r
theorem pats_five (x : Ty0) : (pats0 x).length = 5 := by cases x <;> rfl
theorem rowP_at {ks r : List Nat} {k x y : Nat} (hx : ks[k]? = some x) (hy : r[k]? = some y) : (rowP ks r)[k]? = some ((pats0 (tyOf x)).getD (y % 5) anyP) := by
  rw [rowP, List.getElem?_zipWith, hx, hy]
theorem pats_at (x : Ty0) (y : Nat) : (pats0 x)[y % 5]? = some ((pats0 x).getD (y % 5) anyP) := by
  have h : y % 5 < (pats0 x).length := by rw [pats_five]; exact Nat.mod_lt _ (by omega)
  rw [List.getD_eq_getElem?_getD, List.getElem?_eq_getElem h]
  rfl
theorem rowP_ok : ∀ (ks r : List Nat), ks.length ≤ r.length → pl0 (ks.map tyOf) (rowP ks r)
  | [], _, _ => by simp [rowP, pl0]
  | _ :: _, [], h => by simp at h
  | x :: ks, y :: r, h => by
    have ih := rowP_ok ks r (by simpa using h)
    simp only [rowP, List.zipWith_cons_cons, List.map_cons, pl0] at ih ⊢
    exact ⟨List.mem_of_getElem? (pats_at (tyOf x) y), ih⟩
theorem rowP_len {ks r : List Nat} (h : ks.length ≤ r.length) : (rowP ks r).length = ks.length := by
  rw [rowP, List.length_zipWith]
  omega
def takenC (tys : List Ty0) (done : List (List T)) : Array Value := ((prodV tys).map fun v => Value.bool (takenBy done v)).toArray
theorem takenC_nil (tys : List Ty0) {n : Nat} (h : (prodV tys).length = n) : takenC tys [] = Array.replicate n (Value.bool false) := by
  unfold takenC
  apply Array.ext'
  rw [Array.toList_replicate]
  rw [← h]
  apply List.ext_getElem
  · simp
  · intro i h1 h2
    simp [takenBy]
theorem wf_pats0 (x : Ty0) : ∀ p ∈ pats0 x, wfP infos18 p := by
  have hx : wfP infos18 varX := wf_mk18 (by omega) (by decide) (by simp) trivial
  have hn : ∀ i : Int, -1000 ≤ i ∧ i ≤ 1000 → wfP infos18 (numP i) := fun i h => wfP_mk (by omega) (small_of _ (by decide)) (wf_num i h) (by simp) of18 trivial
  have hc : ∀ s : ByteArray, s.size ≤ 1000 → wfP infos18 (conP s []) := fun s h => wf_con18 h (by simp) trivial
  have hs : ∀ p : T, wfP infos18 p → wfP infos18 (conP sSome [p]) := fun p h => wf_con18 (by decide) (by simp) ⟨h, trivial⟩
  intro p hp
  cases x <;> simp only [pats0, List.mem_cons, List.not_mem_nil, or_false] at hp <;> rcases hp with rfl | rfl | rfl | rfl | rfl
  · exact wf_any18
  · exact hx
  · exact hc _ (by decide)
  · exact hc _ (by decide)
  · exact hc _ (by decide)
  · exact wf_any18
  · exact hx
  · exact hn 0 (by omega)
  · exact hn 1 (by omega)
  · exact hn 2 (by omega)
  · exact wf_any18
  · exact hc _ (by decide)
  · exact hs _ hx
  · exact hs _ (hc _ (by decide))
  · exact hs _ (hc _ (by decide))
  · exact wf_any18
  · exact hx
  · exact hc _ (by decide)
  · exact hc _ (by decide)
  · exact hc _ (by decide)
theorem wf_tupP {l : List Ty0} {r : List T} (hl : l.length ≤ 4) (h : pl0 l r) : wfP infos18 (tupP r) := by
  have key : ∀ (l : List Ty0) (r : List T), pl0 l r → wfL infos18 r ∧ r.length = l.length := by
    intro l
    induction l with
    | nil =>
      intro r h
      cases r with
      | nil => exact ⟨trivial, rfl⟩
      | cons _ _ => exact h.elim
    | cons x l ih =>
      intro r h
      cases r with
      | nil => exact h.elim
      | cons p r => exact ⟨⟨wf_pats0 x p h.1, (ih r h.2).1⟩, by simp [(ih r h.2).2]⟩
  exact wf_mk18 (by omega) (by decide) (by rw [(key l r h).2]; omega) (key l r h).1
/-- a row of cells, new ones up to place k -/
def mixL (P Q : List V → Value) (all : List (List V)) (k : Nat) : List Value := (all.take k).map P ++ (all.drop k).map Q
theorem mixL_at {P Q : List V → Value} {all : List (List V)} {k : Nat} {v : List V} (h : all[k]? = some v) : (mixL P Q all k)[k]? = some (Q v) := by
  have hk := (List.getElem?_eq_some_iff.1 h).1
  rw [mixL, List.getElem?_append_right (by rw [List.length_map, List.length_take]; omega), List.length_map, List.length_take, List.getElem?_map, List.getElem?_drop, show k + (k - min k all.length) = k by omega, h]
  rfl
theorem mixL_step {P Q : List V → Value} {all : List (List V)} {k : Nat} {v : List V} (h : all[k]? = some v) : mixL P Q all (k + 1) = (mixL P Q all k).set k (P v) := by
  have hk := (List.getElem?_eq_some_iff.1 h).1
  have hv : all[k] = v := by
    have := List.getElem?_eq_getElem hk
    rw [h] at this
    exact (Option.some.inj this).symm
  rw [mixL, mixL, take_snoc h, List.set_append_right _ _ (by rw [List.length_map, List.length_take]; omega), List.length_map, List.length_take, show k - min k all.length = 0 by omega, List.drop_eq_getElem_cons hk, hv]
  simp
def boolV (f : List V → Bool) (v : List V) : Value := .bool (f v)
def mixC (tys : List Ty0) (done : List (List T)) (pr : List T) (k : Nat) : Array Value := (mixL (boolV (takenBy (done ++ [pr]))) (boolV (takenBy done)) (prodV tys) k).toArray
theorem mixC_zero (tys : List Ty0) (done : List (List T)) (pr : List T) : mixC tys done pr 0 = takenC tys done := by
  simp only [mixC, mixL, List.take_zero, List.map_nil, List.nil_append, List.drop_zero]
  rfl
theorem mixC_full (tys : List Ty0) (done : List (List T)) (pr : List T) : mixC tys done pr (prodV tys).length = takenC tys (done ++ [pr]) := by
  simp only [mixC, mixL, List.take_length, List.drop_length, List.map_nil, List.append_nil]
  rfl
theorem takenBy_snoc (done : List (List T)) (pr : List T) (v : List V) : takenBy (done ++ [pr]) v = (takenBy done v || tkL pr v) := by simp [takenBy]
theorem mixC_at {tys : List Ty0} {done : List (List T)} {pr : List T} {k : Nat} {v : List V} (h : (prodV tys)[k]? = some v) : (mixC tys done pr k)[k]? = some (.bool (takenBy done v)) := by
  have h1 := mixL_at (P := boolV (takenBy (done ++ [pr]))) (Q := boolV (takenBy done)) h
  rw [mixC, List.getElem?_toArray, h1]
  rfl
theorem mixC_set {tys : List Ty0} {done : List (List T)} {pr : List T} {k : Nat} {v : List V} (h : (prodV tys)[k]? = some v) (ht : tkL pr v = true) : mixC tys done pr (k + 1) = (mixC tys done pr k).setIfInBounds k (.bool true) := by
  rw [mixC, mixL_step h, mixC, boolV, takenBy_snoc, ht, Bool.or_true, List.setIfInBounds_toArray]
theorem mixC_same {tys : List Ty0} {done : List (List T)} {pr : List T} {k : Nat} {v : List V} (h : (prodV tys)[k]? = some v) (ht : (tkL pr v && !takenBy done v) = false) : mixC tys done pr (k + 1) = mixC tys done pr k := by
  have h1 := mixL_at (P := boolV (takenBy (done ++ [pr]))) (Q := boolV (takenBy done)) h
  rw [mixC, mixL_step h, mixC, boolV, takenBy_snoc]
  have e : (takenBy done v || tkL pr v) = takenBy done v := by
    cases h2 : takenBy done v
    · rw [h2] at ht
      simpa using ht
    · rfl
  rw [e]
  congr 1
  apply List.ext_getElem?
  intro j
  rw [List.getElem?_set]
  split
  · rename_i hj
    subst hj
    split
    · exact h1.symm
    · rename_i hl
      exact absurd (List.getElem?_eq_some_iff.1 h1).1 hl
  · rfl
set_option maxHeartbeats 8000000 in
set_option maxRecDepth 100000 in
theorem values_law_any (ks : List Nat) (rows : List (List Nat)) (n c0 nr c1 : Nat) (a0 a1 : Option Addr) (w : World) (hn : ks.length = n) (hnr : rows.length = nr) (hn64 : n ≤ maxLen) (hnr64 : nr ≤ maxLen)
    (hk : ∀ (j x : Nat), ks[j]? = some x → x ≤ 255 ∧ ∃ b off, a0 = some ⟨b, off, none⟩ ∧ w.cell? ⟨b, off + j, none⟩ = some (.int .u8 x))
    (hr : ∀ (i : Nat) (r : List Nat), rows[i]? = some r → r.length = 4 ∧ ∃ b off, a1 = some ⟨b, off, none⟩ ∧ ∀ (k y : Nat), r[k]? = some y → y ≤ 255 ∧ w.cell? ⟨b, off + i * 4 + k, none⟩ = some (.int .u8 y)) :
    Calls Try.prog 4 #[.slice a0 n c0, .slice a1 nr c1] w (SaidT w true) := by
  have HN := Lib.hid hn
  have HNR := Lib.hid hnr
  have HK := Lib.hid hk
  have HRW := Lib.hid hr
  clear hn hnr hk hr
  have bad : ∀ w', Fr No w w' → Calls Try.prog 10 #[] w' (SaidT w' true) := fun w' _ => works_any w'
  by_cases h2 : n < 2
  · have hd : decide ((n : Int) < 2) = true := decide_eq_true (by omega)
    clear h2
    go_enter Try.func4, Try.ntmps4
    go_wp2_with fail
    refine (works_any _).mono ?_
    rintro e w2 ⟨rfl, hf2⟩
    have HF2 := Lib.hid hf2
    clear hf2
    go_wp2_with fail
    go_ret
    exact ⟨rfl, HF2.out⟩
  have hd2 : decide ((n : Int) < 2) = false := decide_eq_false (by omega)
  by_cases h4 : 4 < n
  · have hd : decide ((4 : Int) < (n : Int)) = true := decide_eq_true (by omega)
    clear h2 h4
    go_enter Try.func4, Try.ntmps4
    go_wp2_with fail
    refine (works_any _).mono ?_
    rintro e w2 ⟨rfl, hf2⟩
    have HF2 := Lib.hid hf2
    clear hf2
    go_wp2_with fail
    go_ret
    exact ⟨rfl, HF2.out⟩
  have hd4 : decide ((4 : Int) < (n : Int)) = false := decide_eq_false (by omega)
  by_cases h12 : 12 < nr
  · have hd : decide ((12 : Int) < (nr : Int)) = true := decide_eq_true (by omega)
    clear h2 h4 h12
    go_enter Try.func4, Try.ntmps4
    go_wp2_with fail
    refine (works_any _).mono ?_
    rintro e w2 ⟨rfl, hf2⟩
    have HF2 := Lib.hid hf2
    clear hf2
    go_wp2_with fail
    go_ret
    exact ⟨rfl, HF2.out⟩
  have hd12 : decide ((12 : Int) < (nr : Int)) = false := decide_eq_false (by omega)
  have hn4 : n ≤ 4 := by omega
  have hn2 : 2 ≤ n := by omega
  have hnr12 : nr ≤ 12 := by omega
  clear h2 h4 h12 hn64 hnr64 bad
  go_enter Try.func4, Try.ntmps4
  go_upto_region 5 with fail
  obtain ⟨w1, hw1⟩ : ∃ w1, w.alloc (.cells #[.string ⟨#[]⟩, .int .i64 0, .slice none 0 0] 36) = w1 := ⟨_, rfl⟩
  obtain ⟨g1, hg1⟩ : ∃ g1, w.heap.size = g1 := ⟨_, rfl⟩
  have R1 : Hid (w1.heap[g1]? = some (.cells #[.string ⟨#[]⟩, .int .i64 0, .slice none 0 0] 36 (0, 0))) := Lib.hid (by rw [← hw1, ← hg1]; exact new_block _ _)
  have HF1 : Hid (Fr No w w1) := Lib.hid (by rw [← hw1]; exact Fr.alloc _ _)
  rw [hw1, hg1]
  clear hw1 hg1
  go_wp2_with fail
  go_loopw [6, 7] (fun v i wr => ∃ q : Nat, q ≤ n ∧ i = .int .i64 q ∧ ∃ a na c, v = .slice a na c ∧ Hid (Fr No w wr) ∧ Hid ((prodV ((ks.take q).map tyOf)).length = na) ∧ Hid (RowW (fun _ => True) wr a 0 (allV ((ks.take q).map tyOf)))) (fun _ i _ => n - (intOf i).toNat)
  case atStart =>
    refine ⟨0, Nat.zero_le _, rfl, _, _, _, rfl, HF1, Lib.hid rfl, Lib.hid (rowW_lits _ R1.out trivial fun j t hj => ?_)⟩
    have hj1 : j < 1 := (List.getElem?_eq_some_iff.1 hj).1
    obtain rfl : j = 0 := by omega
    cases hj
    exact ⟨_, _, _, rfl, rfl, rfl, isV_leaf _ _⟩
  case round =>
    obtain ⟨q, hq, rfl, aA, na, cA, rfl, HF, HNA, HA⟩ := hrel
    by_cases hqn : q = n
    · obtain ⟨tys, htys⟩ : ∃ tys, ks.map tyOf = tys := ⟨_, rfl⟩
      have htk : ks.take q = ks := by rw [hqn, ← HN.out, List.take_length]
      rw [htk, htys] at HNA HA
      have HTY := Lib.hid htys
      have hna : na ≤ 256 := by
        rw [← HNA.out, ← htys]
        exact prodV_len _ (by rw [List.length_map, HN.out]; omega)
      subst hqn
      clear htk htys
      obtain ⟨w3, hw3⟩ : ∃ w3, w3 = wr := ⟨wr, rfl⟩
      rw [← hw3] at HF HA ⊢
      clear hw3 wr
      have hmk := make38 na (by omega) w3
      go_upto_region 23 with fail
      obtain ⟨w4, hw4⟩ : ∃ w4, w3.alloc (.cells (Array.replicate na (Value.bool false)) 4) = w4 := ⟨_, rfl⟩
      obtain ⟨gt, hgt⟩ : ∃ gt, w3.heap.size = gt := ⟨_, rfl⟩
      have RT4 : Hid (w4.heap[gt]? = some (.cells (takenC tys []) 4 (0, 0))) := Lib.hid (by rw [← hw4, ← hgt, takenC_nil tys HNA.out]; exact new_block _ _)
      have HF4 : Hid (Fr No w w4) := Lib.hid (by rw [← hw4]; exact HF.out.then (Fr.alloc _ _))
      have HA4 : Hid (RowW (fun b => b < gt) w4 aA 0 (allV tys)) := Lib.hid (by rw [← hw4, ← hgt]; exact HA.out.keep (fun b hb _ => ⟨(Fr.alloc _ _).block b hb no_one, hb⟩) _ 0 _)
      have HWG : Hid (w.heap.size ≤ gt) := Lib.hid (by rw [← hgt]; exact HF.out.size)
      rw [hw4, hgt]
      clear hw4 hgt hmk HA HF
      obtain ⟨RP, hRP⟩ : ∃ RP, rows.map (rowP ks) = RP := ⟨_, rfl⟩
      have HRP := Lib.hid hRP
      clear hRP
      go_wp2_with fail
      go_loopw [13, 15, 16] (fun v13 v15 v16 wx => ∃ i : Nat, i ≤ nr ∧ v16 = .int .i64 i ∧ ∃ aP cP, v13 = .slice aP i cP ∧ ∃ B, v15 = .bool B ∧ Hid (allFresh tys [] (RP.take i) = B) ∧ Hid (TOut (fun b => gt < b) (gt + 1) wx (.slice aP i cP) i ((RP.take i).map tupP)) ∧ Hid (wx.heap[gt]? = some (.cells (takenC tys (RP.take i)) 4 (0, 0))) ∧ Hid (Fr (fun b => gt ≤ b) w4 wx)) (fun _ _ i _ => nr - (intOf i).toNat)
      case atStart => exact ⟨0, Nat.zero_le _, rfl, none, 0, rfl, true, rfl, Lib.hid rfl, Lib.hid (OutG.nil _ _ _), RT4, Lib.hid (Fr.refl _ _)⟩
      case round =>
        obtain ⟨i, hi, rfl, aP, cP, rfl, B, rfl, HB, HP, HT, HX4⟩ := hrel
        by_cases hin : i = nr
        · have hRPL : RP.length = nr := by rw [← HRP.out, List.length_map, HNR.out]
          have hrt : RP.take i = RP := by rw [hin, ← hRPL, List.take_length]
          rw [hrt] at HB HP HT
          have hok : ∀ r ∈ RP, pl0 tys r := by
            intro r hr
            rw [← HRP.out] at hr
            obtain ⟨r0, hr0, rfl⟩ := List.mem_map.1 hr
            obtain ⟨j, hj⟩ := List.getElem?_of_mem hr0
            rw [← HTY.out]
            exact rowP_ok ks r0 (by rw [HN.out, (HRW.out j r0 hj).1]; exact hn4)
          have htl : tys.length = q := by rw [← HTY.out, List.length_map, HN.out]
          have HLAW := Lib.hid (values_law (l := tys) (rs := RP) (by omega) (by omega) (by omega) hok)
          have HPL : Hid (partsL (RP.map tupP) ≤ 1048576) := Lib.hid (by
            have h1 := partsL_tup RP hok
            have h2 : RP.length * (1 + 2 * tys.length) ≤ 12 * 9 := Nat.mul_le_mul (by omega) (by omega)
            omega)
          have HWF : Hid (wfL infos18 (RP.map tupP)) := Lib.hid (wfL_mem.2 fun p hp => by
            obtain ⟨r, hr, rfl⟩ := List.mem_map.1 hp
            exact wf_tupP (by omega) (hok r hr))
          have HLN : Hid ((RP.map tupP).length = nr) := Lib.hid (by rw [List.length_map, hRPL])
          subst hin
          have HFW : Hid (Fr No w wr) := Lib.hid (HF4.out.own HX4.out (fun b hb => Nat.le_trans HWG.out hb))
          have HROW : Hid (Row w.heap.size (fun _ => True) wr aP 0 (RP.map tupP)) := Lib.hid (row_up (ok := fun _ => True) (fun _ _ => trivial) aP 0 _ (row_of_outT HP.out (fun _ _ _ => trivial) (fun _ _ _ => trivial)))
          clear hRPL hrt hok htl HP HX4 HRW HK
          obtain ⟨w8, hw8⟩ : ∃ w8, w8 = wr := ⟨wr, rfl⟩
          rw [← hw8] at HT HFW HROW ⊢
          clear hw8 wr
          rw [HB.out] at HLAW
          go_wp2_with fail
          go_loopw [22, 23] (fun v22 v23 wx => ∃ j : Nat, j ≤ na ∧ v23 = .int .i64 j ∧ ∃ C, v22 = .bool C ∧ Hid (((prodV tys).take j).all (takenBy RP) = C) ∧ Hid (Fr No w8 wx)) (fun _ v _ => na - (intOf v).toNat)
          case atStart => exact ⟨0, Nat.zero_le _, rfl, true, rfl, Lib.hid rfl, Lib.hid (Fr.refl _ _)⟩
          case round =>
            obtain ⟨j, hj, rfl, C, rfl, HC, HX8⟩ := hrel
            by_cases hjn : j = na
            · have HCT : Hid (allTaken tys RP = C) := Lib.hid (by
                have h1 := HC.out
                rw [hjn, ← HNA.out, List.take_length] at h1
                exact h1)
              rw [HCT.out] at HLAW
              subst hjn
              have HF8 := Lib.hid (HFW.out.then HX8.out)
              obtain ⟨V1, hV1⟩ : ∃ V1, checkP infos18 (RP.map tupP) false = V1 := ⟨_, rfl⟩
              obtain ⟨V2, hV2⟩ : ∃ V2, checkP infos18 (RP.map tupP) true = V2 := ⟨_, rfl⟩
              have E1 := Lib.hid hV1
              have E2 := Lib.hid hV2
              rw [hV1, hV2] at HLAW
              clear hV1 hV2
              have HCK : Hid (∀ (g : Nat) (wh : Bool) (w' : World), Infs w' (some ⟨g, 0, none⟩) infos18 → Fr No wr w' → Calls Try.prog 11 #[.slice aP i cP, .slice (some ⟨g, 0, none⟩) 8 8, .bool wh] w' (SaidI w' (checkP infos18 (RP.map tupP) wh))) :=
                Lib.hid (fun g wh w' h5 h6 => check_any w.heap.size infos18 (RP.map tupP) i cP 8 8 aP _ wh w' HLN.out rfl (by omega) (by have := HPL.out; omega) HWF.out (row_keepNo HROW.out (HX8.out.then h6)) h5 (HF8.out.then h6).size)
              go_wp2_with fail
              refine (infos_any _).mono ?_
              rintro e w9 ⟨hf, g9, rfl, hi9⟩
              have HF9 : Hid (Fr No wr w9) := Lib.hid hf
              have HI9 := Lib.hid hi9
              clear hf hi9
              go_wp2_with fail
              refine (HCK.out g9 false w9 HI9.out HF9.out).mono ?_
              rintro e w10 ⟨rfl, hf⟩
              have HF10 := Lib.hid (HF9.out.then hf)
              clear hf
              rw [E1.out]
              go_wp2_with fail
              refine (infos_any _).mono ?_
              rintro e w11 ⟨hf, g11, rfl, hi11⟩
              have HF11 := Lib.hid (HF10.out.then hf)
              have HI11 := Lib.hid hi11
              clear hf hi11
              go_wp2_with fail
              refine (HCK.out g11 true w11 HI11.out HF11.out).mono ?_
              rintro e w12 ⟨rfl, hf⟩
              have HF12 := Lib.hid (HF11.out.then hf)
              clear hf
              rw [E2.out]
              clear E1 E2 HB HC HCT
              cases B with
              | false =>
                cases C with
                | false =>
                  obtain rfl : V1 = 14 := HLAW.out.1
                  obtain rfl : V2 = 14 := HLAW.out.2
                  clear HLAW
                  go_wp2_with fail
                  refine (works_any _).mono ?_
                  rintro e w13 ⟨rfl, hf⟩
                  have HF13 := Lib.hid (HF12.out.then hf)
                  clear hf
                  go_wp2_with fail
                  go_ret
                  exact ⟨rfl, HF8.out.then HF13.out⟩
                | true =>
                  obtain rfl : V1 = 14 := HLAW.out.1
                  obtain rfl : V2 = 14 := HLAW.out.2
                  clear HLAW
                  go_wp2_with fail
                  refine (works_any _).mono ?_
                  rintro e w13 ⟨rfl, hf⟩
                  have HF13 := Lib.hid (HF12.out.then hf)
                  clear hf
                  go_wp2_with fail
                  go_ret
                  exact ⟨rfl, HF8.out.then HF13.out⟩
              | true =>
                cases C with
                | false =>
                  obtain rfl : V1 = 0 := HLAW.out.1
                  obtain rfl : V2 = 14 := HLAW.out.2
                  clear HLAW
                  go_wp2_with fail
                  refine (works_any _).mono ?_
                  rintro e w13 ⟨rfl, hf⟩
                  have HF13 := Lib.hid (HF12.out.then hf)
                  clear hf
                  go_wp2_with fail
                  go_ret
                  exact ⟨rfl, HF8.out.then HF13.out⟩
                | true =>
                  obtain rfl : V1 = 0 := HLAW.out.1
                  obtain rfl : V2 = 0 := HLAW.out.2
                  clear HLAW
                  go_wp2_with fail
                  refine (works_any _).mono ?_
                  rintro e w13 ⟨rfl, hf⟩
                  have HF13 := Lib.hid (HF12.out.then hf)
                  clear hf
                  go_wp2_with fail
                  go_ret
                  exact ⟨rfl, HF8.out.then HF13.out⟩
            · obtain ⟨ksv, hks⟩ : ∃ ksv, (prodV tys)[j]? = some ksv := ⟨_, List.getElem?_eq_getElem (by rw [HNA.out]; omega)⟩
              have HCN : Hid (((prodV tys).take (j + 1)).all (takenBy RP) = (C && takenBy RP ksv)) := Lib.hid (by
                rw [take_snoc hks, List.all_append, HC.out]
                simp)
              have cj : wr.cell? ⟨gt, j, none⟩ = some (.bool (takenBy RP ksv)) := by
                rw [cell_of (HX8.out.keeps HT.out no_one) j, takenC, List.getElem?_toArray, List.getElem?_map, hks]
                rfl
              have hjna : (j : Int) < (na : Int) := by omega
              clear hks
              cases C with
              | false =>
                go_wp2_with fail
                exact ⟨⟨j + 1, by omega, by go_num, false, rfl, HCN, HX8⟩, by simp [intOf]; omega⟩
              | true =>
                go_wp2_with fail
                exact ⟨⟨j + 1, by omega, by go_num, _, rfl, HCN, HX8⟩, by simp [intOf]; omega⟩
        · obtain ⟨r, hr⟩ : ∃ r, rows[i]? = some r := ⟨_, List.getElem?_eq_getElem (by rw [HNR.out]; omega)⟩
          obtain ⟨hr4, b1, off1, rfl, hcells⟩ := HRW.out i r hr
          have HR := Lib.hid hr
          have HR4 := Lib.hid hr4
          have HCL := Lib.hid hcells
          clear hr hr4 hcells
          obtain ⟨pr, hpr⟩ : ∃ pr, rowP ks r = pr := ⟨_, rfl⟩
          have HPR := Lib.hid hpr
          have HPI : Hid (RP[i]? = some pr) := Lib.hid (by rw [← HRP.out, List.getElem?_map, HR.out, ← hpr]; rfl)
          have HPRL : Hid (pr.length = q) := Lib.hid (by rw [← hpr, rowP_len (by rw [HN.out, HR4.out]; exact hn4), HN.out])
          clear hpr
          have hilt : (i : Int) < (nr : Int) := by omega
          go_upto_region 28 with fail
          obtain ⟨w5, hw5⟩ : ∃ w5, wr.alloc (.cells #[.int .u8 5, .string ⟨#[]⟩, .int .i64 0, .slice none 0 0] 40) = w5 := ⟨_, rfl⟩
          obtain ⟨gp, hgp⟩ : ∃ gp, wr.heap.size = gp := ⟨_, rfl⟩
          have RP5 : Hid (w5.heap[gp]? = some (.cells #[.int .u8 5, .string ⟨#[]⟩, .int .i64 0, .slice none 0 0] 40 (0, 0))) := Lib.hid (by rw [← hw5, ← hgp]; exact new_block _ _)
          have HF5 : Hid (Fr No wr w5) := Lib.hid (by rw [← hw5]; exact Fr.alloc _ _)
          have HGP := Lib.hid hgp
          have HGG : Hid (gt < gp) := Lib.hid (by rw [← hgp]; exact lt_of_block HT.out)
          rw [hw5, hgp]
          clear hw5 hgp
          obtain ⟨w0, hw0⟩ : ∃ w0, w0 = wr := ⟨wr, rfl⟩
          rw [← hw0] at HP HT HX4 HF5 HGP
          clear hw0 wr
          have HFW5 : Hid (Fr No w w5) := Lib.hid ((HF4.out.own HX4.out (fun i h => Nat.le_trans HWG.out h)).then HF5.out)
          have HGW : Hid (w.heap.size ≤ gp) := Lib.hid (Nat.le_trans HWG.out (Nat.le_of_lt HGG.out))
          go_wp2_with fail
          go_loopw [18] (fun v18 wx => ∃ k : Nat, k ≤ q ∧ v18 = .int .i64 k ∧ ∃ aK cK, Hid (wx.heap[gp]? = some (.cells #[.int .u8 5, .string ⟨#[]⟩, .int .i64 0, .slice aK k cK] 40 (0, 0))) ∧ Hid (TOut (fun b => gp < b) (gp + 1) wx (.slice aK k cK) k (pr.take k)) ∧ Hid (Fr (fun b => gp ≤ b) w5 wx)) (fun i _ => q - (intOf i).toNat)
          case atStart => exact ⟨0, Nat.zero_le _, rfl, none, 0, RP5, Lib.hid (OutG.nil _ _ _), Lib.hid (Fr.refl _ _)⟩
          case round =>
            obtain ⟨k, hk, rfl, aK, cK, RK, HOK, HX5⟩ := hrel
            by_cases hkq : k = q
            · subst hkq
              have HXO : Hid (Fr (fun b => w0.heap.size ≤ b) w0 wr) := Lib.hid (by
                rw [HGP.out]
                exact (HF5.out.new _).trans HX5.out (fun _ _ h => h))
              have HPO := Lib.hid (HP.out.old keptT HXO.out)
              have HPB : Hid (∀ b, (Value.slice aP i cP).ownBlock = some b → gt + 1 ≤ b ∧ b < gp) := Lib.hid (fun b e => by
                have h := HP.out.block e
                rw [HGP.out] at h
                exact h)
              have HTW : Hid (wr.heap[gt]? = some (.cells (takenC tys (RP.take i)) 4 (0, 0))) := Lib.hid (HXO.out.keeps HT.out (by rw [HGP.out]; have := HGG.out; omega))
              have hpt : pr.take k = pr := by rw [← HPRL.out, List.take_length]
              rw [hpt] at HOK
              have HIR : Hid (Is 0 (fun b => gp < b ∧ Av (.slice aP i cP) b) wr (tupP pr) (.agg #[.int .u8 5, .string ⟨#[]⟩, .int .i64 0, .slice aK k cK])) := Lib.hid (by
                simp only [tupP, Is]
                refine ⟨aK, cK, by rw [HPRL.out]; rfl, row_of_outT HOK.out (fun b hb _ => ⟨by omega, fun e => by have := (HPB.out b e).2; omega⟩) (fun b _ hb => ⟨hb, fun e => by have := (HPB.out b e).2; omega⟩)⟩)
              have HIP2 : Hid (Is 0 (fun b => gt < b ∧ Av (.slice aP i cP) b) wr (tupP pr) (.agg #[.int .u8 5, .string ⟨#[]⟩, .int .i64 0, .slice aK k cK])) := Lib.hid (HIR.out.mono (fun b hb => ⟨by have := HGG.out; omega, hb.2⟩))
              have hsz : gt + 1 ≤ wr.heap.size := by
                have h1 := lt_of_block RK.out
                have := HGG.out
                omega
              obtain ⟨⟨c0', c1', c2', c3'⟩, _, _, _, _⟩ := z4 RK.out
              clear hpt HOK
              go_wp2_with (at_builtin; refine wpList_push keptT elem40 rfl _ _ 22 rfl Try.underlying22 (fun b => gt < b) (gt + 1) (.slice aP i cP) i ((RP.take i).map tupP) rfl (HPO.out.no keptT (Fr.alloc _ _)) _ [.int .u8 5, .string ⟨#[]⟩, .int .i64 0, .slice aK k cK] 40 rfl (new_block _ _) (by simp [Value.oneCell']) rfl (tupP pr) (Is.no HIP2.out (Fr.alloc _ _)) (by unfold maxLen; omega) (by omega) (Nat.le_trans hsz (Fr.alloc wr (.cells #[.int .u8 5, .string ⟨#[]⟩, .int .i64 0, .slice aK k cK] 40)).size) ?_
                           intro a13 c13 w7 HO7 HG7)
              have HA7 : Hid (∀ b, b < wr.heap.size → Av (.slice aP i cP) b → w7.heap[b]? = wr.heap[b]?) := Lib.hid (fun b hb ha => (HG7.out.av b (Nat.lt_of_lt_of_le hb (Fr.alloc wr (.cells #[.int .u8 5, .string ⟨#[]⟩, .int .i64 0, .slice aK k cK] 40)).size) ha).1.trans ((Fr.alloc wr _).block b hb no_one))
              have HAG : Hid (∀ b, b ≤ gt → Av (.slice aP i cP) b) := Lib.hid (fun b hb e => by have := (HPB.out b e).1; omega)
              have HAP : Hid (∀ b, gp ≤ b → Av (.slice aP i cP) b) := Lib.hid (fun b hb e => by have := (HPB.out b e).2; omega)
              have RP7 : Hid (w7.heap[gp]? = some (.cells #[.int .u8 5, .string ⟨#[]⟩, .int .i64 0, .slice aK k cK] 40 (0, 0))) := Lib.hid ((HA7.out gp (lt_of_block RK.out) (HAP.out gp (Nat.le_refl _))).trans RK.out)
              have RT7 : Hid (w7.heap[gt]? = some (.cells (mixC tys (RP.take i) pr 0) 4 (0, 0))) := Lib.hid (by
                rw [mixC_zero]
                exact (HA7.out gt (lt_of_block HTW.out) (HAG.out gt (Nat.le_refl _))).trans HTW.out)
              have HI7 : Hid (Is 0 (fun b => gp < b) w7 (tupP pr) (.agg #[.int .u8 5, .string ⟨#[]⟩, .int .i64 0, .slice aK k cK])) := Lib.hid (isT_keep2 (fun b hb ho => ⟨HA7.out b hb ho.2, ho.1⟩) _ _ HIR.out)
              have HX7 : Hid (Fr (fun b => gt ≤ b) w4 w7) := Lib.hid ((((HX4.out.then HF5.out).trans HX5.out (fun b _ (hb : gp ≤ b) => by have := HGG.out; show gt ≤ b; omega)).then (Fr.alloc _ _)).trans HG7.out.fr (fun b _ (hb : gt + 1 ≤ b) => by show gt ≤ b; omega))
              have HFI := Lib.hid (allFresh_snoc tys (RP.take i) [] pr)
              clear HG7 HIP2 HIR HPO HXO HTW RK HX5 HP HT HA7 HPB HAG HAP RP5 HF5 HX4 c0' c1' c2' c3'
              go_wp2_with fail
              go_loopw [20, 21] (fun v20 v21 wx => ∃ j : Nat, j ≤ na ∧ v21 = .int .i64 j ∧ ∃ F, v20 = .bool F ∧ Hid ((((prodV tys).take j).any fun v => tkL pr v && !takenBy (RP.take i) v) = F) ∧ Hid (wx.heap[gt]? = some (.cells (mixC tys (RP.take i) pr j) 4 (0, 0))) ∧ Hid (Fr (Just gt) w7 wx)) (fun _ v _ => na - (intOf v).toNat)
              case atStart => exact ⟨0, Nat.zero_le _, rfl, false, rfl, Lib.hid rfl, RT7, Lib.hid (Fr.refl _ _)⟩
              case round =>
                obtain ⟨j, hj, rfl, F, rfl, HFF, RTJ, HXJ⟩ := hrel
                by_cases hjn : j = na
                · subst hjn
                  have HFR : Hid (freshIn tys (RP.take i) pr = F) := Lib.hid (by
                    have h1 := HFF.out
                    rw [← HNA.out, List.take_length] at h1
                    exact h1)
                  have RTN : Hid (wr.heap[gt]? = some (.cells (takenC tys (RP.take (i + 1))) 4 (0, 0))) := Lib.hid (by
                    have h1 := RTJ.out
                    rw [← HNA.out, mixC_full, ← take_snoc HPI.out] at h1
                    exact h1)
                  have HFN : Hid (allFresh tys [] (RP.take (i + 1)) = (B && F)) := Lib.hid (by
                    rw [take_snoc HPI.out, HFI.out, HB.out, ← HFR.out]
                    rfl)
                  have HON : Hid (TOut (fun b => gt < b) (gt + 1) wr (.slice a13 (i + 1) c13) (i + 1) ((RP.take (i + 1)).map tupP)) := Lib.hid (by
                    rw [take_snoc HPI.out, List.map_append]
                    exact HO7.out.keep keptT HXJ.out (fun b (hb : gt < b) (e : b = gt) => by omega) (fun b hb (e : b = gt) => by have := (HO7.out.block hb).1; omega))
                  have HXN : Hid (Fr (fun b => gt ≤ b) w4 wr) := Lib.hid (HX7.out.trans HXJ.out (fun b _ (e : b = gt) => by show gt ≤ b; omega))
                  cases B with
                  | false =>
                    go_wp2_with fail
                    exact ⟨⟨i + 1, by omega, by go_num, a13, c13, rfl, false, rfl, HFN, HON, RTN, HXN⟩, by simp [intOf]; omega⟩
                  | true =>
                    cases F with
                    | false =>
                      go_wp2_with fail
                      exact ⟨⟨i + 1, by omega, by go_num, a13, c13, rfl, false, rfl, HFN, HON, RTN, HXN⟩, by simp [intOf]; omega⟩
                    | true =>
                      go_wp2_with fail
                      exact ⟨⟨i + 1, by omega, by go_num, a13, c13, rfl, true, rfl, HFN, HON, RTN, HXN⟩, by simp [intOf]; omega⟩
                · obtain ⟨ksv, hks⟩ : ∃ ksv, (prodV tys)[j]? = some ksv := ⟨_, List.getElem?_eq_getElem (by rw [HNA.out]; omega)⟩
                  have HKV := Lib.hid hks
                  have HXA : Hid (Fr (fun b => gt ≤ b) w4 wr) := Lib.hid (HX7.out.trans HXJ.out (fun b _ (e : b = gt) => by show gt ≤ b; omega))
                  have HAW : Hid (RowW (fun b => b < gt) wr aA 0 (allV tys)) := Lib.hid (HA4.out.keep (fun b hb ho => ⟨HXA.out.block b hb (by omega), ho⟩) _ 0 _)
                  obtain ⟨bA, oA, e0, e1, e2, rfl, hbA, d0, d1, d2, hiv⟩ := RowW.at_ 0 _ HAW.out j (tupV ksv) (by rw [allV, List.getElem?_map, hks]; rfl)
                  rw [Nat.zero_add] at d0 d1 d2
                  obtain ⟨sA, nA, ak, mk, ck, lk, rfl, rfl, rfl, hlk, hmk, _, _⟩ := isV_cells hiv
                  have HIVW := Lib.hid hiv
                  have RPw : Hid (wr.heap[gp]? = some (.cells #[.int .u8 5, .string ⟨#[]⟩, .int .i64 0, .slice aK k cK] 40 (0, 0))) := Lib.hid (HXJ.out.keeps RP7.out (fun (e : gp = gt) => by have := HGG.out; omega))
                  have HIPW : Hid (IsT 0 wr (tupP pr) (.agg #[.int .u8 5, .string ⟨#[]⟩, .int .i64 0, .slice aK k cK])) := Lib.hid (Is.mono (isT_keep2 (fun b hb ho => ⟨HXJ.out.block b hb (fun (e : b = gt) => by have := HGG.out; omega), ho⟩) _ _ HI7.out) (fun _ _ => trivial))
                  have HTT : Hid (tk (tupP pr) (tupV ksv) = tkL pr ksv) := Lib.hid (tk_tup (by
                    have h2 := vl0_len (mem_prod.1 (List.mem_of_getElem? hks))
                    rw [← HTY.out, List.length_map, HN.out] at h2
                    rw [HPRL.out, h2]))
                  have HPS : Hid (parts (tupP pr) < 100) := Lib.hid (by
                    have h1 := pl0_parts (ks.map tyOf) pr (by rw [← HPR.out]; exact rowP_ok ks r (by rw [HN.out, HR4.out]; exact hn4))
                    rw [List.length_map, HN.out] at h1
                    simp only [tupP, parts]
                    omega)
                  have HTK : Hid (∀ w', Fr No wr w' → Calls Try.prog 15 #[.agg #[.int .u8 5, .string ⟨#[]⟩, .int .i64 0, .slice aK k cK], .agg #[.string sA, .int .i64 nA, .slice ak mk ck]] w' (SaidT w' (tkL pr ksv))) := Lib.hid (fun w' hf => by
                    rw [← HTT.out]
                    exact takes_any 0 (fun b => b < gt) 100 (tupP pr) HPS.out (by omega) (tupV ksv) _ _ w' (HIPW.out.no hf) (HIVW.out.no hf))
                  have HCJ : Hid (∀ w', Fr No wr w' → w'.cell? ⟨gt, j, none⟩ = some (.bool (takenBy (RP.take i) ksv)) ∧ w'.frozen? ⟨gt, j, none⟩ = false) := Lib.hid (fun w' hf => ⟨(cell_of (hf.keeps RTJ.out no_one) j).trans (mixC_at HKV.out), free_of (hf.keeps RTJ.out no_one) j⟩)
                  have HFJ : Hid ((((prodV tys).take (j + 1)).any fun v => tkL pr v && !takenBy (RP.take i) v) = (F || (tkL pr ksv && !takenBy (RP.take i) ksv))) := Lib.hid (by
                    rw [take_snoc HKV.out, List.any_append, HFF.out]
                    simp)
                  have HMS : Hid ((tkL pr ksv && !takenBy (RP.take i) ksv) = false → mixC tys (RP.take i) pr (j + 1) = mixC tys (RP.take i) pr j) := Lib.hid (fun h => mixC_same HKV.out h)
                  have HMT : Hid (tkL pr ksv = true → mixC tys (RP.take i) pr (j + 1) = (mixC tys (RP.take i) pr j).setIfInBounds j (.bool true)) := Lib.hid (fun h => mixC_set HKV.out h)
                  have HS : Hid (∀ w', Fr No wr w' → w'.cell? ⟨gp, 0, none⟩ = some (.int .u8 5) ∧ w'.cell? ⟨gp, 1, none⟩ = some (.string ⟨#[]⟩) ∧ w'.cell? ⟨gp, 2, none⟩ = some (.int .i64 0) ∧ w'.cell? ⟨gp, 3, none⟩ = some (.slice aK k cK) ∧ w'.cell? ⟨bA, oA + j * 3, none⟩ = some (.string sA) ∧ w'.cell? ⟨bA, oA + j * 3 + 1, none⟩ = some (.int .i64 nA) ∧ w'.cell? ⟨bA, oA + j * 3 + 2, none⟩ = some (.slice ak mk ck) ∧ w'.cell? ⟨gt, j, none⟩ = some (.bool (takenBy (RP.take i) ksv))) := Lib.hid (fun w' hf => ⟨cell_of (hf.keeps RPw.out no_one) 0, cell_of (hf.keeps RPw.out no_one) 1, cell_of (hf.keeps RPw.out no_one) 2, cell_of (hf.keeps RPw.out no_one) 3, hf.cell d0, hf.cell d1, hf.cell d2, (HCJ.out w' hf).1⟩)
                  have hjna : (j : Int) < (na : Int) := by omega
                  obtain ⟨BT, hBT⟩ : ∃ BT, tkL pr ksv = BT := ⟨_, rfl⟩
                  obtain ⟨D, hD⟩ : ∃ D, takenBy (RP.take i) ksv = D := ⟨_, rfl⟩
                  rw [hBT] at HTK HFJ HMS HMT
                  rw [hD] at HFJ HMS HS HCJ
                  clear hks d0 d1 d2 hiv hlk hmk hbA hBT hD HTT HKV
                  cases BT with
                  | false =>
                    go_upto_region 38 with fail
                    refine region_e (fun w' => w'.cell? ⟨gp, 0, none⟩ = some (.int .u8 5) ∧ w'.cell? ⟨gp, 1, none⟩ = some (.string ⟨#[]⟩) ∧ w'.cell? ⟨gp, 2, none⟩ = some (.int .i64 0) ∧ w'.cell? ⟨gp, 3, none⟩ = some (.slice aK k cK) ∧ w'.cell? ⟨bA, oA + j * 3, none⟩ = some (.string sA) ∧ w'.cell? ⟨bA, oA + j * 3 + 1, none⟩ = some (.int .i64 nA) ∧ w'.cell? ⟨bA, oA + j * 3 + 2, none⟩ = some (.slice ak mk ck) ∧ w'.cell? ⟨gt, j, none⟩ = some (.bool D)) [] (by kernel_rfl) ?_ (fun hHeld => ?_)
                    · exact HS.out _ (Fr.drew _)
                    refine take_op 0 (some 132) (Op.load 40 ( .tmp 17)) 40 ?_ (by kernel_rfl) (by kernel_rfl) (by kernel_rfl) (fun _ _ _ h => h) ?_ (by assumption) ?_
                    rotate_left
                    · intro w hSw; (try dsimp only at hSw); go_simp; (try (with_reducible rfl))
                    try simp only [Act.put, List.setIfInBounds_toArray, List.set_cons_zero, List.set_cons_succ]
                    refine take_op 1 (some 133) (Op.move ( .tmp 6)) 34 ?_ (by kernel_rfl) (by kernel_rfl) (by kernel_rfl) (fun _ _ _ h => h) ?_ (by assumption) ?_
                    rotate_left
                    · intro w hSw; (try dsimp only at hSw); go_simp; (try (with_reducible rfl))
                    try simp only [Act.put, List.setIfInBounds_toArray, List.set_cons_zero, List.set_cons_succ]
                    refine take_op 2 (some 134) (Op.move ( .tmp 21)) 3 ?_ (by kernel_rfl) (by kernel_rfl) (by kernel_rfl) (fun _ _ _ h => h) ?_ (by assumption) ?_
                    rotate_left
                    · intro w hSw; (try dsimp only at hSw); go_simp; (try (with_reducible rfl))
                    try simp only [Act.put, List.setIfInBounds_toArray, List.set_cons_zero, List.set_cons_succ]
                    refine take_op 3 (some 135) (Op.indexAddr 34 ( .tmp 133) ( .tmp 134)) 0 ?_ (by kernel_rfl) (by kernel_rfl) (by kernel_rfl) (fun _ _ _ h => h) ?_ (by assumption) ?_
                    rotate_left
                    · intro w hSw; (try dsimp only at hSw); go_simp; (try (with_reducible rfl))
                    try simp only [Act.put, List.setIfInBounds_toArray, List.set_cons_zero, List.set_cons_succ]
                    refine take_op 4 (some 136) (Op.load 36 ( .tmp 135)) 36 ?_ (by kernel_rfl) (by kernel_rfl) (by kernel_rfl) (fun _ _ _ h => h) ?_ (by assumption) ?_
                    rotate_left
                    · intro w hSw; (try dsimp only at hSw); go_simp; (try (with_reducible rfl))
                    try simp only [Act.put, List.setIfInBounds_toArray, List.set_cons_zero, List.set_cons_succ]
                    refine ready_e (rs := [5]) (by kernel_rfl) (by simp) ?_
                    refine (do_mid (o := _) rfl (fun K hK => ?_) none_e) -- [(137, 'F15')]
                    go_simp
                    go_at_call 15
                    refine (HTK.out wr.drew ((Fr.drew wr))).mono ?_
                    rintro e' wz1 ⟨rfl, hf⟩
                    have HZ1 : Hid (Fr No wr wz1) := Lib.hid (((Fr.drew wr)).then hf)
                    have DZ1 : Hid (Fr No (wr.drew) wz1) := Lib.hid hf
                    clear hf
                    refine hK.out _ _ ?_ (fun hHeld => ?_)
                    · exact HS.out _ HZ1.out
                    clear hK K
                    try dsimp only
                    try simp only [Act.put, List.setIfInBounds_toArray, List.set_cons_zero, List.set_cons_succ]
                    refine take_op 6 (some 138) (Op.move ( .tmp 137)) 4 ?_ (by kernel_rfl) (by kernel_rfl) (by kernel_rfl) (fun _ _ _ h => h) ?_ (by assumption) ?_
                    rotate_left
                    · intro w hSw; (try dsimp only at hSw); go_simp; (try (with_reducible rfl))
                    try simp only [Act.put, List.setIfInBounds_toArray, List.set_cons_zero, List.set_cons_succ]
                    refine skip_op 7 (some 139) (by kernel_rfl) (by kernel_rfl) (by kernel_rfl) (fun _ _ _ h => h) (by assumption) ?_
                    try simp only [Act.put, List.setIfInBounds_toArray, List.set_cons_zero, List.set_cons_succ]
                    refine skip_op 8 (some 140) (by kernel_rfl) (by kernel_rfl) (by kernel_rfl) (fun _ _ _ h => h) (by assumption) ?_
                    try simp only [Act.put, List.setIfInBounds_toArray, List.set_cons_zero, List.set_cons_succ]
                    refine skip_op 9 (some 141) (by kernel_rfl) (by kernel_rfl) (by kernel_rfl) (fun _ _ _ h => h) (by assumption) ?_
                    try simp only [Act.put, List.setIfInBounds_toArray, List.set_cons_zero, List.set_cons_succ]
                    refine skip_op 10 (some 142) (by kernel_rfl) (by kernel_rfl) (by kernel_rfl) (fun _ _ _ h => h) (by assumption) ?_
                    try simp only [Act.put, List.setIfInBounds_toArray, List.set_cons_zero, List.set_cons_succ]
                    refine skip_op 11 (some 143) (by kernel_rfl) (by kernel_rfl) (by kernel_rfl) (fun _ _ _ h => h) (by assumption) ?_
                    try simp only [Act.put, List.setIfInBounds_toArray, List.set_cons_zero, List.set_cons_succ]
                    refine take_op 12 (some 144) (Op.pick ( .tmp 138) ( .tmp 143) ( .const (Value.bool false))) 4 ?_ (by kernel_rfl) (by kernel_rfl) (by kernel_rfl) (fun _ _ _ h => h) ?_ (by assumption) ?_
                    rotate_left
                    · intro w hSw; (try dsimp only at hSw); go_simp; (try (with_reducible rfl))
                    try simp only [Act.put, List.setIfInBounds_toArray, List.set_cons_zero, List.set_cons_succ]
                    refine done_e (by kernel_rfl) ?_ _
                    (try simp only [Exit.inBlock, Exit.then])
                    go_wp2_with fail
                    exact ⟨⟨j + 1, by omega, by go_num, F, rfl, Lib.hid (by rw [HFJ.out]; simp), Lib.hid (by rw [HMS.out (by simp)]; exact (HZ1.out).keeps RTJ.out no_one), Lib.hid (HXJ.out.then (HZ1.out))⟩, by simp [intOf]; omega⟩
                  | true =>
                    cases D with
                    | true =>
                      go_upto_region 38 with fail
                      refine region_e (fun w' => w'.cell? ⟨gp, 0, none⟩ = some (.int .u8 5) ∧ w'.cell? ⟨gp, 1, none⟩ = some (.string ⟨#[]⟩) ∧ w'.cell? ⟨gp, 2, none⟩ = some (.int .i64 0) ∧ w'.cell? ⟨gp, 3, none⟩ = some (.slice aK k cK) ∧ w'.cell? ⟨bA, oA + j * 3, none⟩ = some (.string sA) ∧ w'.cell? ⟨bA, oA + j * 3 + 1, none⟩ = some (.int .i64 nA) ∧ w'.cell? ⟨bA, oA + j * 3 + 2, none⟩ = some (.slice ak mk ck) ∧ w'.cell? ⟨gt, j, none⟩ = some (.bool true)) [] (by kernel_rfl) ?_ (fun hHeld => ?_)
                      · exact HS.out _ (Fr.drew _)
                      refine take_op 0 (some 132) (Op.load 40 ( .tmp 17)) 40 ?_ (by kernel_rfl) (by kernel_rfl) (by kernel_rfl) (fun _ _ _ h => h) ?_ (by assumption) ?_
                      rotate_left
                      · intro w hSw; (try dsimp only at hSw); go_simp; (try (with_reducible rfl))
                      try simp only [Act.put, List.setIfInBounds_toArray, List.set_cons_zero, List.set_cons_succ]
                      refine take_op 1 (some 133) (Op.move ( .tmp 6)) 34 ?_ (by kernel_rfl) (by kernel_rfl) (by kernel_rfl) (fun _ _ _ h => h) ?_ (by assumption) ?_
                      rotate_left
                      · intro w hSw; (try dsimp only at hSw); go_simp; (try (with_reducible rfl))
                      try simp only [Act.put, List.setIfInBounds_toArray, List.set_cons_zero, List.set_cons_succ]
                      refine take_op 2 (some 134) (Op.move ( .tmp 21)) 3 ?_ (by kernel_rfl) (by kernel_rfl) (by kernel_rfl) (fun _ _ _ h => h) ?_ (by assumption) ?_
                      rotate_left
                      · intro w hSw; (try dsimp only at hSw); go_simp; (try (with_reducible rfl))
                      try simp only [Act.put, List.setIfInBounds_toArray, List.set_cons_zero, List.set_cons_succ]
                      refine take_op 3 (some 135) (Op.indexAddr 34 ( .tmp 133) ( .tmp 134)) 0 ?_ (by kernel_rfl) (by kernel_rfl) (by kernel_rfl) (fun _ _ _ h => h) ?_ (by assumption) ?_
                      rotate_left
                      · intro w hSw; (try dsimp only at hSw); go_simp; (try (with_reducible rfl))
                      try simp only [Act.put, List.setIfInBounds_toArray, List.set_cons_zero, List.set_cons_succ]
                      refine take_op 4 (some 136) (Op.load 36 ( .tmp 135)) 36 ?_ (by kernel_rfl) (by kernel_rfl) (by kernel_rfl) (fun _ _ _ h => h) ?_ (by assumption) ?_
                      rotate_left
                      · intro w hSw; (try dsimp only at hSw); go_simp; (try (with_reducible rfl))
                      try simp only [Act.put, List.setIfInBounds_toArray, List.set_cons_zero, List.set_cons_succ]
                      refine ready_e (rs := [5]) (by kernel_rfl) (by simp) ?_
                      refine (do_mid (o := _) rfl (fun K hK => ?_) none_e) -- [(137, 'F15')]
                      go_simp
                      go_at_call 15
                      refine (HTK.out wr.drew ((Fr.drew wr))).mono ?_
                      rintro e' wz1 ⟨rfl, hf⟩
                      have HZ1 : Hid (Fr No wr wz1) := Lib.hid (((Fr.drew wr)).then hf)
                      have DZ1 : Hid (Fr No (wr.drew) wz1) := Lib.hid hf
                      clear hf
                      refine hK.out _ _ ?_ (fun hHeld => ?_)
                      · exact HS.out _ HZ1.out
                      clear hK K
                      try dsimp only
                      try simp only [Act.put, List.setIfInBounds_toArray, List.set_cons_zero, List.set_cons_succ]
                      refine take_op 6 (some 138) (Op.move ( .tmp 137)) 4 ?_ (by kernel_rfl) (by kernel_rfl) (by kernel_rfl) (fun _ _ _ h => h) ?_ (by assumption) ?_
                      rotate_left
                      · intro w hSw; (try dsimp only at hSw); go_simp; (try (with_reducible rfl))
                      try simp only [Act.put, List.setIfInBounds_toArray, List.set_cons_zero, List.set_cons_succ]
                      refine take_op 7 (some 139) (Op.move ( .tmp 14)) 38 ?_ (by kernel_rfl) (by kernel_rfl) (by kernel_rfl) (fun _ _ _ h => h) ?_ (by assumption) ?_
                      rotate_left
                      · intro w hSw; (try dsimp only at hSw); go_simp; (try (with_reducible rfl))
                      try simp only [Act.put, List.setIfInBounds_toArray, List.set_cons_zero, List.set_cons_succ]
                      refine take_op 8 (some 140) (Op.move ( .tmp 21)) 3 ?_ (by kernel_rfl) (by kernel_rfl) (by kernel_rfl) (fun _ _ _ h => h) ?_ (by assumption) ?_
                      rotate_left
                      · intro w hSw; (try dsimp only at hSw); go_simp; (try (with_reducible rfl))
                      try simp only [Act.put, List.setIfInBounds_toArray, List.set_cons_zero, List.set_cons_succ]
                      refine take_op 9 (some 141) (Op.indexAddr 38 ( .tmp 139) ( .tmp 140)) 0 ?_ (by kernel_rfl) (by kernel_rfl) (by kernel_rfl) (fun _ _ _ h => h) ?_ (by assumption) ?_
                      rotate_left
                      · intro w hSw; (try dsimp only at hSw); go_simp; (try (with_reducible rfl))
                      try simp only [Act.put, List.setIfInBounds_toArray, List.set_cons_zero, List.set_cons_succ]
                      refine take_op 10 (some 142) (Op.load 4 ( .tmp 141)) 4 ?_ (by kernel_rfl) (by kernel_rfl) (by kernel_rfl) (fun _ _ _ h => h) ?_ (by assumption) ?_
                      rotate_left
                      · intro w hSw; (try dsimp only at hSw); go_simp; (try (with_reducible rfl))
                      try simp only [Act.put, List.setIfInBounds_toArray, List.set_cons_zero, List.set_cons_succ]
                      refine take_op 11 (some 143) (Op.unOp UnOp.not 4 ( .tmp 142)) 4 ?_ (by kernel_rfl) (by kernel_rfl) (by kernel_rfl) (fun _ _ _ h => h) ?_ (by assumption) ?_
                      rotate_left
                      · intro w hSw; (try dsimp only at hSw); go_simp; (try (with_reducible rfl))
                      try simp only [Act.put, List.setIfInBounds_toArray, List.set_cons_zero, List.set_cons_succ]
                      refine take_op 12 (some 144) (Op.pick ( .tmp 138) ( .tmp 143) ( .const (Value.bool false))) 4 ?_ (by kernel_rfl) (by kernel_rfl) (by kernel_rfl) (fun _ _ _ h => h) ?_ (by assumption) ?_
                      rotate_left
                      · intro w hSw; (try dsimp only at hSw); go_simp; (try (with_reducible rfl))
                      try simp only [Act.put, List.setIfInBounds_toArray, List.set_cons_zero, List.set_cons_succ]
                      refine done_e (by kernel_rfl) ?_ _
                      (try simp only [Exit.inBlock, Exit.then])
                      go_wp2_with fail
                      exact ⟨⟨j + 1, by omega, by go_num, F, rfl, Lib.hid (by rw [HFJ.out]; simp), Lib.hid (by rw [HMS.out (by simp)]; exact (HZ1.out).keeps RTJ.out no_one), Lib.hid (HXJ.out.then (HZ1.out))⟩, by simp [intOf]; omega⟩
                    | false =>
                      go_upto_region 38 with fail
                      refine region_e (fun w' => w'.cell? ⟨gp, 0, none⟩ = some (.int .u8 5) ∧ w'.cell? ⟨gp, 1, none⟩ = some (.string ⟨#[]⟩) ∧ w'.cell? ⟨gp, 2, none⟩ = some (.int .i64 0) ∧ w'.cell? ⟨gp, 3, none⟩ = some (.slice aK k cK) ∧ w'.cell? ⟨bA, oA + j * 3, none⟩ = some (.string sA) ∧ w'.cell? ⟨bA, oA + j * 3 + 1, none⟩ = some (.int .i64 nA) ∧ w'.cell? ⟨bA, oA + j * 3 + 2, none⟩ = some (.slice ak mk ck) ∧ w'.cell? ⟨gt, j, none⟩ = some (.bool false)) [] (by kernel_rfl) ?_ (fun hHeld => ?_)
                      · exact HS.out _ (Fr.drew _)
                      refine take_op 0 (some 132) (Op.load 40 ( .tmp 17)) 40 ?_ (by kernel_rfl) (by kernel_rfl) (by kernel_rfl) (fun _ _ _ h => h) ?_ (by assumption) ?_
                      rotate_left
                      · intro w hSw; (try dsimp only at hSw); go_simp; (try (with_reducible rfl))
                      try simp only [Act.put, List.setIfInBounds_toArray, List.set_cons_zero, List.set_cons_succ]
                      refine take_op 1 (some 133) (Op.move ( .tmp 6)) 34 ?_ (by kernel_rfl) (by kernel_rfl) (by kernel_rfl) (fun _ _ _ h => h) ?_ (by assumption) ?_
                      rotate_left
                      · intro w hSw; (try dsimp only at hSw); go_simp; (try (with_reducible rfl))
                      try simp only [Act.put, List.setIfInBounds_toArray, List.set_cons_zero, List.set_cons_succ]
                      refine take_op 2 (some 134) (Op.move ( .tmp 21)) 3 ?_ (by kernel_rfl) (by kernel_rfl) (by kernel_rfl) (fun _ _ _ h => h) ?_ (by assumption) ?_
                      rotate_left
                      · intro w hSw; (try dsimp only at hSw); go_simp; (try (with_reducible rfl))
                      try simp only [Act.put, List.setIfInBounds_toArray, List.set_cons_zero, List.set_cons_succ]
                      refine take_op 3 (some 135) (Op.indexAddr 34 ( .tmp 133) ( .tmp 134)) 0 ?_ (by kernel_rfl) (by kernel_rfl) (by kernel_rfl) (fun _ _ _ h => h) ?_ (by assumption) ?_
                      rotate_left
                      · intro w hSw; (try dsimp only at hSw); go_simp; (try (with_reducible rfl))
                      try simp only [Act.put, List.setIfInBounds_toArray, List.set_cons_zero, List.set_cons_succ]
                      refine take_op 4 (some 136) (Op.load 36 ( .tmp 135)) 36 ?_ (by kernel_rfl) (by kernel_rfl) (by kernel_rfl) (fun _ _ _ h => h) ?_ (by assumption) ?_
                      rotate_left
                      · intro w hSw; (try dsimp only at hSw); go_simp; (try (with_reducible rfl))
                      try simp only [Act.put, List.setIfInBounds_toArray, List.set_cons_zero, List.set_cons_succ]
                      refine ready_e (rs := [5]) (by kernel_rfl) (by simp) ?_
                      refine (do_mid (o := _) rfl (fun K hK => ?_) none_e) -- [(137, 'F15')]
                      go_simp
                      go_at_call 15
                      refine (HTK.out wr.drew ((Fr.drew wr))).mono ?_
                      rintro e' wz1 ⟨rfl, hf⟩
                      have HZ1 : Hid (Fr No wr wz1) := Lib.hid (((Fr.drew wr)).then hf)
                      have DZ1 : Hid (Fr No (wr.drew) wz1) := Lib.hid hf
                      clear hf
                      refine hK.out _ _ ?_ (fun hHeld => ?_)
                      · exact HS.out _ HZ1.out
                      clear hK K
                      try dsimp only
                      try simp only [Act.put, List.setIfInBounds_toArray, List.set_cons_zero, List.set_cons_succ]
                      refine take_op 6 (some 138) (Op.move ( .tmp 137)) 4 ?_ (by kernel_rfl) (by kernel_rfl) (by kernel_rfl) (fun _ _ _ h => h) ?_ (by assumption) ?_
                      rotate_left
                      · intro w hSw; (try dsimp only at hSw); go_simp; (try (with_reducible rfl))
                      try simp only [Act.put, List.setIfInBounds_toArray, List.set_cons_zero, List.set_cons_succ]
                      refine take_op 7 (some 139) (Op.move ( .tmp 14)) 38 ?_ (by kernel_rfl) (by kernel_rfl) (by kernel_rfl) (fun _ _ _ h => h) ?_ (by assumption) ?_
                      rotate_left
                      · intro w hSw; (try dsimp only at hSw); go_simp; (try (with_reducible rfl))
                      try simp only [Act.put, List.setIfInBounds_toArray, List.set_cons_zero, List.set_cons_succ]
                      refine take_op 8 (some 140) (Op.move ( .tmp 21)) 3 ?_ (by kernel_rfl) (by kernel_rfl) (by kernel_rfl) (fun _ _ _ h => h) ?_ (by assumption) ?_
                      rotate_left
                      · intro w hSw; (try dsimp only at hSw); go_simp; (try (with_reducible rfl))
                      try simp only [Act.put, List.setIfInBounds_toArray, List.set_cons_zero, List.set_cons_succ]
                      refine take_op 9 (some 141) (Op.indexAddr 38 ( .tmp 139) ( .tmp 140)) 0 ?_ (by kernel_rfl) (by kernel_rfl) (by kernel_rfl) (fun _ _ _ h => h) ?_ (by assumption) ?_
                      rotate_left
                      · intro w hSw; (try dsimp only at hSw); go_simp; (try (with_reducible rfl))
                      try simp only [Act.put, List.setIfInBounds_toArray, List.set_cons_zero, List.set_cons_succ]
                      refine take_op 10 (some 142) (Op.load 4 ( .tmp 141)) 4 ?_ (by kernel_rfl) (by kernel_rfl) (by kernel_rfl) (fun _ _ _ h => h) ?_ (by assumption) ?_
                      rotate_left
                      · intro w hSw; (try dsimp only at hSw); go_simp; (try (with_reducible rfl))
                      try simp only [Act.put, List.setIfInBounds_toArray, List.set_cons_zero, List.set_cons_succ]
                      refine take_op 11 (some 143) (Op.unOp UnOp.not 4 ( .tmp 142)) 4 ?_ (by kernel_rfl) (by kernel_rfl) (by kernel_rfl) (fun _ _ _ h => h) ?_ (by assumption) ?_
                      rotate_left
                      · intro w hSw; (try dsimp only at hSw); go_simp; (try (with_reducible rfl))
                      try simp only [Act.put, List.setIfInBounds_toArray, List.set_cons_zero, List.set_cons_succ]
                      refine take_op 12 (some 144) (Op.pick ( .tmp 138) ( .tmp 143) ( .const (Value.bool false))) 4 ?_ (by kernel_rfl) (by kernel_rfl) (by kernel_rfl) (fun _ _ _ h => h) ?_ (by assumption) ?_
                      rotate_left
                      · intro w hSw; (try dsimp only at hSw); go_simp; (try (with_reducible rfl))
                      try simp only [Act.put, List.setIfInBounds_toArray, List.set_cons_zero, List.set_cons_succ]
                      refine done_e (by kernel_rfl) ?_ _
                      (try simp only [Exit.inBlock, Exit.then])
                      obtain ⟨cj, fj⟩ := HCJ.out _ (HZ1.out)
                      go_wp2_with fail
                      exact ⟨⟨j + 1, by omega, by go_num, true, rfl, Lib.hid (by rw [HFJ.out]; simp), Lib.hid (by rw [HMT.out rfl]; exact block_setCell ((HZ1.out).keeps RTJ.out no_one) j _), Lib.hid ((HXJ.out.then (HZ1.out)).trans (Fr.setCell _ ⟨gt, j, none⟩ _) (fun _ _ h => h))⟩, by simp [intOf]; omega⟩
            · obtain ⟨x, hx⟩ : ∃ x, ks[k]? = some x := ⟨_, List.getElem?_eq_getElem (by rw [HN.out]; omega)⟩
              obtain ⟨y, hy⟩ : ∃ y, r[k]? = some y := ⟨_, List.getElem?_eq_getElem (by rw [HR4.out]; omega)⟩
              obtain ⟨hx255, b, off, rfl, d0⟩ := HK.out k x hx
              obtain ⟨hy255, y0⟩ := HCL.out k y hy
              have HFWr : Hid (Fr No w wr) := Lib.hid (HFW5.out.own HX5.out (fun i h => Nat.le_trans HGW.out h))
              replace d0 := HFWr.out.cell d0
              have HB1 : Hid (b1 < w.heap.size) := Lib.hid (World.block_lt_of_cell? w _ y0)
              have HPT : Hid (pr[k]? = some ((pats0 (tyOf x)).getD (y % 5) anyP)) := Lib.hid (by rw [← HPR.out]; exact rowP_at hx hy)
              obtain ⟨pt, hpt⟩ : ∃ pt, (pats0 (tyOf x)).getD (y % 5) anyP = pt := ⟨_, rfl⟩
              have HPA := Lib.hid (pats_at (tyOf x) y)
              rw [hpt] at HPT HPA
              obtain ⟨z, hz⟩ : ∃ z, y % 5 = z := ⟨_, rfl⟩
              have hz5 : z < 5 := by rw [← hz]; exact Nat.mod_lt _ (by omega)
              have hmy : Int.tmod (y : Int) 5 = (z : Int) := by rw [← hz]; rfl
              rw [hz] at HPA
              have hwy : IntKind.i64.wrap (y : Int) = (y : Int) := by rw [IntKind.wrap_i64]; omega
              have hwz : IntKind.i64.wrap (z : Int) = (z : Int) := by rw [IntKind.wrap_i64]; omega
              have hz5' : (z : Int) < 5 := by omega
              have hkq' : (k : Int) < (q : Int) := by omega
              have hk4 : (k : Int) < 4 := by omega
              have HGS : Hid (gp < wr.heap.size) := Lib.hid (lt_of_block RK.out)
              have HOB := Lib.hid (fun b => HOK.out.block (b := b))
              clear hx hy hpt hz
              go_wp2_with fail
              refine (patterns_any x hx255 _).mono ?_
              rintro e w6 ⟨hf6, gl, rfl, hrow⟩
              obtain ⟨bl, ol, e0, e1, e2, e3, ee, hgl, _, l0, l1, l2, l3, hil⟩ := Row.at_ 0 _ hrow z pt HPA.out
              cases ee
              simp only [Nat.zero_add] at l0 l1 l2 l3
              obtain ⟨kl, sl, nl, al, ml, cl, rfl, rfl, rfl, rfl⟩ := is_cells hil
              replace RK := Lib.hid (hf6.keeps RK.out no_one)
              have HOK6 := Lib.hid (HOK.out.no keptT hf6)
              have HX6 : Hid (Fr (fun b => gp ≤ b) w5 w6) := Lib.hid (HX5.out.then hf6)
              have y6 := hf6.cell (HFWr.out.cell y0)
              have HIP : Hid (Is 0 (fun b => gp < b ∧ Av (.slice aK k cK) b) w6 pt (.agg #[.int .u8 kl, .string sl, .int .i64 nl, .slice al ml cl])) := Lib.hid (isT_keep2 (fun b hb ho => ⟨rfl, by have := HGS.out; omega, fun e => by have := (HOB.out b e).2; omega⟩) pt _ hil)
              have HGL : Hid (gl < w6.heap.size ∧ Av (.slice aK k cK) gl) := Lib.hid ⟨World.block_lt_of_cell? w6 _ l0, fun e => by have := (HOB.out gl e).2; omega⟩
              have HG6 : Hid (gp + 1 ≤ w6.heap.size) := Lib.hid (by have := HGS.out; have := hf6.size; omega)
              have HS : Hid (∀ w', Fr No w6 w' → w'.cell? ⟨gp, 3, none⟩ = some (.slice aK k cK) ∧ w'.cell? ⟨b1, off1 + i * 4 + k, none⟩ = some (.int .u8 y) ∧ w'.cell? ⟨gl, z * 4, none⟩ = some (.int .u8 kl) ∧ w'.cell? ⟨gl, z * 4 + 1, none⟩ = some (.string sl) ∧ w'.cell? ⟨gl, z * 4 + 2, none⟩ = some (.int .i64 nl) ∧ w'.cell? ⟨gl, z * 4 + 3, none⟩ = some (.slice al ml cl)) := Lib.hid (fun w' hf => ⟨cell_of (hf.keeps RK.out no_one) 3, hf.cell y6, hf.cell l0, hf.cell l1, hf.cell l2, hf.cell l3⟩)
              clear hf6 hrow hil l0 l1 l2 l3 y6 y0 d0 hgl HFWr
              go_upto_region 32 with fail
              refine region_e (fun w' => w'.cell? ⟨gp, 3, none⟩ = some (.slice aK k cK) ∧ w'.cell? ⟨b1, off1 + i * 4 + k, none⟩ = some (.int .u8 y) ∧ w'.cell? ⟨gl, z * 4, none⟩ = some (.int .u8 kl) ∧ w'.cell? ⟨gl, z * 4 + 1, none⟩ = some (.string sl) ∧ w'.cell? ⟨gl, z * 4 + 2, none⟩ = some (.int .i64 nl) ∧ w'.cell? ⟨gl, z * 4 + 3, none⟩ = some (.slice al ml cl)) [18] (by kernel_rfl) ?_ (fun hHeld => ?_)
              · exact HS.out _ (Fr.drew _)
              obtain ⟨wd, hwd⟩ : ∃ wd, wd = w6.drew := ⟨_, rfl⟩
              have HFd : Hid (Fr No w6 wd) := Lib.hid (by rw [hwd]; exact Fr.drew _)
              rw [← hwd] at hHeld ⊢
              clear hwd
              refine take_op 0 (some 104) (Op.fieldAddr 40 ( .tmp 17) 3) 0 ?_ (by kernel_rfl) (by kernel_rfl) (by kernel_rfl) (fun _ _ _ h => h) ?_ (by assumption) ?_
              rotate_left
              · intro w hSw; (try dsimp only at hSw); go_simp; (try (with_reducible rfl))
              try simp only [Act.put, List.setIfInBounds_toArray, List.set_cons_zero, List.set_cons_succ]
              refine take_op 1 (some 105) (Op.load 22 ( .tmp 104)) 22 ?_ (by kernel_rfl) (by kernel_rfl) (by kernel_rfl) (fun _ _ _ h => h) ?_ (by assumption) ?_
              rotate_left
              · intro w hSw; (try dsimp only at hSw); go_simp; (try (with_reducible rfl))
              try simp only [Act.put, List.setIfInBounds_toArray, List.set_cons_zero, List.set_cons_succ]
              refine take_op 2 (some 106) (Op.move ( .tmp 19)) 22 ?_ (by kernel_rfl) (by kernel_rfl) (by kernel_rfl) (fun _ _ _ h => h) ?_ (by assumption) ?_
              rotate_left
              · intro w hSw; (try dsimp only at hSw); go_simp; (try (with_reducible rfl))
              try simp only [Act.put, List.setIfInBounds_toArray, List.set_cons_zero, List.set_cons_succ]
              refine take_op 3 (some 107) (Op.move ( .tmp 1)) 33 ?_ (by kernel_rfl) (by kernel_rfl) (by kernel_rfl) (fun _ _ _ h => h) ?_ (by assumption) ?_
              rotate_left
              · intro w hSw; (try dsimp only at hSw); go_simp; (try (with_reducible rfl))
              try simp only [Act.put, List.setIfInBounds_toArray, List.set_cons_zero, List.set_cons_succ]
              refine take_op 4 (some 108) (Op.move ( .tmp 16)) 3 ?_ (by kernel_rfl) (by kernel_rfl) (by kernel_rfl) (fun _ _ _ h => h) ?_ (by assumption) ?_
              rotate_left
              · intro w hSw; (try dsimp only at hSw); go_simp; (try (with_reducible rfl))
              try simp only [Act.put, List.setIfInBounds_toArray, List.set_cons_zero, List.set_cons_succ]
              refine take_op 5 (some 109) (Op.move ( .tmp 18)) 3 ?_ (by kernel_rfl) (by kernel_rfl) (by kernel_rfl) (fun _ _ _ h => h) ?_ (by assumption) ?_
              rotate_left
              · intro w hSw; (try dsimp only at hSw); go_simp; (try (with_reducible rfl))
              try simp only [Act.put, List.setIfInBounds_toArray, List.set_cons_zero, List.set_cons_succ]
              refine take_op 6 (some 110) (Op.indexAddr 33 ( .tmp 107) ( .tmp 108)) 0 ?_ (by kernel_rfl) (by kernel_rfl) (by kernel_rfl) (fun _ _ _ h => h) ?_ (by assumption) ?_
              rotate_left
              · intro w hSw; (try dsimp only at hSw); go_simp; (try (with_reducible rfl))
              try simp only [Act.put, List.setIfInBounds_toArray, List.set_cons_zero, List.set_cons_succ]
              refine take_op 7 (some 111) (Op.indexAddr 42 ( .tmp 110) ( .tmp 109)) 0 ?_ (by kernel_rfl) (by kernel_rfl) (by kernel_rfl) (fun _ _ _ h => h) ?_ (by assumption) ?_
              rotate_left
              · intro w hSw; (try dsimp only at hSw); go_simp; (try (with_reducible rfl))
              try simp only [Act.put, List.setIfInBounds_toArray, List.set_cons_zero, List.set_cons_succ]
              refine take_op 8 (some 112) (Op.load 5 ( .tmp 111)) 5 ?_ (by kernel_rfl) (by kernel_rfl) (by kernel_rfl) (fun _ _ _ h => h) ?_ (by assumption) ?_
              rotate_left
              · intro w hSw; (try dsimp only at hSw); go_simp; (try (with_reducible rfl))
              try simp only [Act.put, List.setIfInBounds_toArray, List.set_cons_zero, List.set_cons_succ]
              refine take_op 9 (some 113) (Op.convert 5 3 ( .tmp 112)) 3 ?_ (by kernel_rfl) (by kernel_rfl) (by kernel_rfl) (fun _ _ _ h => h) ?_ (by assumption) ?_
              rotate_left
              · intro w hSw; (try dsimp only at hSw); go_simp; (try (with_reducible rfl))
              try simp only [Act.put, List.setIfInBounds_toArray, List.set_cons_zero, List.set_cons_succ]
              refine take_op 10 (some 114) (Op.move ( .tmp 19)) 22 ?_ (by kernel_rfl) (by kernel_rfl) (by kernel_rfl) (fun _ _ _ h => h) ?_ (by assumption) ?_
              rotate_left
              · intro w hSw; (try dsimp only at hSw); go_simp; (try (with_reducible rfl))
              try simp only [Act.put, List.setIfInBounds_toArray, List.set_cons_zero, List.set_cons_succ]
              refine take_op 11 (some 115) (Op.call { callee := Callee.builtin Builtin.len, args := #[ .tmp 114], argTypes := #[22] }) 3 ?_ (by kernel_rfl) (by kernel_rfl) (by kernel_rfl) (fun _ _ _ h => h) ?_ (by assumption) ?_
              rotate_left
              · intro w hSw; (try dsimp only at hSw); go_simp; (try (with_reducible rfl))
              try simp only [Act.put, List.setIfInBounds_toArray, List.set_cons_zero, List.set_cons_succ]
              refine take_op 12 (some 116) (Op.binOp BinOp.rem 3 ( .tmp 113) ( .tmp 115) 3) 3 ?_ (by kernel_rfl) (by kernel_rfl) (by kernel_rfl) (fun _ _ _ h => h) ?_ (by assumption) ?_
              rotate_left
              · intro w hSw; (try dsimp only at hSw); go_simp; (try (with_reducible rfl))
              try simp only [Act.put, List.setIfInBounds_toArray, List.set_cons_zero, List.set_cons_succ]
              refine take_op 13 (some 117) (Op.indexAddr 22 ( .tmp 106) ( .tmp 116)) 0 ?_ (by kernel_rfl) (by kernel_rfl) (by kernel_rfl) (fun _ _ _ h => h) ?_ (by assumption) ?_
              rotate_left
              · intro w hSw; (try dsimp only at hSw); go_simp; (try (with_reducible rfl))
              try simp only [Act.put, List.setIfInBounds_toArray, List.set_cons_zero, List.set_cons_succ]
              refine take_op 14 (some 118) (Op.load 40 ( .tmp 117)) 40 ?_ (by kernel_rfl) (by kernel_rfl) (by kernel_rfl) (fun _ _ _ h => h) ?_ (by assumption) ?_
              rotate_left
              · intro w hSw; (try dsimp only at hSw); go_simp; (try (with_reducible rfl))
              try simp only [Act.put, List.setIfInBounds_toArray, List.set_cons_zero, List.set_cons_succ]
              refine ready_e (rs := [15]) (by kernel_rfl) (by simp) ?_
              refine (do_mid (o := _) rfl (fun K hK => ?_) none_e) -- [(119, 'buildSlice')]
              go_simp
              obtain ⟨wz1, hn⟩ : ∃ w8, w8 = (wd).alloc (.cells #[.int .u8 kl, .string sl, .int .i64 nl, .slice al ml cl] 40) := ⟨_, rfl⟩
              obtain ⟨B_1, hg8⟩ : ∃ g8, (wd).heap.size = g8 := ⟨_, rfl⟩
              have R_1 : Hid (wz1.heap[B_1]? = some (.cells #[.int .u8 kl, .string sl, .int .i64 nl, .slice al ml cl] 40 (0, 0))) := Lib.hid (by rw [hn, ← hg8]; exact new_block _ _)
              have HZ1 : Hid (Fr No w6 wz1) := Lib.hid (by rw [hn]; exact (HFd.out).then (Fr.alloc _ _))
              have DZ1 : Hid (Fr No (wd) wz1) := Lib.hid (by rw [hn]; exact Fr.alloc _ _)
              rw [← hn, hg8]
              clear hn hg8
              refine hK.out _ _ ?_ (fun hHeld => ?_)
              · exact HS.out _ HZ1.out
              clear hK K
              try dsimp only
              try simp only [Act.put, List.setIfInBounds_toArray, List.set_cons_zero, List.set_cons_succ]
              refine ready_e (rs := [16]) (by kernel_rfl) (by simp) ?_
              refine (do_mid (o := _) rfl (fun K hK => ?_) none_e) -- [(120, 'B')]
              refine step_push keptT elem40 rfl _ _ 22 rfl Try.underlying22 (fun b => gp < b) (gp + 1) (.slice aK k cK) k (pr.take k) rfl (HOK6.out.no keptT (HZ1.out)) _ [.int .u8 kl, .string sl, .int .i64 nl, .slice al ml cl] 40 rfl R_1.out (by simp [Value.oneCell']) rfl pt (isT_keep2 (fun b hb ho => ⟨(HZ1.out).block b hb no_one, ho⟩) pt _ HIP.out) (by unfold maxLen; omega) (by omega) (Nat.le_trans HG6.out (HZ1.out).size) ?_
              intro a20 c20 wz2 HO20 HG20
              have HZ2 : Hid (Fr (fun b => gp + 1 ≤ b) w6 wz2) := Lib.hid (((HZ1.out).new _).trans HG20.out.fr (fun _ _ h => h))
              have HAV := Lib.hid (fun o v (hc : wz1.cell? ⟨gl, o, none⟩ = some v) => (World.cell?_of_block (HG20.out.av gl (Nat.lt_of_lt_of_le HGL.out.1 (HZ1.out).size) HGL.out.2).1).trans hc)
              have HSB := Lib.hid (HS.out _ (HZ1.out))
              refine hK.out _ _ ?_ (fun hHeld => ?_)
              · exact ⟨cell_of (HZ2.out.keeps RK.out (by omega)) 3, HG20.out.fr.cellS (show ¬ gp + 1 ≤ b1 by have := HB1.out; have := HGW.out; omega) HSB.out.2.1, HAV.out _ _ HSB.out.2.2.1, HAV.out _ _ HSB.out.2.2.2.1, HAV.out _ _ HSB.out.2.2.2.2.1, HAV.out _ _ HSB.out.2.2.2.2.2⟩
              clear hK K
              try dsimp only
              try simp only [Act.put, List.setIfInBounds_toArray, List.set_cons_zero, List.set_cons_succ]
              refine take_op 17 (some 121) (Op.fieldAddr 40 ( .tmp 17) 3) 0 ?_ (by kernel_rfl) (by kernel_rfl) (by kernel_rfl) (fun _ _ _ h => h) ?_ (by assumption) ?_
              rotate_left
              · intro w hSw; (try dsimp only at hSw); go_simp; (try (with_reducible rfl))
              try simp only [Act.put, List.setIfInBounds_toArray, List.set_cons_zero, List.set_cons_succ]
              have RK20 : Hid (wz2.heap[gp]? = some (.cells #[.int .u8 5, .string ⟨#[]⟩, .int .i64 0, .slice aK k cK] 40 (0, 0))) := Lib.hid ((HZ2.out).keeps RK.out (by omega))
              obtain ⟨⟨c0', c1', c2', c3'⟩, f0, f1, f2, f3⟩ := z4 RK20.out
              refine ready_e (rs := [18]) (by kernel_rfl) (by simp) ?_
              refine (do_late (o := _) rfl (by kernel_rfl) (fun K hK => ?_) none_e) -- [(None, 'store')]
              go_simp
              obtain ⟨wS, hn⟩ : ∃ w8, wz2.setCell ⟨gp, 3, none⟩ (.slice a20 (k + 1) c20) = w8 := ⟨_, rfl⟩
              have RKS : Hid (wS.heap[gp]? = some (.cells #[.int .u8 5, .string ⟨#[]⟩, .int .i64 0, .slice a20 (k + 1) c20] 40 (0, 0))) := Lib.hid (by rw [← hn]; exact block_setCell RK20.out 3 _)
              have HSS : Hid (Fr (Just gp) wz2 wS) := Lib.hid (by rw [← hn]; exact Fr.setCell _ ⟨gp, 3, none⟩ _)
              rw [hn]
              clear hn c0' c1' c2' c3' f0 f1 f2 f3
              refine hK.out _ _ ?_
              clear hK K
              try dsimp only
              try simp only [Act.put, List.setIfInBounds_toArray, List.set_cons_zero, List.set_cons_succ]
              refine done_e (by kernel_rfl) ?_ _
              (try simp only [Exit.inBlock, Exit.then])
              go_wp2_with fail
              refine ⟨⟨k + 1, by omega, by go_num, a20, c20, RKS, Lib.hid ?_, Lib.hid ?_⟩, by simp [intOf]; omega⟩
              · rw [take_snoc HPT.out]
                exact HO20.out.keep keptT HSS.out (fun b (hb : gp < b) (e : b = gp) => by omega) (fun b hb (e : b = gp) => by have := (HO20.out.block hb).1; omega)
              · exact (HX6.out.trans HZ2.out (fun i _ (hi : gp + 1 ≤ i) => show gp ≤ i by omega)).trans HSS.out (fun i _ (e : i = gp) => show gp ≤ i by omega)
    · obtain ⟨x, hx⟩ : ∃ x, ks[q]? = some x := ⟨_, List.getElem?_eq_getElem (by rw [HN.out]; omega)⟩
      obtain ⟨hx255, b, off, rfl, d0⟩ := HK.out q x hx
      replace d0 := HF.out.cell d0
      have hqlt : (q : Int) < (n : Int) := by omega
      have HX := Lib.hid hx
      obtain ⟨A, hA⟩ : ∃ A, prodV ((ks.take q).map tyOf) = A := ⟨_, rfl⟩
      have HA0 := Lib.hid hA
      unfold allV at HA
      rw [hA] at HNA HA
      have hna : na ≤ 256 := by
        rw [← HNA.out, ← hA]
        exact prodV_len _ (by rw [List.length_map, List.length_take, HN.out]; omega)
      clear hx hA
      go_wp2_with fail
      refine (values_any x hx255 _).mono ?_
      rintro e w2 ⟨hf, gl, nl, rfl, hl, hl4, hrow⟩
      have HF2 := Lib.hid (HF.out.then hf)
      replace HA := Lib.hid (HA.out.no hf)
      have HL := Lib.hid hl
      have HLR : Hid (RowW (fun _ => True) w2 (some ⟨gl, 0, none⟩) 0 (vals0 (tyOf x))) := Lib.hid (hrow.mono (fun _ _ _ => trivial))
      clear hf hl hrow d0
      obtain ⟨Hi, hHi⟩ : ∃ Hi, w2.heap.size = Hi := ⟨_, rfl⟩
      have HHI := Lib.hid hHi
      clear hHi
      go_wp2_with fail
      go_loopw [8, 10] (fun v i wx => ∃ k : Nat, k ≤ na ∧ i = .int .i64 k ∧ ∃ a8 n8 c8, v = .slice a8 n8 c8 ∧ Hid (Fr (fun b => Hi ≤ b) w2 wx) ∧ Hid (RowW (Av (.slice a8 n8 c8)) wx aA 0 (A.map tupV)) ∧ Hid (RowW (Av (.slice a8 n8 c8)) wx (some ⟨gl, 0, none⟩) 0 (vals0 (tyOf x))) ∧ Hid (VOut (fun _ => True) Hi wx (.slice a8 n8 c8) n8 (midV A (tyOf x) k 0))) (fun _ i _ => na - (intOf i).toNat)
      case atStart =>
        refine ⟨0, Nat.zero_le _, rfl, _, _, _, rfl, Lib.hid (Fr.refl _ _), Lib.hid (HA.out.mono fun b _ _ => by simp [Av, Value.ownBlock]), Lib.hid (HLR.out.mono fun b _ _ => by simp [Av, Value.ownBlock]), Lib.hid ?_⟩
        rw [midV_zero]
        exact OutG.nil _ _ _
      case round =>
        obtain ⟨k, hk, rfl, a8, n8, c8, rfl, HX5, HA5, HL5, HO5⟩ := hrel
        by_cases hkn : k = na
        · subst hkn
          go_wp2_with fail
          refine ⟨⟨q + 1, by omega, by go_num, a8, n8, c8, rfl, Lib.hid ?_, Lib.hid ?_, Lib.hid ?_⟩, by simp [intOf]; omega⟩
          · exact HF2.out.own HX5.out (fun i hi => by
              have h1 := HF2.out.size
              rw [HHI.out] at h1
              have hi : Hi ≤ i := hi
              omega)
          · have h1 := HO5.out.1
            rw [midV_zero, List.length_map, ← HNA.out, List.take_length] at h1
            rw [take_snoc HX.out, List.map_append, List.map_singleton, prod_snoc, HA0.out]
            exact h1
          · have h1 := HO5.out
            rw [midV_zero, ← HNA.out, List.take_length] at h1
            rw [allV, take_snoc HX.out, List.map_append, List.map_singleton, prod_snoc, HA0.out]
            exact rowW_of_out h1 (fun _ _ _ => trivial) (fun _ _ _ => trivial)
        · obtain ⟨ksv, hksv⟩ : ∃ ksv, A[k]? = some ksv := ⟨_, List.getElem?_eq_getElem (by rw [HNA.out]; omega)⟩
          have HKS := Lib.hid hksv
          have hklt : (k : Int) < (na : Int) := by omega
          clear hksv
          obtain ⟨w5, hw5⟩ : ∃ w5, w5 = wr := ⟨wr, rfl⟩
          rw [← hw5] at HX5 HA5 HL5 HO5 ⊢
          clear hw5 wr
          go_wp2_with fail
          go_loopw [8, 11] (fun v i wx => ∃ p : Nat, p ≤ nl ∧ i = .int .i64 p ∧ ∃ a8 n8 c8, v = .slice a8 n8 c8 ∧ Hid (Fr (fun b => Hi ≤ b) w2 wx) ∧ Hid (RowW (Av (.slice a8 n8 c8)) wx aA 0 (A.map tupV)) ∧ Hid (RowW (Av (.slice a8 n8 c8)) wx (some ⟨gl, 0, none⟩) 0 (vals0 (tyOf x))) ∧ Hid (VOut (fun _ => True) Hi wx (.slice a8 n8 c8) n8 (midV A (tyOf x) k p))) (fun _ i _ => nl - (intOf i).toNat)
          case atStart => exact ⟨0, Nat.zero_le _, rfl, _, _, _, rfl, HX5, HA5, HL5, HO5⟩
          case round =>
            clear HX5 HA5 HL5 HO5
            obtain ⟨p, hp, rfl, a9, n9, c9, rfl, HX6, HA6, HL6, HO6⟩ := hrel
            by_cases hpn : p = nl
            · subst hpn
              go_wp2_with fail
              refine ⟨⟨k + 1, by omega, by go_num, a9, n9, c9, rfl, HX6, HA6, HL6, Lib.hid ?_⟩, by simp [intOf]; omega⟩
              rw [midV_zero, ← midV_full HKS.out, HL.out]
              exact HO6.out
            · obtain ⟨tv, htv⟩ : ∃ tv, (vals0 (tyOf x))[p]? = some tv := ⟨_, List.getElem?_eq_getElem (by rw [HL.out]; omega)⟩
              obtain ⟨bA, oA, e0, e1, e2, rfl, _, d0, d1, d2, hi1⟩ := RowW.at_ 0 _ HA6.out k (tupV ksv) (by rw [List.getElem?_map, HKS.out]; rfl)
              obtain ⟨bL, oL, f0, f1, f2, ef, _, g0, g1, g2, hi2⟩ := RowW.at_ 0 _ HL6.out p tv htv
              cases ef
              rw [Nat.zero_add] at d0 d1 d2
              simp only [Nat.zero_add] at g0 g1 g2
              obtain ⟨sA, nA, ak, mk, ck, lk, rfl, rfl, rfl, hlk, hmk, hnone, hrk⟩ := isV_cells hi1
              simp only [tupV, V.mk.injEq] at hlk
              obtain ⟨rfl, rfl, rfl⟩ := hlk
              obtain ⟨sL, nL, aL, mL, cL, lL, rfl, rfl, rfl, _⟩ := isV_cells hi2
              obtain ⟨cs, k1, k2, k3, k4, k5⟩ := src_cells hrk
              have hplt : (p : Int) < (nl : Int) := by omega
              have HI2 := Lib.hid hi2
              have HTV := Lib.hid htv
              have hmq : mk = q := by
                have h1 : ksv ∈ prodV ((ks.take q).map tyOf) := by rw [HA0.out]; exact List.mem_of_getElem? HKS.out
                have h2 := vl0_len (mem_prod.1 h1)
                rw [List.length_map, List.length_take, HN.out] at h2
                omega
              have hmk5 : mk ≤ 4 := by omega
              have hn9 : n9 ≤ 1028 := by
                have h1 := midV_len A (tyOf x) k p (by rw [HL.out]; exact hp)
                rw [HO6.out.1, HNA.out] at h1
                omega
              have HMK := Lib.hid hmk
              have HOV := Lib.hid (fun b => (HO6.out.block (b := b)))
              clear hmq
              go_wp2_with (first
                | (at_builtin; refine wpList_copied keptV elem36 rfl _ _ 34 rfl Try.underlying34 (Av (.slice a9 n9 c9)) rfl ak mk ck ksv rfl HMK.out hnone cs (k1.trans HMK.out) k2 k3 k4 k5 (by unfold maxLen; omega) (by omega) ?_
                   intro a12 c12 w12 HO12 HF12
                   replace g0 := HF12.out.cell g0
                   replace g1 := HF12.out.cell g1
                   replace g2 := HF12.out.cell g2
                   clear k1 k2 k3 k4 k5 d0 d1 d2)
                | (at_builtin; refine wpList_push keptV elem36 rfl _ _ 34 rfl Try.underlying34 (Av (.slice a9 n9 c9)) wr.heap.size (.slice a12 mk c12) mk ksv rfl (HO12.out.no keptV (Fr.alloc _ _)) _ [.string sL, .int .i64 nL, .slice aL mL cL] 36 rfl (new_block _ _) (by simp [Value.oneCell']) rfl tv (IsV.keep (ok := Av (.slice a9 n9 c9)) (w := wr) (fun b hb ho => ⟨(HF12.out.then (Fr.alloc _ _)).block b hb no_one, ho, fun e => by have := (HO12.out.block e).1; omega⟩) tv _ HI2.out) (by unfold maxLen; omega) (by omega) (Nat.le_trans HF12.out.size (Fr.alloc w12 (.cells #[.string sL, .int .i64 nL, .slice aL mL cL] 36)).size) ?_
                   intro a13 c13 w13 HO13 HG13
                   clear g0 g1 g2)
                | (at_builtin; refine wpList_push keptV elem36 rfl _ _ 34 rfl Try.underlying34 (fun _ => True) Hi (.slice a9 n9 c9) n9 (midV A (tyOf x) k p) rfl (HO6.out.old keptV ((((HF12.out.then (Fr.alloc _ _)).new _).trans HG13.out.fr (fun _ _ h => h)).then (Fr.alloc _ _))) _ [.string ⟨#[]⟩, .int .i64 0, .slice a13 (mk + 1) c13] 36 rfl (new_block _ _) (by simp [Value.oneCell']) rfl (tupV (ksv ++ [tv]))
                    (isV_out (ok' := fun b => True ∧ Av (.slice a9 n9 c9) b) (HO13.out.no keptV (Fr.alloc _ _)) (fun b hb _ => ⟨trivial, fun e => by have := (HOV.out b e).2; omega⟩) (fun b _ ho => ⟨trivial, ho⟩)) (by unfold maxLen; omega) (by omega)
                    (by
                      have h1 := HX6.out.size
                      rw [HHI.out] at h1
                      exact Nat.le_trans h1 (Nat.le_trans HF12.out.size (Nat.le_trans (Fr.alloc w12 _).size (Nat.le_trans HG13.out.fr.size (Fr.alloc w13 _).size)))) ?_
                   intro a14 c14 w14 HO14 HG14))
              have HZ := Lib.hid ((((HF12.out.then (Fr.alloc w12 (.cells #[.string sL, .int .i64 nL, .slice aL mL cL] 36))).new wr.heap.size).trans HG13.out.fr (fun _ _ h => h)).then (Fr.alloc w13 (.cells #[.string ⟨#[]⟩, .int .i64 0, .slice a13 (mk + 1) c13] 36)))
              refine ⟨⟨p + 1, by omega, by go_num, a14, n9 + 1, c14, rfl, Lib.hid ?_, Lib.hid ?_, Lib.hid ?_, Lib.hid ?_⟩, by simp [intOf]; omega⟩
              · exact (HX6.out.trans HZ.out (fun i _ hi => by
                  have h1 := HX6.out.size
                  rw [HHI.out] at h1
                  have hi : wr.heap.size ≤ i := hi
                  omega)).trans HG14.out.fr (fun _ _ h => h)
              · exact RowW.keep (fun b hb ho => HG14.out.av b hb ho.1) _ 0 _ (HZ.out.oldW HA6.out)
              · exact RowW.keep (fun b hb ho => HG14.out.av b hb ho.1) _ 0 _ (HZ.out.oldW HL6.out)
              · rw [midV_snoc HKS.out HTV.out]
                exact HO14.out
end Go.Proofs.Ythjecikdkdjlaaa
