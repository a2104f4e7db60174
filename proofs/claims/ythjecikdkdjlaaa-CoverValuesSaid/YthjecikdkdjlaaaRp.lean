/- slices.Repeat of one wild pattern. -/
import Derived.Test.YthjecikdkdjlaaaCp
import Derived.Test.YthjecikdkdjlaaaWb
import Derived.Test.YthjecikdkdjlaaaHand
namespace Go.Proofs.Ythjecikdkdjlaaa
open Go.RowKit

def anyC : List Value := [.int .u8 1, .string ⟨#[]⟩, .int .i64 0, .slice none 0 0]
/-- so many wild ones at the front -/
def Filled (cur : Array Value) (n q : Nat) : Prop := cur.size = n * 4 ∧ ∀ j, j < q * 4 → cur[j]? = anyC[j % 4]?
theorem filled_copy {cur : Array Value} {n q k : Nat} (h : Filled cur n q) (hq : q + k ≤ n) (cs : List Value) (hc : cs.length = k * 4) (hcs : ∀ j, j < k * 4 → cs[j]? = anyC[j % 4]?) :
    Filled (cur.toList.take (q * 4) ++ (cs ++ cur.toList.drop (q * 4 + cs.length))).toArray n (q + k) := by
  obtain ⟨h1, h2⟩ := h
  refine ⟨by simp [hc, h1]; omega, fun j hj => ?_⟩
  rw [List.getElem?_toArray]
  rcases Nat.lt_or_ge j (q * 4) with h | h
  · rw [List.getElem?_append_left (by simp [h1]; omega), List.getElem?_take_of_lt h]
    rw [← h2 j h]
    simp
  · have hl : (cur.toList.take (q * 4)).length = q * 4 := by simp [h1]; omega
    rw [List.getElem?_append_right (by rw [hl]; exact h), hl, List.getElem?_append_left (by omega), hcs _ (by omega)]
    congr 1
    omega
theorem anyC_at (j : Nat) : ∃ v, anyC[j % 4]? = some v ∧ v.oneCell' = true := by
  have : j % 4 = 0 ∨ j % 4 = 1 ∨ j % 4 = 2 ∨ j % 4 = 3 := by omega
  rcases this with h | h | h | h <;> rw [h] <;> exact ⟨_, rfl, rfl⟩
theorem info40 : ∃ i, Try.prog.info? 40 = some i ∧ i.zero = some (.agg #[.int .u8 0, .string ⟨#[]⟩, .int .i64 0, .slice none 0 0]) ∧ i.size = 4 ∧ i.bytes = 56 := ⟨_, rfl, rfl, rfl, rfl⟩
theorem size40 : (Try.prog.info? 40).map (·.size) = some 4 := by kernel_rfl
theorem make40 (n : Nat) (hn : n ≤ 1048576) (u : World) : ∃ cur : Array Value, cur.size = n * 4 ∧ (Instr.makeSlice 22 (.int .i64 (n : Int)) (.int .i64 (n : Int))).run Try.prog u = .ok (.slice (some ⟨u.heap.size, 0, none⟩) n n) (u.alloc (.cells cur 40)) := by
  obtain ⟨i0, hi, hz0, hz1, hz2⟩ := info40
  have h := run_make (P := Try.prog) u 22 40 i0 _ Try.underlying22 hi hz0 .i64 .i64 (n : Int) (n : Int) (by omega) (Int.le_refl _) (by rw [hz2]; omega) (by omega)
  simp only [Int.toNat_natCast] at h
  exact ⟨_, by rw [size_madeCells, hz1], h⟩
set_option maxHeartbeats 4000000 in
set_option maxRecDepth 100000 in
theorem repeat_any (base : Nat) (n : Nat) (hn : n ≤ 1048576) (gx : Nat) (w : World) (hx : w.heap[gx]? = some (.cells #[.int .u8 1, .string ⟨#[]⟩, .int .i64 0, .slice none 0 0] 40 (0, 0))) :
    Calls Try.prog 49 #[.slice (some ⟨gx, 0, none⟩) 1 1, .int .i64 n] w fun e w' => ∃ v, e = .returned v ∧ RowV base w' v (List.replicate n anyP) ∧ Fr No w w' := by
  obtain ⟨cur, hcs, hmk⟩ := make40 n hn w
  have HX := Lib.hid hx
  have HM := Lib.hid (mul_one n (by omega) w)
  have HCS := Lib.hid hcs
  have hu1 : IntKind.u64.wrap (1 : Int) = 1 := by rw [IntKind.wrap_u64]; rfl
  have hu2 : IntKind.u64.wrap (n : Int) = n := by rw [IntKind.wrap_u64]; omega
  have hz1 : decide ((n : Int) < 0) = false := decide_eq_false (by omega)
  have hz2 : decide ((9223372036854775807 : Int) < (n : Int)) = false := decide_eq_false (by omega)
  have hu3 : IntKind.i64.wrap (n : Int) = n := by rw [IntKind.wrap_i64]; omega
  clear hx hcs
  go_enter Try.func49, Try.ntmps49
  go_wp2_with fail
  refine HM.out.mono ?_
  rintro e w' ⟨rfl, rfl⟩
  go_upto_region 7 with fail
  obtain ⟨w1, hw1⟩ : ∃ w1, w'.alloc (.cells cur 40) = w1 := ⟨_, rfl⟩
  obtain ⟨gn, hgn⟩ : ∃ gn, w'.heap.size = gn := ⟨_, rfl⟩
  have HN1 : Hid (w1.heap[gn]? = some (.cells cur 40 (0, 0))) := Lib.hid (by rw [← hw1, ← hgn]; exact new_block w' _)
  have HX1 : Hid (w1.heap[gx]? = some (.cells #[.int .u8 1, .string ⟨#[]⟩, .int .i64 0, .slice none 0 0] 40 (0, 0))) := Lib.hid (by rw [← hw1]; exact keep_alloc HX.out _)
  have HF1 : Hid (Fr No w' w1) := Lib.hid (by rw [← hw1]; exact Fr.alloc _ _)
  have HGN : Hid (w'.heap.size = gn) := Lib.hid hgn
  rw [hw1, hgn]
  clear hmk hw1 hgn
  obtain ⟨k, hk⟩ : ∃ k, Nat.min 1 n = k := ⟨_, rfl⟩
  have hkn : k ≤ n ∧ k ≤ 1 ∧ (n = 0 ∨ k = 1) := by
    have : Nat.min 1 n = min 1 n := rfl
    omega
  have HFL : Hid (Filled ((cur.toList.take 0 ++ (anyC.take (k * 4) ++ cur.toList.drop (0 + (anyC.take (k * 4)).length))).toArray) n k) := Lib.hid (by
    have hf : Filled cur n 0 := ⟨HCS.out, fun j hj => by omega⟩
    have h := filled_copy (q := 0) (k := k) hf (by omega) (anyC.take (k * 4)) (by simp [anyC]; omega) (fun j hj => by
      rw [List.getElem?_take_of_lt hj, Nat.mod_eq_of_lt (by omega)])
    simpa using h)
  have HSRC : Hid (∀ (j : Nat) (v : Value), (anyC.take (k * 4))[j]? = some v → w1.cell? ((⟨gx, 0, none⟩ : Addr).add j) = some v) := Lib.hid (fun j v hj => by
    rw [addr_add, Nat.zero_add, cell_of HX1.out]
    have hlt : j < k * 4 := by have := (List.getElem?_eq_some_iff.1 hj).1; simp at this; omega
    rw [List.getElem?_take_of_lt hlt] at hj
    rw [← hj]
    have : j = 0 ∨ j = 1 ∨ j = 2 ∨ j = 3 := by omega
    rcases this with rfl | rfl | rfl | rfl <;> rfl)
  have HONE : Hid (∀ v ∈ anyC.take (k * 4), v.oneCell' = true) := Lib.hid (fun v hv => by
    have hv2 := List.mem_of_mem_take hv
    obtain ⟨j, hj⟩ := List.getElem?_of_mem hv2
    have hj4 : j < 4 := (List.getElem?_eq_some_iff.1 hj).1
    obtain ⟨v', h1, h2⟩ := anyC_at j
    rw [Nat.mod_eq_of_lt hj4, hj] at h1
    simp only [Option.some.injEq] at h1
    rw [h1]
    exact h2)
  have HK4 : Hid ((anyC.take (k * 4)).length = k * 4) := Lib.hid (by simp [anyC]; omega)
  go_wp2_with (refine wpList_copy4n rfl _ _ _ _ rfl 40 Try.underlying22 size40 gn 0 n n ⟨gx, 0, none⟩ 1 1 rfl rfl cur 40 HN1.out (anyC.take (k * 4)) k hk HK4.out HSRC.out (by rw [HCS.out, HK4.out]; omega) HONE.out ?_; intro w2 HW2 HF2)
  have HFW : Hid (Fr No w' w2) := Lib.hid (HF1.out.own HF2.out (fun i e => by rw [show i = gn from e, HGN.out]; exact Nat.le_refl _))
  clear HX1 HN1 HF1 HF2 HSRC HONE HK4 HX
  go_loopw [8] (fun i wr => ∃ q : Nat, q ≤ n ∧ (n = 0 ∨ 1 ≤ q) ∧ i = .int .i64 q ∧ Hid (Fr No w' wr) ∧ Hid (∃ cur : Array Value, wr.heap[gn]? = some (.cells cur 40 (0, 0)) ∧ Filled cur n q)) (fun i _ => n - (intOf i).toNat)
  case atStart => exact ⟨k, by omega, by omega, rfl, HFW, Lib.hid ⟨_, HW2.out, HFL.out⟩⟩
  case round =>
    obtain ⟨q, hq, hq1, rfl, HF, HC⟩ := hrel
    by_cases hqn : q = n
    · subst hqn
      go_wp2_with fail
      go_ret
      refine ⟨.slice (some ⟨gn, 0, none⟩) q q, rfl, ⟨some ⟨gn, 0, none⟩, q, by rw [List.length_replicate], by rw [List.length_replicate]; exact Nat.le_refl _, ?_⟩, HF.out⟩
      obtain ⟨cur, h1, h2⟩ := HC.out
      refine Row.of_at 0 _ fun j t hj => ?_
      have hjq : j < q := by have := (List.getElem?_eq_some_iff.1 hj).1; simpa using this
      have ht : t = anyP := List.eq_of_mem_replicate (List.mem_of_getElem? hj)
      subst ht
      have hcell : ∀ i v, i < 4 → anyC[i]? = some v → wr.cell? ⟨gn, 0 + (0 + j) * 4 + i, none⟩ = some v := fun i v hi hv => by
        rw [cell_of h1, h2.2 _ (by omega), show (0 + (0 + j) * 4 + i) % 4 = i by omega, hv]
      exact ⟨gn, 0, _, _, _, _, rfl, trivial, .inr ⟨cur, (0, 0), h1⟩, hcell 0 _ (by omega) rfl, hcell 1 _ (by omega) rfl, hcell 2 _ (by omega) rfl, hcell 3 _ (by omega) rfl, is_anyP wr⟩
    · obtain ⟨cur, hh1, hh2⟩ := HC.out
      obtain ⟨k2, hk2⟩ : ∃ k2, Nat.min q (n - q) = k2 := ⟨_, rfl⟩
      have hk2b : k2 ≤ q ∧ q + k2 ≤ n ∧ 1 ≤ k2 := by
        have : Nat.min q (n - q) = min q (n - q) := rfl
        omega
      have HCUR := Lib.hid hh1
      have HFC := Lib.hid hh2
      have HLEN : Hid ((cur.toList.take (k2 * 4)).length = k2 * 4) := Lib.hid (by rw [List.length_take, Array.length_toList, hh2.1]; omega)
      have HSR : Hid (∀ (w3 : World), w3.heap[gn]? = some (.cells cur 40 (0, 0)) → ∀ (j : Nat) (v : Value), (cur.toList.take (k2 * 4))[j]? = some v → w3.cell? ((⟨gn, 0, none⟩ : Addr).add j) = some v) := Lib.hid (fun w3 h3 j v hj => by
        have hlt : j < k2 * 4 := by have := (List.getElem?_eq_some_iff.1 hj).1; rw [HLEN.out] at this; exact this
        rw [List.getElem?_take_of_lt hlt] at hj
        rw [addr_add, Nat.zero_add, cell_of h3]
        simpa using hj)
      have HAN : Hid (∀ j, j < k2 * 4 → (cur.toList.take (k2 * 4))[j]? = anyC[j % 4]?) := Lib.hid (fun j hj => by
        rw [List.getElem?_take_of_lt hj, ← HFC.out.2 j (by omega)]
        simp)
      have HON : Hid (∀ v ∈ cur.toList.take (k2 * 4), v.oneCell' = true) := Lib.hid (fun v hv => by
        obtain ⟨j, hj⟩ := List.getElem?_of_mem hv
        have hlt : j < k2 * 4 := by have := (List.getElem?_eq_some_iff.1 hj).1; rw [HLEN.out] at this; exact this
        obtain ⟨v', h1, h2⟩ := anyC_at j
        rw [HAN.out j hlt, h1] at hj
        simp only [Option.some.injEq] at hj
        rw [← hj]
        exact h2)
      have hlt : (q : Int) < (n : Int) := by omega
      clear hh1 hh2 HC
      go_upto_region 9 with fail
      have HCD : Hid (wr.drew.heap[gn]? = some (.cells cur 40 (0, 0))) := Lib.hid ((Fr.drew wr).keeps HCUR.out no_one)
      have HFD : Hid (Fr No w' wr.drew) := Lib.hid (HF.out.then (Fr.drew wr))
      have hne : ¬ n = q := fun e => hqn e.symm
      refine region_e (fun _ => True) [] (by kernel_rfl) ?_ (fun hHeld => ?_)
      · trivial
      refine take_op 0 (some 38) (Op.move ( .tmp 8)) 3 ?_ (by kernel_rfl) (by kernel_rfl) (by kernel_rfl) (fun _ _ _ h => h) ?_ (by assumption) ?_
      rotate_left
      · intro w hSw; (try dsimp only at hSw); go_simp; (try (with_reducible rfl))
      try simp only [Act.put, List.setIfInBounds_toArray, List.set_cons_zero, List.set_cons_succ]
      refine take_op 1 (some 39) (Op.move ( .tmp 7)) 22 ?_ (by kernel_rfl) (by kernel_rfl) (by kernel_rfl) (fun _ _ _ h => h) ?_ (by assumption) ?_
      rotate_left
      · intro w hSw; (try dsimp only at hSw); go_simp; (try (with_reducible rfl))
      try simp only [Act.put, List.setIfInBounds_toArray, List.set_cons_zero, List.set_cons_succ]
      refine take_op 2 (some 40) (Op.move ( .tmp 8)) 3 ?_ (by kernel_rfl) (by kernel_rfl) (by kernel_rfl) (fun _ _ _ h => h) ?_ (by assumption) ?_
      rotate_left
      · intro w hSw; (try dsimp only at hSw); go_simp; (try (with_reducible rfl))
      try simp only [Act.put, List.setIfInBounds_toArray, List.set_cons_zero, List.set_cons_succ]
      refine take_op 3 (some 41) (Op.slice 22 ( .tmp 39) (some ( .tmp 40)) none none) 22 ?_ (by kernel_rfl) (by kernel_rfl) (by kernel_rfl) (fun _ _ _ h => h) ?_ (by assumption) ?_
      rotate_left
      · intro w hSw; (try dsimp only at hSw); go_simp; (try (with_reducible rfl))
      try simp only [Act.put, List.setIfInBounds_toArray, List.set_cons_zero, List.set_cons_succ]
      refine take_op 4 (some 42) (Op.move ( .tmp 7)) 22 ?_ (by kernel_rfl) (by kernel_rfl) (by kernel_rfl) (fun _ _ _ h => h) ?_ (by assumption) ?_
      rotate_left
      · intro w hSw; (try dsimp only at hSw); go_simp; (try (with_reducible rfl))
      try simp only [Act.put, List.setIfInBounds_toArray, List.set_cons_zero, List.set_cons_succ]
      refine take_op 5 (some 43) (Op.move ( .tmp 8)) 3 ?_ (by kernel_rfl) (by kernel_rfl) (by kernel_rfl) (fun _ _ _ h => h) ?_ (by assumption) ?_
      rotate_left
      · intro w hSw; (try dsimp only at hSw); go_simp; (try (with_reducible rfl))
      try simp only [Act.put, List.setIfInBounds_toArray, List.set_cons_zero, List.set_cons_succ]
      refine take_op 6 (some 44) (Op.slice 22 ( .tmp 42) none (some ( .tmp 43)) none) 22 ?_ (by kernel_rfl) (by kernel_rfl) (by kernel_rfl) (fun _ _ _ h => h) ?_ (by assumption) ?_
      rotate_left
      · intro w hSw; (try dsimp only at hSw); go_simp; (try (with_reducible rfl))
      try simp only [Act.put, List.setIfInBounds_toArray, List.set_cons_zero, List.set_cons_succ]
      refine ready_e (rs := [7]) (by kernel_rfl) (by simp) ?_
      refine do_mid (o := _) rfl (fun K hK => ?_) none_e -- slot 45 B
      refine step_copy4 rfl (some 45) rfl _ _ _ _ rfl 40 Try.underlying22 size40 gn (q * 4) (n - q) (n - q) ⟨gn, 0, none⟩ q n rfl rfl cur 40 HCD.out (cur.toList.take (k2 * 4)) k2 hk2 HLEN.out (HSR.out _ HCD.out) (by rw [HFC.out.1, HLEN.out]; omega) HON.out ?_
      intro w4 HW4 HF4
      try simp only [goInt]
      refine hK.out _ _ ?_ (fun hHeld => ?_)
      · trivial
      clear hK K
      try dsimp only
      try simp only [Act.put, List.setIfInBounds_toArray, List.set_cons_zero, List.set_cons_succ]
      refine take_op 8 (some 46) (Op.binOp BinOp.add 3 ( .tmp 38) ( .tmp 45) 3) 3 ?_ (by kernel_rfl) (by kernel_rfl) (by kernel_rfl) (fun _ _ _ h => h) ?_ (by assumption) ?_
      rotate_left
      · intro w hSw; (try dsimp only at hSw); go_simp; (try (with_reducible rfl))
      try simp only [Act.put, List.setIfInBounds_toArray, List.set_cons_zero, List.set_cons_succ]
      refine take_op 9 (some 8) (Op.assign ( .tmp 46)) 3 ?_ (by kernel_rfl) (by kernel_rfl) (by kernel_rfl) (fun _ _ _ h => h) ?_ (by assumption) ?_
      rotate_left
      · intro w hSw; (try dsimp only at hSw); go_simp; (try (with_reducible rfl))
      try simp only [Act.put, List.setIfInBounds_toArray, List.set_cons_zero, List.set_cons_succ]
      refine done_e (by kernel_rfl) ?_ _
      have HF4' : Hid (Fr No w' w4) := Lib.hid (HFD.out.own HF4.out (fun i e => by rw [show i = gn from e, HGN.out]; exact Nat.le_refl _))
      have HFN : Hid (∃ cur : Array Value, w4.heap[gn]? = some (.cells cur 40 (0, 0)) ∧ Filled cur n (q + k2)) := Lib.hid ⟨_, HW4.out, filled_copy HFC.out hk2b.2.1 _ HLEN.out HAN.out⟩
      have hwq : IntKind.i64.wrap ((q : Int) + k2) = (q : Int) + k2 := by rw [IntKind.wrap_i64]; omega
      go_wp2_with fail
      rw [hwq]
      exact ⟨⟨q + k2, by omega, by omega, by go_num, HF4', HFN⟩, by simp [intOf]; omega⟩
end Go.Proofs.Ythjecikdkdjlaaa
