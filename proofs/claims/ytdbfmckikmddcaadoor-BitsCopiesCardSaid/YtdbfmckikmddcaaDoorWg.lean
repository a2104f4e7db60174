/- The document's set: what lies in memory for it, and its methods. -/
import Derived.Test.YtdbfmckikmddcaaDoorWf
namespace Go.Proofs.YtdbfmckikmddcaaDoor
open Go.RowKit

structure IsRef (w : World) (b c n : Nat) (f : Nat → Bool) : Prop where
  head : ∃ a cap, n ≤ cap ∧ w.heap[b]? = some (.cells #[.slice a n cap] 51 (0, 0)) ∧
    (0 < n → a = some ⟨c, 0, none⟩ ∧ ∃ cur, w.heap[c]? = some (.cells cur 4 (0, 0)) ∧ ∀ i, i < n → cur[i]? = some (.bool (f i)))
  top : ∀ j, n ≤ j → f j = false
  small : n ≤ 65536
theorem IsRef.keep {S : Nat → Prop} {w w' : World} {b c n : Nat} {f : Nat → Bool} (h : IsRef w b c n f) (hf : Fr S w w') (hb : ¬ S b) (hc : ¬ S c) : IsRef w' b c n f := by
  obtain ⟨⟨a, cap, h0, h1, h2⟩, h4, h5⟩ := h
  refine ⟨⟨a, cap, h0, hf.keeps h1 hb, fun hn => ?_⟩, h4, h5⟩
  obtain ⟨e, cur, h6, h7⟩ := h2 hn
  exact ⟨e, cur, hf.keeps h6 hc, h7⟩
theorem IsRef.put {w : World} {b c n : Nat} {f : Nat → Bool} (h : IsRef w b c n f) (i : Nat) (hi : i < n) (v : Bool) :
    IsRef (w.setCell ⟨c, i, none⟩ (.bool v)) b c n (Plain.upd f i v) := by
  obtain ⟨⟨a, cap, h0, h1, h2⟩, h4, h5⟩ := h
  obtain ⟨e, cur, h6, h7⟩ := h2 (by omega)
  have hne : b ≠ c := by
    intro e
    subst e
    rw [h1] at h6
    simp at h6
  refine ⟨⟨a, cap, h0, (Fr.setCell w ⟨c, i, none⟩ _).keeps h1 hne, fun _ => ⟨e, _, block_setCell h6 _ _, fun q hq => ?_⟩⟩, fun j hj => ?_, h5⟩
  · by_cases e : q = i
    · subst e
      have hlt : q < cur.size := (Array.getElem?_eq_some_iff.1 (h7 _ hq)).1
      simp [hlt, Plain.upd]
    · rw [Array.getElem?_setIfInBounds, if_neg (by omega), h7 q hq]
      simp [Plain.upd, e]
  · have : j ≠ i := by omega
    simp [Plain.upd, this, h4 j hj]
/-- the cells that a method reads -/
theorem IsRef.cells {w : World} {b c n : Nat} {f : Nat → Bool} (h : IsRef w b c n f) : ∃ a cap, w.cell? ⟨b, 0, none⟩ = some (.slice a n cap) ∧ (0 < n → a = some ⟨c, 0, none⟩) ∧ n ≤ cap := by
  obtain ⟨⟨a, cap, h0, h1, h2⟩, h4, h5⟩ := h
  exact ⟨a, cap, by rw [cell_of h1]; rfl, fun hn => (h2 hn).1, h0⟩
theorem IsRef.bit {w : World} {b c n : Nat} {f : Nat → Bool} (h : IsRef w b c n f) {i : Nat} (hi : i < n) : w.cell? ⟨c, i, none⟩ = some (.bool (f i)) ∧ w.frozen? ⟨c, i, none⟩ = false := by
  obtain ⟨⟨a, cap, h0, h1, h2⟩, h4, h5⟩ := h
  obtain ⟨e, cur, h6, h7⟩ := h2 (by omega)
  exact ⟨by rw [cell_of h6]; exact h7 i hi, free_of h6 i⟩

set_option maxHeartbeats 400000 in
theorem rnew_ok (n : Nat) (w : World) (hn : n ≤ 65536) :
    Calls Tryd.prog 24 #[.int .i64 n] w fun e w' => e = .returned (.tuple #[.pointer (some ⟨w.heap.size + 1, 0, none⟩), .int .i64 0]) ∧ Fr No w w' ∧ IsRef w' (w.heap.size + 1) w.heap.size n (fun _ => false) := by
  obtain ⟨i0, hi, hz0, hz1, hz2⟩ := info_parts info4
  have hmk : ∀ u : World, (Instr.makeSlice 49 (.int .i64 (n : Int)) (.int .i64 (n : Int))).run Tryd.prog u =
      .ok (.slice (some ⟨u.heap.size, 0, none⟩) n n) (u.alloc (.cells (madeCells #[.bool false] n) 4)) := fun u => by
    have h := run_make (P := Tryd.prog) u 49 4 i0 (.bool false) Tryd.underlying49 hi hz0 .i64 .i64 (n : Int) (n : Int) (by omega) (Int.le_refl _) (by rw [hz2]; omega) (by omega)
    simpa [hz1, Value.cells] using h
  go_enter Tryd.func24, Tryd.ntmps24
  go_wp2
  go_ret2
  refine ⟨rfl, (Fr.alloc _ _).then (Fr.alloc _ _), ⟨⟨some ⟨w.heap.size, 0, none⟩, n, Nat.le_refl _, ?_, fun _ => ⟨rfl, madeCells #[.bool false] n, ?_, fun i hi => madeCells_at _ _ _ hi⟩⟩, fun _ _ => rfl, hn⟩⟩
  · rw [← size_alloc w (.cells (madeCells #[.bool false] n) 4)]; exact new_block _ _
  · rw [Below.heap_alloc _ _ _ (by simp)]; exact new_block _ _

set_option maxHeartbeats 400000 in
theorem rnew_bad (n : Int) (w : World) (hn : n < 0 ∨ 65536 < n) :
    Calls Tryd.prog 24 #[.int .i64 n] w fun e w' => e = .returned (.tuple #[.pointer none, .int .i64 1]) ∧ w = w' := by
  by_cases h0 : n < 0
  · clear hn
    go_enter Tryd.func24, Tryd.ntmps24
    go_wp2
    go_ret2
    exact ⟨rfl, rfl⟩
  · have h1 : 65536 < n := by omega
    clear hn
    go_enter Tryd.func24, Tryd.ntmps24
    go_wp2
    go_ret2
    exact ⟨rfl, rfl⟩

set_option maxHeartbeats 400000 in
theorem rhas_out (b n cap : Nat) (a : Option Addr) (i : Int) (w : World) (hi : i < 0 ∨ (n : Int) ≤ i) (hc : w.cell? ⟨b, 0, none⟩ = some (.slice a n cap)) :
    Calls Tryd.prog 13 #[.pointer (some ⟨b, 0, none⟩), .int .i64 i] w fun e w' => e = .returned (.bool false) ∧ w = w' := by
  by_cases h0 : i < 0
  · clear hi
    go_enter Tryd.func13, Tryd.ntmps13
    go_wp2
    go_ret
    exact ⟨rfl, rfl⟩
  · have h1 : (n : Int) ≤ i := by omega
    have h2 : 0 ≤ i := by omega
    clear hi h0
    go_enter Tryd.func13, Tryd.ntmps13
    go_wp2
    go_ret
    exact ⟨rfl, rfl⟩
set_option maxHeartbeats 400000 in
theorem rhas_in (b c n cap i : Nat) (v : Bool) (w : World) (hi : i < n) (_hn : n ≤ 65536) (hc : w.cell? ⟨b, 0, none⟩ = some (.slice (some ⟨c, 0, none⟩) n cap)) (hb : w.cell? ⟨c, i, none⟩ = some (.bool v)) :
    Calls Tryd.prog 13 #[.pointer (some ⟨b, 0, none⟩), .int .i64 i] w fun e w' => e = .returned (.bool v) ∧ w = w' := by
  go_enter Tryd.func13, Tryd.ntmps13
  go_wp2
  go_ret
  exact ⟨rfl, rfl⟩
theorem rhas_any (b c n : Nat) (f : Nat → Bool) (i : Int) (w : World) (h : IsRef w b c n f) :
    Calls Tryd.prog 13 #[.pointer (some ⟨b, 0, none⟩), .int .i64 i] w fun e w' => e = .returned (.bool (mem n f i)) ∧ w = w' := by
  obtain ⟨a, cap, c0, ha, _⟩ := h.cells
  by_cases hi : i < 0 ∨ (n : Int) ≤ i
  · rw [mem_out hi]
    exact rhas_out b n cap a i w hi c0
  · obtain ⟨j, rfl⟩ := Int.eq_ofNat_of_zero_le (show 0 ≤ i by omega)
    have hj : j < n := by omega
    rw [ha (by omega)] at c0
    rw [mem_in hj]
    exact rhas_in b c n cap j _ w hj h.small c0 (h.bit hj).1

set_option maxHeartbeats 400000 in
theorem rset_out (b n cap : Nat) (a : Option Addr) (i : Int) (w : World) (hi : i < 0 ∨ (n : Int) ≤ i) (hc : w.cell? ⟨b, 0, none⟩ = some (.slice a n cap)) :
    Calls Tryd.prog 22 #[.pointer (some ⟨b, 0, none⟩), .int .i64 i] w fun e w' => e = .returned (.bool false) ∧ w = w' := by
  by_cases h0 : i < 0
  · clear hi
    go_enter Tryd.func22, Tryd.ntmps22
    go_wp2
    go_ret
    exact ⟨rfl, rfl⟩
  · have h1 : (n : Int) ≤ i := by omega
    have h2 : 0 ≤ i := by omega
    clear hi h0
    go_enter Tryd.func22, Tryd.ntmps22
    go_wp2
    go_ret
    exact ⟨rfl, rfl⟩
set_option maxHeartbeats 400000 in
theorem rset_was (b c n cap i : Nat) (w : World) (hi : i < n) (hc : w.cell? ⟨b, 0, none⟩ = some (.slice (some ⟨c, 0, none⟩) n cap)) (hb : w.cell? ⟨c, i, none⟩ = some (.bool true)) :
    Calls Tryd.prog 22 #[.pointer (some ⟨b, 0, none⟩), .int .i64 i] w fun e w' => e = .returned (.bool false) ∧ w = w' := by
  go_enter Tryd.func22, Tryd.ntmps22
  go_wp2
  go_ret
  exact ⟨rfl, rfl⟩
set_option maxHeartbeats 400000 in
theorem rset_new (b c n cap i : Nat) (w : World) (hi : i < n) (hc : w.cell? ⟨b, 0, none⟩ = some (.slice (some ⟨c, 0, none⟩) n cap)) (hb : w.cell? ⟨c, i, none⟩ = some (.bool false)) (hf : w.frozen? ⟨c, i, none⟩ = false) :
    Calls Tryd.prog 22 #[.pointer (some ⟨b, 0, none⟩), .int .i64 i] w fun e w' => e = .returned (.bool true) ∧ w.setCell ⟨c, i, none⟩ (.bool true) = w' := by
  go_enter Tryd.func22, Tryd.ntmps22
  go_wp2
  go_ret
  exact ⟨rfl, rfl⟩
theorem upd_same {f : Nat → Bool} {i : Nat} {v : Bool} (h : f i = v) : Plain.upd f i v = f := by
  funext q; unfold Plain.upd; split <;> simp_all
theorem rset_any (b c n : Nat) (f : Nat → Bool) (i : Int) (w : World) (h : IsRef w b c n f) :
    Calls Tryd.prog 22 #[.pointer (some ⟨b, 0, none⟩), .int .i64 i] w fun e w' => e = .returned (.bool (decide (0 ≤ i) && decide (i < n) && !f i.toNat)) ∧ Fr (Just c) w w' ∧ IsRef w' b c n (setF n f i) := by
  obtain ⟨a, cap, c0, ha, _⟩ := h.cells
  by_cases hi : i < 0 ∨ (n : Int) ≤ i
  · refine (rset_out b n cap a i w hi c0).mono fun e w' ⟨he, hw⟩ => ?_
    subst hw
    refine ⟨?_, Fr.refl _ _, ?_⟩
    · rw [he]
      rcases hi with hi | hi
      · simp [Int.not_le.2 hi]
      · simp [Int.not_lt.2 hi]
    · unfold setF; rw [if_neg (by omega)]; exact h
  · obtain ⟨j, rfl⟩ := Int.eq_ofNat_of_zero_le (show 0 ≤ i by omega)
    have hj : j < n := by omega
    rw [ha (by omega)] at c0
    have hb := h.bit hj
    have e1 : setF n f (j : Int) = Plain.upd f j true := by unfold setF; rw [if_pos (by omega)]; rfl
    rw [e1]
    cases hv : f j
    · rw [hv] at hb
      refine (rset_new b c n cap j w hj c0 hb.1 hb.2).mono fun e w' ⟨he, hw⟩ => ?_
      subst hw
      exact ⟨by rw [he]; simp [hj, hv], Fr.setCell w ⟨c, j, none⟩ _, h.put j hj true⟩
    · rw [hv] at hb
      refine (rset_was b c n cap j w hj c0 hb.1).mono fun e w' ⟨he, hw⟩ => ?_
      subst hw
      exact ⟨by rw [he]; simp [hj, hv], Fr.refl _ _, by rw [upd_same hv]; exact h⟩

set_option maxHeartbeats 400000 in
theorem rclear_not (b : Nat) (i : Int) (w : World) (h : Hid (Calls Tryd.prog 13 #[.pointer (some ⟨b, 0, none⟩), .int .i64 i] w fun e w' => e = .returned (.bool false) ∧ w = w')) :
    Calls Tryd.prog 21 #[.pointer (some ⟨b, 0, none⟩), .int .i64 i] w fun e w' => e = .returned (.bool false) ∧ w = w' := by
  go_enter Tryd.func21, Tryd.ntmps21
  go_wp2_with (go_at_call 13; refine h.out.mono ?_; rintro e w' ⟨rfl, rfl⟩)
  go_ret
  exact ⟨rfl, rfl⟩
set_option maxHeartbeats 400000 in
theorem rclear_in (b c n cap i : Nat) (w : World) (hi : i < n) (hc : w.cell? ⟨b, 0, none⟩ = some (.slice (some ⟨c, 0, none⟩) n cap)) (hb : w.cell? ⟨c, i, none⟩ = some (.bool true)) (hf : w.frozen? ⟨c, i, none⟩ = false)
    (h : Hid (Calls Tryd.prog 13 #[.pointer (some ⟨b, 0, none⟩), .int .i64 i] w fun e w' => e = .returned (.bool true) ∧ w = w')) :
    Calls Tryd.prog 21 #[.pointer (some ⟨b, 0, none⟩), .int .i64 i] w fun e w' => e = .returned (.bool true) ∧ w.setCell ⟨c, i, none⟩ (.bool false) = w' := by
  go_enter Tryd.func21, Tryd.ntmps21
  go_wp2_with (go_at_call 13; refine h.out.mono ?_; rintro e w' ⟨rfl, rfl⟩)
  go_ret
  exact ⟨rfl, rfl⟩
theorem rclear_any (b c n : Nat) (f : Nat → Bool) (i : Int) (w : World) (h : IsRef w b c n f) :
    Calls Tryd.prog 21 #[.pointer (some ⟨b, 0, none⟩), .int .i64 i] w fun e w' => e = .returned (.bool (mem n f i)) ∧ Fr (Just c) w w' ∧ IsRef w' b c n (clrF n f i) := by
  have hh := rhas_any b c n f i w h
  by_cases hi : mem n f i = false
  · rw [hi] at hh ⊢
    refine (rclear_not b i w (Lib.hid hh)).mono fun e w' ⟨he, hw⟩ => ?_
    subst hw
    refine ⟨he, Fr.refl _ _, ?_⟩
    unfold clrF
    split
    · rename_i hr
      obtain ⟨j, rfl⟩ := Int.eq_ofNat_of_zero_le hr.1
      rw [mem_in (by omega)] at hi
      rw [Int.toNat_natCast, upd_same hi]; exact h
    · exact h
  · have hi : mem n f i = true := by simpa using hi
    have hr : 0 ≤ i ∧ i < (n : Int) := by
      by_cases hr : 0 ≤ i ∧ i < (n : Int)
      · exact hr
      · rw [mem_out (by omega)] at hi; cases hi
    obtain ⟨j, rfl⟩ := Int.eq_ofNat_of_zero_le hr.1
    have hj : j < n := by omega
    obtain ⟨a, cap, c0, ha, _⟩ := h.cells
    rw [ha (by omega)] at c0
    have hb := h.bit hj
    rw [hi] at hh ⊢
    rw [mem_in hj] at hi
    rw [hi] at hb
    refine (rclear_in b c n cap j w hj c0 hb.1 hb.2 (Lib.hid hh)).mono fun e w' ⟨he, hw⟩ => ?_
    subst hw
    refine ⟨he, Fr.setCell w ⟨c, j, none⟩ _, ?_⟩
    unfold clrF; rw [if_pos hr]; exact h.put j hj false

set_option maxHeartbeats 400000 in
theorem rcount_walk (b c n cap : Nat) (a : Option Addr) (f : Nat → Bool) (w : World) (hn : n ≤ 65536) (c0 : w.cell? ⟨b, 0, none⟩ = some (.slice a n cap)) (ha : Hid (0 < n → a = some ⟨c, 0, none⟩))
    (hw : Hid (∀ q, q < n → w.cell? ⟨c, q, none⟩ = some (.bool (f q)))) :
    Calls Tryd.prog 26 #[.pointer (some ⟨b, 0, none⟩)] w fun e w' => e = .returned (.int .i64 (Plain.cnt f n)) ∧ w = w' := by
  go_enter Tryd.func26, Tryd.ntmps26
  go_wp2_with fail
  go_loop [3, 4] (fun t i => ∃ q : Nat, q ≤ n ∧ i = .int .i64 q ∧ t = .int .i64 (Plain.cnt f q)) (fun _ i => n - (intOf i).toNat)
  case atStart => exact ⟨0, Nat.zero_le _, rfl, rfl⟩
  case round =>
    obtain ⟨q, hq, rfl, rfl⟩ := hrel
    have b1 := Plain.cnt_le f q
    by_cases hlt : q < n
    · obtain rfl := ha.out (by omega)
      have hc := hw.out q hlt
      have HS : Hid (Plain.cnt f (q + 1) = Plain.cnt f q + (f q).toNat) := rfl
      cases hv : f q
      · rw [hv] at hc HS
        clear hv
        go_wp2_with fail
        go_round
        case rel => exact ⟨q + 1, by omega, by go_num, by rw [HS.out]; rfl⟩
        case measure => simp [intOf]; omega
      · rw [hv] at hc HS
        clear hv
        go_wp2_with fail
        go_round
        case rel => exact ⟨q + 1, by omega, by go_num, by rw [HS.out]; go_num⟩
        case measure => simp [intOf]; omega
    · go_wp2_with fail
      have e : q = n := by omega
      subst e
      go_ret
      exact ⟨rfl, rfl⟩
theorem rcount_any (b c n : Nat) (f : Nat → Bool) (w : World) (h : IsRef w b c n f) :
    Calls Tryd.prog 26 #[.pointer (some ⟨b, 0, none⟩)] w fun e w' => e = .returned (.int .i64 (Plain.cnt f n)) ∧ w = w' := by
  obtain ⟨a, cap, c0, ha, _⟩ := h.cells
  exact rcount_walk b c n cap a f w h.small c0 (Lib.hid ha) (Lib.hid fun q hq => (h.bit hq).1)

set_option maxHeartbeats 400000 in
theorem rlow_walk (b c n cap : Nat) (a : Option Addr) (f : Nat → Bool) (w : World) (hn : n ≤ 65536) (c0 : w.cell? ⟨b, 0, none⟩ = some (.slice a n cap)) (ha : Hid (0 < n → a = some ⟨c, 0, none⟩))
    (hw : Hid (∀ q, q < n → w.cell? ⟨c, q, none⟩ = some (.bool (f q)))) :
    Calls Tryd.prog 25 #[.pointer (some ⟨b, 0, none⟩)] w fun e w' => LowSaid n f e ∧ w = w' := by
  go_enter Tryd.func25, Tryd.ntmps25
  go_wp2_with fail
  go_loop [4] (fun i => ∃ q : Nat, q ≤ n ∧ i = .int .i64 q ∧ Hid (∀ j, j < q → f j = true)) (fun i => n - (intOf i).toNat)
  case atStart => exact ⟨0, Nat.zero_le _, rfl, Lib.hid fun _ h => by omega⟩
  case round =>
    obtain ⟨q, hq, rfl, hlow⟩ := hrel
    by_cases hlt : q < n
    · obtain rfl := ha.out (by omega)
      have hc := hw.out q hlt
      cases hv : f q
      · have HV := Lib.hid hv
        rw [hv] at hc
        clear hv
        go_wp2_with fail
        go_ret2
        exact ⟨⟨q, true, rfl, .inl ⟨rfl, hlt, HV.out, hlow.out⟩⟩, rfl⟩
      · have HV := Lib.hid hv
        rw [hv] at hc
        clear hv
        go_wp2_with fail
        go_round
        case rel =>
          refine ⟨q + 1, by omega, by go_num, Lib.hid fun j hj => ?_⟩
          by_cases e : j = q
          · rw [e]; exact HV.out
          · exact hlow.out j (by omega)
        case measure => simp [intOf]; omega
    · go_wp2_with fail
      have e : q = n := by omega
      subst e
      go_ret2
      exact ⟨⟨0, false, rfl, .inr ⟨rfl, rfl, hlow.out⟩⟩, rfl⟩
theorem rlow_any (b c n : Nat) (f : Nat → Bool) (w : World) (h : IsRef w b c n f) :
    Calls Tryd.prog 25 #[.pointer (some ⟨b, 0, none⟩)] w fun e w' => LowSaid n f e ∧ w = w' := by
  obtain ⟨a, cap, c0, ha, _⟩ := h.cells
  exact rlow_walk b c n cap a f w h.small c0 (Lib.hid ha) (Lib.hid fun q hq => (h.bit hq).1)
end Go.Proofs.YtdbfmckikmddcaaDoor
