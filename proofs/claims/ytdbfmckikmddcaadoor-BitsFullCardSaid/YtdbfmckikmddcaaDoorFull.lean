/- BitsFull: the walk. -/
import Derived.Test.YtdbfmckikmddcaaDoorWk
namespace Go.Proofs.YtdbfmckikmddcaaDoor
open Go.RowKit
def firstN (i : Nat) : Nat → Bool := fun j => decide (j < i)
theorem firstN_zero : g0 = firstN 0 := by funext j; simp [g0, firstN]
theorem low_firstN {n i : Nat} (h : i < n) : LowIs n (firstN i) i true := .inl ⟨rfl, h, by simp [firstN], fun j hj => by simp [firstN, hj]⟩
theorem low_firstN_all {n : Nat} : LowIs n (firstN n) 0 false := .inr ⟨rfl, rfl, fun j hj => by simp [firstN, hj]⟩
theorem set_firstN {n i : Nat} (h : i < n) : setF n (firstN i) (i : Int) = firstN (i + 1) := by
  unfold setF; rw [if_pos (by omega)]
  funext j
  simp only [Plain.upd, firstN, Int.toNat_natCast]
  split
  · subst_vars; simp
  · have : (j < i + 1) = (j < i) := by apply propext; omega
    simp [this]
theorem set_firstN' {n i : Nat} (h : i < n) : setF n (firstN (i + 1)) (i : Int) = firstN (i + 1) := by
  unfold setF; rw [if_pos (by omega)]
  funext j
  simp only [Plain.upd, firstN, Int.toNat_natCast]
  split
  · subst_vars; simp
  · rfl
theorem clr_firstN {n i : Nat} (h : i < n) : clrF n (firstN (i + 1)) (i : Int) = firstN i := by
  unfold clrF; rw [if_pos (by omega)]
  funext j
  simp only [Plain.upd, firstN, Int.toNat_natCast]
  split
  · subst_vars; simp
  · have : (j < i + 1) = (j < i) := by apply propext; omega
    simp [this]
theorem clr_firstN' {n i : Nat} (h : i < n) : clrF n (firstN i) (i : Int) = firstN i := by
  unfold clrF; rw [if_pos (by omega)]
  funext j
  simp only [Plain.upd, firstN, Int.toNat_natCast]
  split
  · subst_vars; simp
  · rfl
theorem cnt_firstN (n : Nat) : Plain.cnt (firstN n) n = n := by
  rw [Plain.cnt_congr (g := fun _ => true) (fun j hj => by simp [firstN, hj])]
  induction n with
  | zero => rfl
  | succ n ih => simp only [Plain.cnt, ih]; rfl
theorem cnt_firstN_zero (n : Nat) : Plain.cnt (firstN 0) n = 0 := by
  rw [← firstN_zero]; exact Plain.cnt_none n

set_option maxHeartbeats 1000000 in
theorem full_walk (x s : Nat) (w : World) (hx : x ≤ 65535) (hs : s < 3000) (h1 : ((x : Int).tmod 3000) = (s : Int)) (T : Hid (Table w)) :
    Calls Tryd.prog 6 #[.int .u16 x] w fun e w' => e = .returned (.bool true) ∧ Fr No w w' := by
  go_enter Tryd.func6, Tryd.ntmps6
  go_wp2_with fail
  refine (new_val s w (by omega)).mono ?_
  rintro e w1 ⟨rfl, F1, B1⟩
  generalize hb : w.heap.size + 1 = b at B1
  generalize hc : w.heap.size = c at B1
  have Hc : Hid (w.heap.size ≤ c) := Lib.hid (by omega)
  rw [firstN_zero] at B1
  clear hb hc
  go_wp2_with fail
  go_loopw [6] (fun i wr => ∃ q : Nat, q ≤ s ∧ i = .int .i64 q ∧ Hid (Fr No w wr ∧ IsBits wr b c s (firstN q))) (fun i _ => s - (intOf i).toNat)
  case atStart => exact ⟨0, Nat.zero_le _, rfl, Lib.hid ⟨F1.out, B1.out⟩⟩
  case round =>
    obtain ⟨q, hq, rfl, HH⟩ := hrel
    by_cases hlt : q < s
    · go_wp2_with fail
      refine (low_val b c s q (firstN q) true wr (low_firstN hlt) HH.out.2 (T.out.keep HH.out.1 no_one)).mono ?_
      rintro e w' ⟨rfl, rfl⟩
      go_wp2_with fail
      refine (set_val b c s (firstN q) (firstN (q + 1)) q true wr (by simp [firstN, hlt]) (set_firstN hlt) HH.out.2).mono ?_
      rintro e w2 ⟨rfl, F2, B2⟩
      go_wp2_with fail
      refine (set_val b c s (firstN (q + 1)) (firstN (q + 1)) q false w2 (by simp [firstN]) (set_firstN' hlt) B2.out).mono ?_
      rintro e w3 ⟨rfl, F3, B3⟩
      go_wp2_with fail
      go_roundw
      case rel => exact ⟨q + 1, by omega, by go_num, Lib.hid ⟨(HH.out.1.own F2.out Hc.out).own F3.out Hc.out, B3.out⟩⟩
      case measure => simp [intOf]; omega
    · have e : q = s := by omega
      subst e
      go_wp2_with fail
      refine (low_val b c q 0 (firstN q) false wr low_firstN_all HH.out.2 (T.out.keep HH.out.1 no_one)).mono ?_
      rintro e w' ⟨rfl, rfl⟩
      go_wp2_with fail
      refine (count_val b c q q (firstN q) wr (cnt_firstN q) HH.out.2).mono ?_
      rintro e w' ⟨rfl, rfl⟩
      obtain ⟨w5, hw5⟩ : ∃ w5, w5 = wr := ⟨wr, rfl⟩
      rw [← hw5] at HH ⊢
      clear hw5 wr
      go_wp2_with fail
      go_loopw [11] (fun i wr => ∃ p : Nat, p ≤ q ∧ i = .int .i64 ((p : Int) - 1) ∧ Hid (Fr No w wr ∧ IsBits wr b c q (firstN p))) (fun i _ => (intOf i + 1).toNat)
      case atStart => exact ⟨q, Nat.le_refl _, rfl, HH⟩
      case round =>
        obtain ⟨p, hp, rfl, HH2⟩ := hrel
        cases p with
        | zero =>
          go_wp2_with fail
          refine (count_val b c q 0 (firstN 0) wr (cnt_firstN_zero q) HH2.out.2).mono ?_
          rintro e w' ⟨rfl, rfl⟩
          go_wp2_with fail
          refine (works_any wr (Lib.hid (T.out.keep HH2.out.1 no_one))).mono ?_
          rintro e w6 ⟨rfl, F6⟩
          go_wp2_with fail
          go_ret
          exact ⟨rfl, HH2.out.1.then F6⟩
        | succ p =>
          have e1 : (((p + 1 : Nat) : Int) - 1) = (p : Int) := by omega
          rw [e1]
          go_wp2_with fail
          refine (clear_val b c q (firstN (p + 1)) (firstN p) p true wr (by simp [mem, firstN]; omega) (clr_firstN (by omega)) HH2.out.2).mono ?_
          rintro e w2 ⟨rfl, F2, B2⟩
          go_wp2_with fail
          refine (clear_val b c q (firstN p) (firstN p) p false w2 (by simp [mem, firstN]) (clr_firstN' (by omega)) B2.out).mono ?_
          rintro e w3 ⟨rfl, F3, B3⟩
          have F := (HH2.out.1.own F2.out Hc.out).own F3.out Hc.out
          have T3 := Lib.hid (T.out.keep F no_one)
          have FF := Lib.hid F
          clear F
          go_wp2_with fail
          refine (low_val b c q p (firstN p) true w3 (low_firstN (by omega)) B3.out T3.out).mono ?_
          rintro e w' ⟨rfl, rfl⟩
          go_wp2_with fail
          exact ⟨⟨p, by omega, rfl, Lib.hid ⟨FF.out, B3.out⟩⟩, by simp [intOf]⟩
theorem full_any (x0 : Int) (w0 : (Lit.int .u16 x0).wf = true) (W : World) (T : Table W) :
    Calls Tryd.prog 6 #[.int .u16 x0] W fun e w' => e = .returned (.bool true) ∧ Fr No W w' := by
  have hx : 0 ≤ x0 ∧ x0 ≤ 65535 := by simpa [Lit.wf, IntKind.min, IntKind.max, IntKind.signed, IntKind.bits] using w0
  obtain ⟨x, rfl⟩ := Int.eq_ofNat_of_zero_le hx.1
  exact full_walk x (x % 3000) W (by omega) (by omega) (by rw [Int.tmod_eq_emod_of_nonneg (by omega)]; omega) (Lib.hid T)
end Go.Proofs.YtdbfmckikmddcaaDoor
