/- 'alike' is true of a set and the document's that hold the same. -/
import Derived.Test.YtdbfmckikmddcaaDoorWj
namespace Go.Proofs.YtdbfmckikmddcaaDoor
open Go.RowKit

theorem exists_low (n : Nat) (f : Nat → Bool) : ∃ i v, LowIs n f i v := by
  by_cases h : ∃ i, i < n ∧ f i = false
  · obtain ⟨i, hi, hf⟩ := h
    have : ∀ m, (∃ j, j ≤ m ∧ j < n ∧ f j = false) → ∃ i v, LowIs n f i v := by
      intro m
      induction m with
      | zero => rintro ⟨j, hj, hn, hf⟩; obtain rfl : j = 0 := by omega
                exact ⟨0, true, .inl ⟨rfl, hn, hf, fun j hj => by omega⟩⟩
      | succ m ih =>
        rintro ⟨j, hj, hn, hf⟩
        by_cases hl : ∃ q, q ≤ m ∧ q < n ∧ f q = false
        · exact ih hl
        · obtain rfl : j = m + 1 := by
            by_cases e : j = m + 1
            · exact e
            · exact absurd ⟨j, by omega, hn, hf⟩ hl
          refine ⟨m + 1, true, .inl ⟨rfl, hn, hf, fun q hq => ?_⟩⟩
          cases hv : f q
          · exact absurd ⟨q, by omega, by omega, hv⟩ hl
          · rfl
    exact this i ⟨i, Nat.le_refl _, hi, hf⟩
  · refine ⟨0, false, .inr ⟨rfl, rfl, fun j hj => ?_⟩⟩
    cases hv : f j
    · exact absurd ⟨j, hj, hv⟩ h
    · rfl
theorem rlow_val (b c n k : Nat) (f : Nat → Bool) (v : Bool) (w : World) (hv : LowIs n f k v) (h : IsRef w b c n f) :
    Calls Tryd.prog 25 #[.pointer (some ⟨b, 0, none⟩)] w fun e w' => e = .returned (.tuple #[.int .i64 k, .bool v]) ∧ w = w' :=
  (rlow_any b c n f w h).mono fun _ _ ⟨h1, h2⟩ => ⟨h1.get hv, h2⟩
theorem Fr.drewN (w : World) (q : Nat) : Fr No w (w.drewN q) := ⟨rfl, rfl, rfl, Nat.le_refl _, fun _ _ _ => rfl⟩
theorem no_one {x : Nat} : ¬ No x := fun h => h
theorem IsBits.no {w w' : World} {b c n : Nat} {f : Nat → Bool} (h : IsBits w b c n f) (hf : Fr No w w') : IsBits w' b c n f := h.keep hf no_one no_one
theorem IsRef.no {w w' : World} {b c n : Nat} {f : Nat → Bool} (h : IsRef w b c n f) (hf : Fr No w w') : IsRef w' b c n f := h.keep hf no_one no_one
theorem swap_same {f : FuncId} {args : Array Value} {w : World} {v : Value} (h : Calls Tryd.prog f args w fun e w' => e = .returned v ∧ w = w') : Calls Tryd.prog f args w fun e w' => e = .returned v ∧ w' = w :=
  h.mono fun _ _ ⟨h1, h2⟩ => ⟨h1, h2.symm⟩

set_option maxHeartbeats 1000000 in
theorem alike_any (b c d g n : Nat) (f : Nat → Bool) (w : World) (B : Hid (IsBits w b c n f)) (R : Hid (IsRef w d g n f)) (T : Hid (Table w)) :
    Calls Tryd.prog 11 #[.pointer (some ⟨b, 0, none⟩), .pointer (some ⟨d, 0, none⟩)] w fun e w' => e = .returned (.bool true) ∧ Fr No w w' := by
  obtain ⟨k, v, hl⟩ := exists_low n f
  have hn := B.out.small
  have L := Lib.hid hl
  obtain ⟨a, cap, c0, ha, _⟩ := R.out.cells
  clear ha hl
  go_enter Tryd.func11, Tryd.ntmps11
  go_wp2_with fail
  go_loopw [5] (fun i wr => ∃ q : Nat, q ≤ n + 2 ∧ i = .int .i64 ((q : Int) - 1) ∧ Hid (Fr No w wr)) (fun i _ => (n + 1 - intOf i).toNat)
  case atStart => exact ⟨0, by omega, rfl, Lib.hid (Fr.refl _ _)⟩
  case round =>
    obtain ⟨q, hq, rfl, F⟩ := hrel
    have c1 : wr.cell? ⟨d, 0, none⟩ = some (.slice a n cap) := F.out.cell c0
    by_cases hlt : q < n + 2
    · have t0 : ((q : Int) - 1 ≤ (n : Int)) := by omega
      go_wp2_with (first
        | (go_at_call 12; refine (has_val b c n f _ _ _ rfl (B.out.no F.out)).mono ?_; rintro e w1 ⟨rfl, F1⟩)
        | (go_at_call 13; refine (rhas_any d g n f _ _ (R.out.no (F.out.then F1.out))).mono ?_; rintro e w' ⟨rfl, rfl⟩))
      exact ⟨⟨q + 1, by omega, by go_num, Lib.hid (F.out.then F1.out)⟩, by simp [intOf]; omega⟩
    · have t0 : ¬ ((q : Int) - 1 ≤ (n : Int)) := by omega
      go_wp2_with fail
      have BB := Lib.hid (B.out.no F.out)
      have RR := Lib.hid (R.out.no F.out)
      have TT := Lib.hid (T.out.keep F.out no_one)
      refine (low_val b c n k f v wr L.out BB.out TT.out).mono ?_
      rintro e w' ⟨rfl, rfl⟩
      go_wp2_with fail
      refine (rlow_val d g n k f v wr L.out RR.out).mono ?_
      rintro e w' ⟨rfl, rfl⟩
      go_wp2_with fail
      go_quiet (first
        | (go_at_call 17; exact Calls.quiet_of_same (swap_same (count_any b c n f _ (BB.out.no (Fr.drewN wr _)))))
        | (go_at_call 26; exact Calls.quiet_of_same (swap_same (rcount_any d g n f _ (RR.out.no (Fr.drewN wr _)))))
        | (go_at_call 23; exact Calls.quiet_of_same (swap_same (size_any b c n f _ (BB.out.no (Fr.drewN wr _))))))
      go_wp2_with fail
      go_ret
      exact ⟨rfl, F.out.then (Fr.drewN _ _)⟩
end Go.Proofs.YtdbfmckikmddcaaDoor
