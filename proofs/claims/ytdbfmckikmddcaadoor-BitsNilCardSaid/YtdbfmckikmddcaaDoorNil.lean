/- BitsNil: the walk. -/
import Derived.Test.YtdbfmckikmddcaaDoorWi
namespace Go.Proofs.YtdbfmckikmddcaaDoor
open Go.RowKit
theorem has_nil (i : Int) (w : World) : Calls Tryd.prog 12 #[.pointer none, .int .i64 i] w fun e w' => e = .returned (.bool false) ∧ w = w' := has_of _ _ false w w (Lib.hid (at_nil i _ w))
theorem set_nil (i : Int) (w : World) : Calls Tryd.prog 16 #[.pointer none, .int .i64 i] w fun e w' => e = .returned (.bool false) ∧ w = w' := set_of _ _ false w w (Lib.hid (at_nil i _ w))
theorem clear_nil (i : Int) (w : World) : Calls Tryd.prog 15 #[.pointer none, .int .i64 i] w fun e w' => e = .returned (.bool false) ∧ w = w' := clear_of _ _ false w w (Lib.hid (at_nil i _ w))
set_option maxHeartbeats 1000000 in
theorem nil_ok (i : Int) (n : Nat) (w : World) (hn : n ≤ 65536) (T : Hid (Table w)) :
    Calls Tryd.prog 8 #[.int .i64 i, .int .i64 n] w fun e w' => e = .returned (.bool true) ∧ Fr No w w' := by
  go_enter Tryd.func8, Tryd.ntmps8
  go_wp2_with (first
    | (go_at_call 12; refine (has_nil _ _).mono ?_; rintro e w' ⟨rfl, rfl⟩)
    | (go_at_call 16; refine (set_nil _ _).mono ?_; rintro e w' ⟨rfl, rfl⟩)
    | (go_at_call 15; refine (clear_nil _ _).mono ?_; rintro e w' ⟨rfl, rfl⟩)
    | (go_at_call 18; refine (low_nil _).mono ?_; rintro e w' ⟨rfl, rfl⟩)
    | (go_at_call 17; refine (count_nil _).mono ?_; rintro e w' ⟨rfl, rfl⟩)
    | (go_at_call 23; refine (size_nil _).mono ?_; rintro e w' ⟨rfl, rfl⟩)
    | (go_at_call 19; refine (copy_nil _).mono ?_; rintro e w' ⟨rfl, rfl⟩)
    | (go_at_call 14; refine (new_val n w hn).mono ?_; rintro e w1 ⟨rfl, F1, B1⟩)
    | (go_at_call 9; refine (works_any _ (Lib.hid (T.out.keep F1.out (fun x => x)))).mono ?_; rintro e w2 ⟨rfl, F2⟩))
  go_ret
  exact ⟨rfl, F1.out.then F2⟩
set_option maxHeartbeats 1000000 in
theorem nil_bad (i n : Int) (w : World) (hn : n < 0 ∨ 65536 < n) (T : Hid (Table w)) :
    Calls Tryd.prog 8 #[.int .i64 i, .int .i64 n] w fun e w' => e = .returned (.bool true) ∧ Fr No w w' := by
  have H := Lib.hid (new_bad n w hn)
  obtain ⟨v1, v2, D1, D2, hv⟩ : ∃ v1 v2 : Bool, decide (0 ≤ n) = v1 ∧ decide (n ≤ 65536) = v2 ∧ (v1 && v2) = false := ⟨_, _, rfl, rfl, by rcases hn with h | h <;> simp <;> omega⟩
  cases v1 <;> cases v2 <;> simp at hv
  all_goals
    clear hn
    go_enter Tryd.func8, Tryd.ntmps8
    go_wp2_with (first
      | (go_at_call 12; refine (has_nil _ _).mono ?_; rintro e w' ⟨rfl, rfl⟩)
      | (go_at_call 16; refine (set_nil _ _).mono ?_; rintro e w' ⟨rfl, rfl⟩)
      | (go_at_call 15; refine (clear_nil _ _).mono ?_; rintro e w' ⟨rfl, rfl⟩)
      | (go_at_call 18; refine (low_nil _).mono ?_; rintro e w' ⟨rfl, rfl⟩)
      | (go_at_call 17; refine (count_nil _).mono ?_; rintro e w' ⟨rfl, rfl⟩)
      | (go_at_call 23; refine (size_nil _).mono ?_; rintro e w' ⟨rfl, rfl⟩)
      | (go_at_call 19; refine (copy_nil _).mono ?_; rintro e w' ⟨rfl, rfl⟩)
      | (go_at_call 14; refine H.out.mono ?_; rintro e w' ⟨rfl, rfl⟩)
      | (go_at_call 9; refine (works_any _ T).mono ?_; rintro e w2 ⟨rfl, F2⟩))
    go_ret
    exact ⟨rfl, F2⟩
theorem nil_any (i n : Int) (w : World) (T : Table w) :
    Calls Tryd.prog 8 #[.int .i64 i, .int .i64 n] w fun e w' => e = .returned (.bool true) ∧ Fr No w w' := by
  by_cases h1 : n < 0 ∨ 65536 < n
  · exact nil_bad i n w h1 (Lib.hid T)
  · obtain ⟨k, rfl⟩ := Int.eq_ofNat_of_zero_le (show 0 ≤ n by omega)
    exact nil_ok i k w (by omega) (Lib.hid T)
end Go.Proofs.YtdbfmckikmddcaaDoor
