/- BitsPlays: the walk. -/
import Derived.Test.YtdbfmckikmddcaaDoorWk
namespace Go.Proofs.YtdbfmckikmddcaaDoor
open Go.RowKit
set_option maxHeartbeats 400000 in
theorem plays_many (n i : Int) (a : Option Addr) (m cap : Nat) (w : World) (hm : 300 < m) (T : Hid (Table w)) :
    Calls Tryd.prog 3 #[.int .i64 n, .slice a m cap, .int .i64 i] w fun e w' => e = .returned (.bool true) ∧ Fr No w w' := by
  go_enter Tryd.func3, Tryd.ntmps3
  go_wp2_with (go_at_call 9; refine (works_any _ T).mono ?_; rintro e w1 ⟨rfl, F1⟩)
  all_goals go_ret
  all_goals exact ⟨rfl, F1⟩
set_option maxHeartbeats 400000 in
theorem plays_great (n i : Int) (a : Option Addr) (m cap : Nat) (w : World) (hm : m ≤ 300) (h1 : 5000 < n) (h2 : n ≤ 65536) (T : Hid (Table w)) :
    Calls Tryd.prog 3 #[.int .i64 n, .slice a m cap, .int .i64 i] w fun e w' => e = .returned (.bool true) ∧ Fr No w w' := by
  go_enter Tryd.func3, Tryd.ntmps3
  go_wp2_with (go_at_call 9; refine (works_any _ T).mono ?_; rintro e w1 ⟨rfl, F1⟩)
  all_goals go_ret
  all_goals exact ⟨rfl, F1⟩
set_option maxHeartbeats 400000 in
theorem plays_bad (n i : Int) (a : Option Addr) (m cap : Nat) (w : World) (hm : m ≤ 300) (hn : n < 0 ∨ 65536 < n) (T : Hid (Table w)) :
    Calls Tryd.prog 3 #[.int .i64 n, .slice a m cap, .int .i64 i] w fun e w' => e = .returned (.bool true) ∧ Fr No w w' := by
  have H := Lib.hid (played_bad n m cap a w hn hm)
  rcases hn with hn | hn
  all_goals
    go_enter Tryd.func3, Tryd.ntmps3
    go_wp2_with (first | (go_at_call 9; refine (works_any _ T).mono ?_; rintro e w1 ⟨rfl, F1⟩) | (go_at_call 10; refine H.out.mono ?_; rintro e w' ⟨rfl, rfl⟩))
    all_goals go_ret
    all_goals exact ⟨rfl, F1⟩
set_option maxHeartbeats 400000 in
theorem plays_ok (n m cap : Nat) (i : Int) (a : Option Addr) (l : List (Bool × Int)) (w : World) (hn : n ≤ 5000) (hm : m ≤ 300) (hl : Hid (l.length = m)) (hS : Hid (StepsAt w a l)) (T : Hid (Table w)) :
    Calls Tryd.prog 3 #[.int .i64 n, .slice a m cap, .int .i64 i] w fun e w' => e = .returned (.bool true) ∧ Fr No w w' := by
  have H := Lib.hid (played_ok n m cap a l w (by omega) hm hl hS)
  go_enter Tryd.func3, Tryd.ntmps3
  go_wp2_with fail
  refine H.out.mono ?_
  rintro e w1 ⟨b, c, d, g, rfl, F1, B1, R1, hh⟩
  have F := Lib.hid F1
  have B := Lib.hid B1
  have R := Lib.hid R1
  have T1 := Lib.hid (T.out.keep F1 no_one)
  clear F1 B1 R1 hh
  go_wp2_with fail
  refine (alike_any b c d g n _ w1 B R T1).mono ?_
  rintro e w2 ⟨rfl, F2⟩
  have G2 := Lib.hid F2
  clear F2
  go_wp2_with fail
  refine (has_val b c n _ i _ w2 rfl (B.out.no G2.out)).mono ?_
  rintro e w3 ⟨rfl, F3⟩
  go_wp2_with fail
  refine (rhas_any d g n _ i w3 (R.out.no (G2.out.then F3.out))).mono ?_
  rintro e w' ⟨rfl, rfl⟩
  have T3 := Lib.hid (T1.out.keep (G2.out.then F3.out) no_one)
  go_wp2_with fail
  refine (works_any _ T3).mono ?_
  rintro e w4 ⟨rfl, F4⟩
  go_wp2_with fail
  go_ret
  exact ⟨rfl, ((F.out.then G2.out).then F3.out).then F4⟩
theorem plays_any (n i : Int) (a : Option Addr) (m cap : Nat) (l : List (Bool × Int)) (w : World) (hl : l.length = m) (hS : StepsAt w a l) (T : Table w) :
    Calls Tryd.prog 3 #[.int .i64 n, .slice a m cap, .int .i64 i] w fun e w' => e = .returned (.bool true) ∧ Fr No w w' := by
  by_cases hm : 300 < m
  · exact plays_many n i a m cap w hm (Lib.hid T)
  · by_cases h1 : n < 0 ∨ 65536 < n
    · exact plays_bad n i a m cap w (by omega) h1 (Lib.hid T)
    · by_cases h2 : 5000 < n
      · exact plays_great n i a m cap w (by omega) h2 (by omega) (Lib.hid T)
      · obtain ⟨k, rfl⟩ := Int.eq_ofNat_of_zero_le (show 0 ≤ n by omega)
        exact plays_ok k m cap i a l w (by omega) (by omega) (Lib.hid hl) (Lib.hid hS) (Lib.hid T)
end Go.Proofs.YtdbfmckikmddcaaDoor
