/- Classes of bytes, and the longest beginning of a text whose bytes are all so. -/
import Derived.Test.YtcaejcbmkiacmaaDoorRows
import Derived.Test.YtcaejcbmkiacmaaDoorPlain
import Derived.Test.YtcaejcbmkiacmaaDoorShelf
import Derived.WalkKit
import Derived.WalkSpells
import Derived.WalkLawsBesides
import Derived.StillTailTactics
import Derived.Lib.Hide
namespace Go.Proofs.YtcaejcbmkiacmaaDoor
open Go.RowKit

theorem small_any (c : UInt8) (w : World) : Calls Tryd.prog 32 #[.int .u8 c.toNat] w fun e w' => e = .returned (.bool (small c)) ∧ w' = w := by
  have hc : c.toNat < 256 := c.toNat_lt
  unfold small
  generalize c.toNat = n at hc ⊢
  go_enter Tryd.func32, Tryd.ntmps32
  by_cases h : 97 ≤ n
  · go_wp2_with fail
    go_ret
    simp [h]
    omega
  · go_wp2_with fail
    go_ret
    simp [h]
theorem great_any (c : UInt8) (w : World) : Calls Tryd.prog 33 #[.int .u8 c.toNat] w fun e w' => e = .returned (.bool (great c)) ∧ w' = w := by
  have hc : c.toNat < 256 := c.toNat_lt
  unfold great
  generalize c.toNat = n at hc ⊢
  go_enter Tryd.func33, Tryd.ntmps33
  by_cases h : 65 ≤ n
  · go_wp2_with fail
    go_ret
    simp [h]
    omega
  · go_wp2_with fail
    go_ret
    simp [h]
theorem digit_any (c : UInt8) (w : World) : Calls Tryd.prog 35 #[.int .u8 c.toNat] w fun e w' => e = .returned (.bool (digit c)) ∧ w' = w := by
  have hc : c.toNat < 256 := c.toNat_lt
  unfold digit
  generalize c.toNat = n at hc ⊢
  go_enter Tryd.func35, Tryd.ntmps35
  by_cases h : 48 ≤ n
  · go_wp2_with fail
    go_ret
    simp [h]
    omega
  · go_wp2_with fail
    go_ret
    simp [h]
theorem part_any (c : UInt8) (w : World) : Calls Tryd.prog 53 #[.int .u8 c.toNat] w fun e w' => e = .returned (.bool (part c)) ∧ w' = w := by
  have hc : c.toNat < 256 := c.toNat_lt
  unfold part
  have c1 := small_any c w
  have c2 := great_any c w
  have c3 := digit_any c w
  generalize small c = p1 at c1 ⊢
  generalize great c = p2 at c2 ⊢
  generalize digit c = p3 at c3 ⊢
  generalize c.toNat = n at hc c1 c2 c3 ⊢
  have C1 := Lib.hid c1
  have C2 := Lib.hid c2
  have C3 := Lib.hid c3
  clear c1 c2 c3
  go_enter Tryd.func53, Tryd.ntmps53
  cases p1
  · cases p2
    · cases p3
      · go_wp2_with fail
        refine C1.out.mono ?_
        rintro e w1 ⟨rfl, rfl⟩
        go_wp2_with fail
        refine C2.out.mono ?_
        rintro e w1 ⟨rfl, rfl⟩
        go_wp2_with fail
        refine C3.out.mono ?_
        rintro e w1 ⟨rfl, rfl⟩
        go_wp2_with fail
        go_ret
        simp
        rw [Bool.eq_iff_iff]
        simp
        omega
      · go_wp2_with fail
        refine C1.out.mono ?_
        rintro e w1 ⟨rfl, rfl⟩
        go_wp2_with fail
        refine C2.out.mono ?_
        rintro e w1 ⟨rfl, rfl⟩
        go_wp2_with fail
        refine C3.out.mono ?_
        rintro e w1 ⟨rfl, rfl⟩
        go_wp2_with fail
        go_ret
        simp
    · go_wp2_with fail
      refine C1.out.mono ?_
      rintro e w1 ⟨rfl, rfl⟩
      go_wp2_with fail
      refine C2.out.mono ?_
      rintro e w1 ⟨rfl, rfl⟩
      go_wp2_with fail
      go_ret
      simp
  · go_wp2_with fail
    refine C1.out.mono ?_
    rintro e w1 ⟨rfl, rfl⟩
    go_wp2_with fail
    go_ret
    simp

/-- a function on bytes that tells p -/
def TellsB (g : FuncId) (p : UInt8 → Bool) : Prop := ∀ (c : UInt8) (w : World), Calls Tryd.prog g #[.int .u8 c.toNat] w fun e w' => e = .returned (.bool (p c)) ∧ w' = w
set_option maxHeartbeats 1000000 in
theorem run_any (l : Bs) (s : ByteArray) (hsl : Hid (s = mk l)) (g : FuncId) (p : UInt8 → Bool) (hg : Hid (TellsB g p)) (hcf : ∀ (args : Array Value) (u : World), Sem.run Tryd.prog (callFunc g args) u = .ok (.enter g args) u)
    (n : Nat) (hn : n ≤ 9223372036854775807) (hs : s.size = n) (w : World) :
    Calls Tryd.prog 52 #[.string s, .func (.func g) #[] #[]] w fun e w' => e = .returned (.string (mk (l.takeWhile p))) ∧ w' = w := by
  go_enter Tryd.func52, Tryd.ntmps52
  go_wp2_with fail
  go_loopw [8] (fun i wr => wr = w ∧ ∃ q : Nat, q ≤ n ∧ i = .int .i64 q ∧ Hid (∀ k, k < q → ∀ c, l[k]? = some c → p c = true)) (fun i _ => n - (intOf i).toNat)
  case atStart => exact ⟨rfl, 0, Nat.zero_le _, rfl, Lib.hid fun _ h => by omega⟩
  case round =>
    obtain ⟨rfl, q, hq, rfl, HH⟩ := hrel
    by_cases hlt : q < n
    · have hlt2 : q < s.size := by omega
      have HG : Hid (l[q]? = some s[q]) := by
        have e := hsl.out
        subst e
        exact Lib.hid (mk_get l q hlt2)
      have hc := hg.out s[q] wr
      cases hp : p s[q]
      · rw [hp] at hc
        have HC := Lib.hid hc
        have HP := Lib.hid hp
        clear hc hp
        go_wp2_with fail
        refine HC.out.mono ?_
        rintro e w2 ⟨rfl, rfl⟩
        go_wp2_with fail
        go_ret
        refine ⟨?_, rfl⟩
        have e : s.extract 0 q = mk (l.takeWhile p) := by rw [takeWhile_cut p l q _ HH.out HG.out HP.out, hsl.out, mk_take]
        exact congrArg (fun x => Ending.returned (.string x)) e
      · rw [hp] at hc
        have HC := Lib.hid hc
        have HP := Lib.hid hp
        clear hc hp
        go_wp2_with fail
        refine HC.out.mono ?_
        rintro e w2 ⟨rfl, rfl⟩
        go_wp2_with fail
        refine ⟨⟨trivial, q + 1, by omega, by go_num, Lib.hid fun k hk c hc => ?_⟩, by simp [intOf]; omega⟩
        by_cases e : k = q
        · subst e
          rw [HG.out] at hc
          injection hc with hc
          rw [← hc]
          exact HP.out
        · exact HH.out k (by omega) c hc
    · go_wp2_with fail
      go_ret
      refine ⟨?_, rfl⟩
      have e : s.size = l.length := by rw [hsl.out, mk_size]
      have e2 : s = mk (l.takeWhile p) := by
        rw [takeWhile_all p l, hsl.out]
        intro k hk
        exact HH.out k (by omega)
      exact congrArg (fun x => Ending.returned (.string x)) e2
theorem run_mk (l : Bs) (g : FuncId) (p : UInt8 → Bool) (hg : TellsB g p) (hcf : ∀ (args : Array Value) (u : World), Sem.run Tryd.prog (callFunc g args) u = .ok (.enter g args) u)
    (hn : l.length ≤ 9223372036854775807) (w : World) :
    Calls Tryd.prog 52 #[.string (mk l), .func (.func g) #[] #[]] w fun e w' => e = .returned (.string (mk (l.takeWhile p))) ∧ w' = w :=
  run_any l (mk l) (Lib.hid rfl) g p (Lib.hid hg) hcf l.length hn (mk_size l) w
theorem tells_part : TellsB 53 part := fun c w => part_any c w
theorem tells_digit : TellsB 35 digit := fun c w => digit_any c w
theorem enters53 (args : Array Value) (u : World) : Sem.run Tryd.prog (callFunc 53 args) u = .ok (.enter 53 args) u := by kernel_rfl
theorem enters35 (args : Array Value) (u : World) : Sem.run Tryd.prog (callFunc 35 args) u = .ok (.enter 35 args) u := by kernel_rfl
end Go.Proofs.YtcaejcbmkiacmaaDoor
