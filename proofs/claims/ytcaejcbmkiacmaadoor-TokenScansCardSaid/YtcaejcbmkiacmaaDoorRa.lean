/- The document's classes of bytes, runs and beginnings. -/
import Derived.Test.YtcaejcbmkiacmaaDoorWk
import Derived.Test.YtcaejcbmkiacmaaDoorStab
namespace Go.Proofs.YtcaejcbmkiacmaaDoor
open Go.RowKit

theorem rsmall_any (c : UInt8) (w : World) : Calls Tryd.prog 41 #[.int .u8 c.toNat] w fun e w' => e = .returned (.bool (small c)) ∧ w' = w := by
  have hc : c.toNat < 256 := c.toNat_lt
  unfold small
  generalize c.toNat = n at hc ⊢
  go_enter Tryd.func41, Tryd.ntmps41
  by_cases h : 97 ≤ n
  · go_wp2_with fail
    go_ret
    simp [h]
    omega
  · go_wp2_with fail
    go_ret
    simp [h]
theorem rgreat_any (c : UInt8) (w : World) : Calls Tryd.prog 42 #[.int .u8 c.toNat] w fun e w' => e = .returned (.bool (great c)) ∧ w' = w := by
  have hc : c.toNat < 256 := c.toNat_lt
  unfold great
  generalize c.toNat = n at hc ⊢
  go_enter Tryd.func42, Tryd.ntmps42
  by_cases h : 65 ≤ n
  · go_wp2_with fail
    go_ret
    simp [h]
    omega
  · go_wp2_with fail
    go_ret
    simp [h]
theorem rdigit_any (c : UInt8) (w : World) : Calls Tryd.prog 44 #[.int .u8 c.toNat] w fun e w' => e = .returned (.bool (digit c)) ∧ w' = w := by
  have hc : c.toNat < 256 := c.toNat_lt
  unfold digit
  generalize c.toNat = n at hc ⊢
  go_enter Tryd.func44, Tryd.ntmps44
  by_cases h : 48 ≤ n
  · go_wp2_with fail
    go_ret
    simp [h]
    omega
  · go_wp2_with fail
    go_ret
    simp [h]
theorem rpart_any (c : UInt8) (w : World) : Calls Tryd.prog 56 #[.int .u8 c.toNat] w fun e w' => e = .returned (.bool (part c)) ∧ w' = w := by
  have hc : c.toNat < 256 := c.toNat_lt
  unfold part
  have c1 := rsmall_any c w
  have c2 := rgreat_any c w
  have c3 := rdigit_any c w
  generalize small c = p1 at c1 ⊢
  generalize great c = p2 at c2 ⊢
  generalize digit c = p3 at c3 ⊢
  generalize c.toNat = n at hc c1 c2 c3 ⊢
  have C1 := Lib.hid c1
  have C2 := Lib.hid c2
  have C3 := Lib.hid c3
  clear c1 c2 c3
  go_enter Tryd.func56, Tryd.ntmps56
  cases p1
  · cases p2
    · cases p3
      · go_wp2_with fail
        refine C1.out.mono ?_
        rintro e w1 ⟨rfl, rfl⟩
        go_wp2_with fail
        refine C2.out.mono ?_
        rintro e w1 ⟨rfl, rfl⟩
        go_wp2_with fail
        refine C3.out.mono ?_
        rintro e w1 ⟨rfl, rfl⟩
        go_wp2_with fail
        go_ret
        simp
        rw [Bool.eq_iff_iff]
        simp
        omega
      · go_wp2_with fail
        refine C1.out.mono ?_
        rintro e w1 ⟨rfl, rfl⟩
        go_wp2_with fail
        refine C2.out.mono ?_
        rintro e w1 ⟨rfl, rfl⟩
        go_wp2_with fail
        refine C3.out.mono ?_
        rintro e w1 ⟨rfl, rfl⟩
        go_wp2_with fail
        go_ret
        simp
    · go_wp2_with fail
      refine C1.out.mono ?_
      rintro e w1 ⟨rfl, rfl⟩
      go_wp2_with fail
      refine C2.out.mono ?_
      rintro e w1 ⟨rfl, rfl⟩
      go_wp2_with fail
      go_ret
      simp
  · go_wp2_with fail
    refine C1.out.mono ?_
    rintro e w1 ⟨rfl, rfl⟩
    go_wp2_with fail
    go_ret
    simp

set_option maxHeartbeats 1000000 in
theorem rrun_any (l : Bs) (s : ByteArray) (hsl : Hid (s = mk l)) (n : Nat) (hn : n ≤ 1099511627776) (hs : s.size = n) (w : World) :
    Calls Tryd.prog 47 #[.string s] w fun e w' => e = .returned (.int .i64 ((l.takeWhile part).length : Nat)) ∧ w' = w := by
  go_enter Tryd.func47, Tryd.ntmps47
  go_wp2_with fail
  go_loopw [3] (fun i wr => wr = w ∧ ∃ q : Nat, q ≤ n ∧ i = .int .i64 q ∧ Hid (∀ k, k < q → ∀ c, l[k]? = some c → part c = true)) (fun i _ => n - (intOf i).toNat)
  case atStart => exact ⟨rfl, 0, Nat.zero_le _, rfl, Lib.hid fun _ h => by omega⟩
  case round =>
    obtain ⟨rfl, q, hq, rfl, HH⟩ := hrel
    by_cases hlt : q < n
    · have hlt2 : q < s.size := by omega
      have HG : Hid (l[q]? = some s[q]) := by
        have e := hsl.out
        subst e
        exact Lib.hid (mk_get l q hlt2)
      have hc := rpart_any s[q] wr
      cases hp : part s[q]
      · rw [hp] at hc
        have HC := Lib.hid hc
        have HP := Lib.hid hp
        clear hc hp
        go_wp2_with fail
        refine HC.out.mono ?_
        rintro e w2 ⟨rfl, rfl⟩
        go_wp2_with fail
        go_ret
        refine ⟨?_, rfl⟩
        have hl : q < l.length := (List.getElem?_eq_some_iff.1 HG.out).1
        have e : (l.takeWhile part).length = q := by rw [takeWhile_cut part l q _ HH.out HG.out HP.out, List.length_take]; omega
        rw [e]
        rfl
      · rw [hp] at hc
        have HC := Lib.hid hc
        have HP := Lib.hid hp
        clear hc hp
        go_wp2_with fail
        refine HC.out.mono ?_
        rintro e w2 ⟨rfl, rfl⟩
        go_wp2_with fail
        refine ⟨⟨trivial, q + 1, by omega, by go_num, Lib.hid fun k hk c hc => ?_⟩, by simp [intOf]; omega⟩
        by_cases e : k = q
        · subst e
          rw [HG.out] at hc
          injection hc with hc
          rw [← hc]
          exact HP.out
        · exact HH.out k (by omega) c hc
    · go_wp2_with fail
      go_ret
      refine ⟨?_, rfl⟩
      have e : s.size = l.length := by rw [hsl.out, mk_size]
      have e2 : (l.takeWhile part).length = q := by
        rw [takeWhile_all part l]
        · omega
        · intro k hk
          exact HH.out k (by omega)
      rw [e2]
      rfl
theorem begins_any (l t : Bs) (s u : ByteArray) (hsl : Hid (s = mk l)) (hut : Hid (u = mk t)) (n m : Nat) (hn : n ≤ 1099511627776) (hm : m ≤ 1099511627776) (hs : s.size = n) (hu : u.size = m) (w : World) :
    Calls Tryd.prog 40 #[.string s, .string u] w fun e w' => e = .returned (.bool (t.isPrefixOf l)) ∧ w' = w := by
  have HL : Hid (l.length = n) := Lib.hid (by rw [← hs, hsl.out, mk_size])
  have HM : Hid (t.length = m) := Lib.hid (by rw [← hu, hut.out, mk_size])
  go_enter Tryd.func40, Tryd.ntmps40
  by_cases h : m ≤ n
  · have he : ((s.extract 0 m).toList == u.toList) = t.isPrefixOf l := by
      rw [hsl.out, hut.out, mk_take, mk_toList, mk_toList, Bool.eq_iff_iff, beq_iff_eq, List.isPrefixOf_iff_prefix, List.prefix_iff_eq_take, HM.out]
      exact ⟨fun h => h.symm, fun h => h.symm⟩
    generalize t.isPrefixOf l = b at he ⊢
    go_wp2_with fail
    go_ret
    exact ⟨rfl, rfl⟩
  · have he : t.isPrefixOf l = false := by
      cases hb : t.isPrefixOf l with
      | false => rfl
      | true =>
        have := (List.isPrefixOf_iff_prefix.1 hb).length_le
        rw [HL.out, HM.out] at this
        omega
    rw [he]
    clear he
    go_wp2_with fail
    go_ret
    exact ⟨rfl, rfl⟩
end Go.Proofs.YtcaejcbmkiacmaaDoor
