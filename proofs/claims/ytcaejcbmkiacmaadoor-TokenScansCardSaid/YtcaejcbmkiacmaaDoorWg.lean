/- Which reader reads. -/
import Derived.Test.YtcaejcbmkiacmaaDoorWf
namespace Go.Proofs.YtcaejcbmkiacmaaDoor
open Go.RowKit

/-- the number of the function that reads what begins with a byte -/
def readerOf (c : UInt8) : FuncId := if small c || great c then 34 else if digit c then 36 else if c = 39 then 37 else if c = 34 then 38 else 39
def whoP (p1 p2 p3 p4 p5 : Bool) : FuncId := if p1 || p2 then 34 else if p3 then 36 else if p4 then 37 else if p5 then 38 else 39
set_option maxHeartbeats 1000000 in
theorem who_any (c : UInt8) (w : World) : Calls Tryd.prog 23 #[.int .u8 c.toNat] w fun e w' => e = .returned (.func (.func (readerOf c)) #[] #[]) ∧ w' = w := by
  have c1 := small_any c w
  have c2 := great_any c w
  have c3 := digit_any c w
  obtain ⟨V, hV⟩ : ∃ V, Value.func (.func (readerOf c)) #[] #[] = V := ⟨_, rfl⟩
  rw [hV]
  have hV2 : Value.func (.func (whoP (small c) (great c) (digit c) (decide (c.toNat = 39)) (decide (c.toNat = 34)))) #[] #[] = V := by
    rw [← hV]
    unfold whoP readerOf
    have e1 : (decide (c.toNat = 39) = true) = (c = 39) := by
      rw [decide_eq_true_eq]
      exact propext ⟨fun h => UInt8.toNat_inj.1 h, fun h => by rw [h]; rfl⟩
    have e2 : (decide (c.toNat = 34) = true) = (c = 34) := by
      rw [decide_eq_true_eq]
      exact propext ⟨fun h => UInt8.toNat_inj.1 h, fun h => by rw [h]; rfl⟩
    simp only [e1, e2]
  clear hV
  have hc : c.toNat < 256 := c.toNat_lt
  generalize small c = p1 at c1 hV2
  generalize great c = p2 at c2 hV2
  generalize digit c = p3 at c3 hV2
  generalize c.toNat = n at hc c1 c2 c3 hV2
  have C1 := Lib.hid c1
  have C2 := Lib.hid c2
  have C3 := Lib.hid c3
  clear c1 c2 c3
  have HV := Lib.hid hV2
  clear hV2
  go_enter Tryd.func23, Tryd.ntmps23
  cases p1
  · cases p2
    · cases p3
      · go_wp2_with fail
        refine C1.out.mono ?_
        rintro e w1 ⟨rfl, rfl⟩
        go_wp2_with fail
        refine C2.out.mono ?_
        rintro e w1 ⟨rfl, rfl⟩
        go_wp2_with fail
        refine C3.out.mono ?_
        rintro e w1 ⟨rfl, rfl⟩
        go_wp2_with fail
        · rename_i h
          have e1 : n = 39 := by have := beq_iff_eq.1 h; omega
          go_ret
          refine ⟨Eq.trans ?_ (congrArg Ending.returned HV.out), rfl⟩
          simp [whoP, e1]
        · rename_i h k
          have e1 : ¬ n = 39 := by have := beq_eq_false_iff_ne.1 h; omega
          have e2 : n = 34 := by have := beq_iff_eq.1 k; omega
          go_ret
          refine ⟨Eq.trans ?_ (congrArg Ending.returned HV.out), rfl⟩
          simp [whoP, e2]
        · rename_i h k
          have e1 : ¬ n = 39 := by have := beq_eq_false_iff_ne.1 h; omega
          have e2 : ¬ n = 34 := by have := beq_eq_false_iff_ne.1 k; omega
          go_ret
          refine ⟨Eq.trans ?_ (congrArg Ending.returned HV.out), rfl⟩
          simp [whoP, e1, e2]
      · go_wp2_with fail
        refine C1.out.mono ?_
        rintro e w1 ⟨rfl, rfl⟩
        go_wp2_with fail
        refine C2.out.mono ?_
        rintro e w1 ⟨rfl, rfl⟩
        go_wp2_with fail
        refine C3.out.mono ?_
        rintro e w1 ⟨rfl, rfl⟩
        go_wp2_with fail
        go_ret
        exact ⟨congrArg Ending.returned HV.out, rfl⟩
    · go_wp2_with fail
      refine C1.out.mono ?_
      rintro e w1 ⟨rfl, rfl⟩
      go_wp2_with fail
      refine C2.out.mono ?_
      rintro e w1 ⟨rfl, rfl⟩
      go_wp2_with fail
      go_ret
      exact ⟨congrArg Ending.returned HV.out, rfl⟩
  · go_wp2_with fail
    refine C1.out.mono ?_
    rintro e w1 ⟨rfl, rfl⟩
    go_wp2_with fail
    go_ret
    exact ⟨congrArg Ending.returned HV.out, rfl⟩

theorem reader_any (c : UInt8) (l : Bs) (s : ByteArray) (hsl : Hid (s = mk l)) (r : Bs) (hl : l = c :: r) (n : Nat) (hn : n ≤ 1099511627776) (hs : s.size = n) (w : World) (hT : Hid (Tables w)) :
    Calls Tryd.prog (readerOf c) #[.string s] w fun e w' => e = .returned (readV (tokT l)) ∧ Below w.heap.size w w' := by
  have hn0 : 1 ≤ n := by
    rw [← hs, hsl.out, mk_size, hl]
    simp
  subst hl
  unfold readerOf tokT
  by_cases h1 : (small c || great c) = true
  · simp only [h1, if_true]
    refine name_any _ s hsl n (by omega) hs w hT (Lib.hid ?_)
    have hp : part c = true := by
      unfold part
      rcases Bool.or_eq_true _ _ ▸ h1 with h | h <;> simp [h]
    simp [hp]
  · simp only [h1]
    by_cases h2 : digit c = true
    · simp only [h2, if_true]
      exact number_any _ s hsl n (by omega) hs w
    · simp only [h2]
      by_cases h3 : c = 39
      · simp only [h3, if_true]
        subst h3
        exact tick_any _ s hsl n (by omega) hs (by omega) w
      · simp only [h3]
        by_cases h4 : c = 34
        · simp only [h4, if_true]
          subst h4
          exact text_any _ s hsl n hn hs hn0 w
        · simp only [h4]
          exact sign_any _ s hsl w hT
end Go.Proofs.YtcaejcbmkiacmaaDoor
