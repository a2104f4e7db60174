/- BitsIn: the walk. -/
import Derived.Test.YtdbfmckikmddcaaDoorInPlain
namespace Go.Proofs.YtdbfmckikmddcaaDoor
open Go.RowKit
/-- does a number come again ahead of place k? -/
def seen (l : List (Bool × Int)) (i k : Nat) (p : Int) : Bool := again ((l.take k).drop (i + 1)) p
theorem seen_start (l : List (Bool × Int)) (i : Nat) (p : Int) : seen l i (i + 1) p = false := by
  unfold seen again
  rw [List.drop_eq_nil_of_le (by simp; omega)]
  rfl
theorem seen_step (l : List (Bool × Int)) (i k : Nat) (p : Int) (x : Bool × Int) (hx : l[k]? = some x) (hk : i + 1 ≤ k) : seen l i (k + 1) p = (seen l i k p || x.2 == p) := by
  unfold seen again
  obtain ⟨hlt, he⟩ := List.getElem?_eq_some_iff.1 hx
  rw [List.take_add_one, hx, Option.toList_some, List.drop_append_of_le_length (by simp; omega), List.any_append]
  simp
theorem seen_end (l : List (Bool × Int)) (i m : Nat) (p : Int) (h : l.length = m) : seen l i m p = again (l.drop (i + 1)) p := by
  unfold seen
  rw [List.take_of_length_le (by omega)]

set_option maxRecDepth 100000 in
set_option maxHeartbeats 2000000 in
theorem in_few (x s m cap : Nat) (a : Option Addr) (l : List (Bool × Int)) (w : World) (hx : x ≤ 65535) (hs : s < 3000) (h1 : ((x : Int).tmod 3000) = (s : Int)) (hm : m ≤ 300) (hl : Hid (l.length = m)) (hS : Hid (StepsAt w a l)) (T : Hid (Table w)) :
    Calls Tryd.prog 4 #[.int .u16 x, .slice a m cap] w fun e w' => e = .returned (.bool true) ∧ Fr No w w' := by
  go_enter Tryd.func4, Tryd.ntmps4
  go_wp2_with fail
  refine (new_val s w (by omega)).mono ?_
  rintro e w1 ⟨rfl, F1, B1⟩
  generalize hb : w.heap.size + 1 = b at B1
  generalize hc : w.heap.size = c at B1
  have Hc : Hid (w.heap.size ≤ c) := Lib.hid (by omega)
  clear hb hc
  go_wp2_with fail
  go_loopw [8] (fun i wr => ∃ q : Nat, q ≤ m ∧ i = .int .i64 q ∧ Hid (Fr No w wr ∧ IsBits wr b c s (runF s g0 (l.take q)))) (fun i _ => m - (intOf i).toNat)
  case atStart => exact ⟨0, Nat.zero_le _, rfl, Lib.hid ⟨F1.out, B1.out⟩⟩
  case round =>
    obtain ⟨k, hk, rfl, HH⟩ := hrel
    by_cases hlt : k < m
    · obtain ⟨x, hx⟩ : ∃ x, l[k]? = some x := ⟨l[k]'(by have := hl.out; omega), List.getElem?_eq_getElem _⟩
      obtain ⟨bl, off, rfl, s0, s1⟩ := (hS.out.keep HH.out.1 (fun _ h => h.elim)).at_ k x hx
      have hns := Lib.hid (runF_snoc s g0 l k x hx)
      obtain ⟨xc, xi⟩ := x
      simp only [] at s0 s1
      clear hx
      cases xc
      · go_wp2_with fail
        refine (set_val b c s _ _ xi _ wr rfl rfl HH.out.2).mono ?_
        rintro e w2 ⟨rfl, F2, B2⟩
        go_wp2_with fail
        exact ⟨⟨k + 1, by omega, by go_num, Lib.hid ⟨HH.out.1.own F2.out Hc.out, by rw [hns.out]; exact B2.out⟩⟩, by simp [intOf]; omega⟩
      · go_wp2_with fail
        refine (clear_val b c s _ _ xi _ wr rfl rfl HH.out.2).mono ?_
        rintro e w2 ⟨rfl, F2, B2⟩
        go_wp2_with fail
        exact ⟨⟨k + 1, by omega, by go_num, Lib.hid ⟨HH.out.1.own F2.out Hc.out, by rw [hns.out]; exact B2.out⟩⟩, by simp [intOf]; omega⟩
    · have e : k = m := by omega
      subst e
      have HL := Lib.hid (List.take_of_length_le (l := l) (i := k) (by rw [hl.out]; exact Nat.le_refl _))
      obtain ⟨w5, hw5⟩ : ∃ w5, w5 = wr := ⟨wr, rfl⟩
      rw [← hw5] at HH ⊢
      clear hw5 wr
      have B5 : Hid (IsBits w5 b c s (runF s g0 l)) := Lib.hid (by have := HH.out.2; rw [HL.out] at this; exact this)
      have G5 := Lib.hid HH.out.1
      clear HH
      go_wp2_with fail
      go_loopw [9, 10] (fun n i wr => ∃ q : Nat, q ≤ k ∧ i = .int .i64 q ∧ n = .int .i64 (Plain.cnt (goodAt s l) q) ∧ Hid (Fr No w5 wr)) (fun _ i _ => k - (intOf i).toNat)
      case atStart => exact ⟨0, Nat.zero_le _, rfl, rfl, Lib.hid (Fr.refl _ _)⟩
      case round =>
        obtain ⟨q, hq, rfl, rfl, F6⟩ := hrel
        have bq := Plain.cnt_le (goodAt s l) q
        have B6 := Lib.hid (B5.out.no F6.out)
        by_cases hlq : q < k
        · obtain ⟨x, hx⟩ : ∃ x, l[q]? = some x := ⟨l[q]'(by have := hl.out; omega), List.getElem?_eq_getElem _⟩
          obtain ⟨bl, off, rfl, s0, s1⟩ := (hS.out.keep (G5.out.then F6.out) (fun _ h => h.elim)).at_ q x hx
          have hx' := Lib.hid hx
          clear hx
          obtain ⟨xc, xi⟩ := x
          simp only [] at s0 s1
          have k0 : (0 : Int) ≤ (q : Int) := by omega
          have k1 : (q : Int) < (k : Int) := by omega
          have hnew := Lib.hid (new_block wr (.cells #[.bool xc, .int .i64 xi] 36))
          have F7 := Lib.hid (Fr.alloc wr (.cells #[.bool xc, .int .i64 xi] 36))
          go_wp2_with fail
          obtain ⟨w6, hw6⟩ : ∃ w6, w6 = wr.alloc (.cells #[.bool xc, .int .i64 xi] 36) := ⟨_, rfl⟩
          rw [← hw6] at hnew F7 ⊢
          generalize wr.heap.size = B at hnew ⊢
          have z0 : w6.cell? ⟨B, 0, none⟩ = some (.bool xc) := (cell_of hnew.out 0).trans rfl
          have z1 : w6.cell? ⟨B, 1, none⟩ = some (.int .i64 xi) := (cell_of hnew.out 1).trans rfl
          have B7 := Lib.hid (B6.out.no F7.out)
          have F8 := Lib.hid (F6.out.then F7.out)
          clear hnew F7 F6 B6 s0 s1 hw6 wr
          go_loopw [12, 13] (fun v i wr => ∃ p : Nat, q + 1 ≤ p ∧ p ≤ k ∧ i = .int .i64 p ∧ v = .bool (seen l q p xi) ∧ Hid (Fr No w6 wr)) (fun _ i _ => k - (intOf i).toNat)
          case atStart => exact ⟨q + 1, Nat.le_refl _, by omega, by go_num, by rw [seen_start], Lib.hid (Fr.refl _ _)⟩
          case round =>
            obtain ⟨p, hp1, hp2, rfl, rfl, F9⟩ := hrel
            have y0 : wr.cell? ⟨B, 0, none⟩ = some (.bool xc) := F9.out.cell z0
            have y1 : wr.cell? ⟨B, 1, none⟩ = some (.int .i64 xi) := F9.out.cell z1
            by_cases hpk : p < k
            · obtain ⟨y, hy⟩ : ∃ y, l[p]? = some y := ⟨l[p]'(by have := hl.out; omega), List.getElem?_eq_getElem _⟩
              obtain ⟨bl', off', e, s0, s1⟩ := (hS.out.keep ((G5.out.then F8.out).then F9.out) (fun _ h => h.elim)).at_ p y hy
              simp only [Option.some.injEq, Addr.mk.injEq, and_true] at e
              obtain ⟨rfl, rfl⟩ := e
              have hst := Lib.hid (seen_step l q p xi y hy hp1)
              have p0 : (0 : Int) ≤ (p : Int) := by omega
              have p1 : (p : Int) < (k : Int) := by omega
              clear hy
              obtain ⟨yc, yi⟩ := y
              simp only [] at s0 s1
              cases he : yi == xi
              · have e1 : ((yi : Int) == xi) = false := he
                have hst2 : Hid (seen l q (p + 1) xi = seen l q p xi) := Lib.hid (by rw [hst.out]; simp [he])
                clear he hst
                go_wp2_with fail
                go_quiet (fail)
                go_wp2_with fail
                exact ⟨⟨p + 1, by omega, by omega, by go_num, by rw [hst2.out], Lib.hid (F9.out.then (Fr.drewN _ _))⟩, by simp [intOf]; omega⟩
              · have e1 : ((yi : Int) == xi) = true := he
                have hst2 : Hid (seen l q (p + 1) xi = true) := Lib.hid (by rw [hst.out]; simp [he])
                clear he hst
                go_wp2_with fail
                go_quiet (fail)
                go_wp2_with fail
                exact ⟨⟨p + 1, by omega, by omega, by go_num, by rw [hst2.out], Lib.hid (F9.out.then (Fr.drewN _ _))⟩, by simp [intOf]; omega⟩
            · obtain rfl : p = k := by omega
              have HE := Lib.hid (seen_end l q p xi hl.out)
              have B9 := Lib.hid (B7.out.no F9.out)
              cases hse : seen l q p xi
              · have HW := Lib.hid (last_wins s l q (xc, xi) hx'.out (by rw [← HE.out]; exact hse))
                have HG : Hid (Plain.cnt (goodAt s l) (q + 1) = Plain.cnt (goodAt s l) q + (puts s (xc, xi)).toNat) := Lib.hid (by
                  have e : goodAt s l q = puts s (xc, xi) := by
                    unfold goodAt
                    rw [hx'.out]
                    simp only []
                    rw [← HE.out, hse]
                    rfl
                  show Plain.cnt (goodAt s l) q + (goodAt s l q).toNat = _
                  rw [e])
                clear hse
                cases xc
                · by_cases h3 : 0 ≤ xi
                  · by_cases h4 : xi < (s : Int)
                    · have hval := Lib.hid (show mem s (runF s g0 l) xi = true by rw [HW.out]; simp [puts, h3, h4])
                      have hgood := Lib.hid (show Plain.cnt (goodAt s l) (q + 1) = Plain.cnt (goodAt s l) q + 1 by rw [HG.out, HW.out.symm, hval.out]; rfl)
                      go_wp2_with fail
                      refine (has_val b c s _ xi true wr hval.out B9.out).mono ?_
                      rintro e w8 ⟨rfl, F10⟩
                      go_wp2_with fail
                      exact ⟨⟨q + 1, by omega, by go_num, by rw [hgood.out]; first | rfl | go_num, Lib.hid ((F8.out.then F9.out).then F10.out)⟩, by simp [intOf]; omega⟩
                    · have hval := Lib.hid (show mem s (runF s g0 l) xi = false by rw [HW.out]; simp [puts, h4])
                      have hgood := Lib.hid (show Plain.cnt (goodAt s l) (q + 1) = Plain.cnt (goodAt s l) q + 0 by rw [HG.out, HW.out.symm, hval.out]; rfl)
                      go_wp2_with fail
                      refine (has_val b c s _ xi false wr hval.out B9.out).mono ?_
                      rintro e w8 ⟨rfl, F10⟩
                      go_wp2_with fail
                      exact ⟨⟨q + 1, by omega, by go_num, by rw [hgood.out]; first | rfl | go_num, Lib.hid ((F8.out.then F9.out).then F10.out)⟩, by simp [intOf]; omega⟩
                  · have hval := Lib.hid (show mem s (runF s g0 l) xi = false by rw [HW.out]; simp [puts, h3])
                    have hgood := Lib.hid (show Plain.cnt (goodAt s l) (q + 1) = Plain.cnt (goodAt s l) q + 0 by rw [HG.out, HW.out.symm, hval.out]; rfl)
                    go_wp2_with fail
                    refine (has_val b c s _ xi false wr hval.out B9.out).mono ?_
                    rintro e w8 ⟨rfl, F10⟩
                    go_wp2_with fail
                    exact ⟨⟨q + 1, by omega, by go_num, by rw [hgood.out]; first | rfl | go_num, Lib.hid ((F8.out.then F9.out).then F10.out)⟩, by simp [intOf]; omega⟩
                · have hval := Lib.hid (show mem s (runF s g0 l) xi = false by rw [HW.out]; simp [puts])
                  have hgood := Lib.hid (show Plain.cnt (goodAt s l) (q + 1) = Plain.cnt (goodAt s l) q + 0 by rw [HG.out, HW.out.symm, hval.out]; rfl)
                  go_wp2_with fail
                  refine (has_val b c s _ xi false wr hval.out B9.out).mono ?_
                  rintro e w8 ⟨rfl, F10⟩
                  go_wp2_with fail
                  exact ⟨⟨q + 1, by omega, by go_num, by rw [hgood.out]; first | rfl | go_num, Lib.hid ((F8.out.then F9.out).then F10.out)⟩, by simp [intOf]; omega⟩
              · have hgood := Lib.hid (show Plain.cnt (goodAt s l) (q + 1) = Plain.cnt (goodAt s l) q by
                  have e : goodAt s l q = false := by
                    unfold goodAt
                    rw [hx'.out]
                    simp only []
                    rw [← HE.out, hse]
                    rfl
                  show Plain.cnt (goodAt s l) q + (goodAt s l q).toNat = _
                  rw [e]; rfl)
                clear hse
                go_wp2_with fail
                exact ⟨⟨q + 1, by omega, by go_num, by rw [hgood.out], Lib.hid (F8.out.then F9.out)⟩, by simp [intOf]; omega⟩
        · have e : q = k := by omega
          subst e
          have hcnt := Lib.hid (count_in s l)
          have T6 := Lib.hid (T.out.keep (G5.out.then F6.out) no_one)
          have hc2 : Hid (Plain.cnt (goodAt s l) q = Plain.cnt (runF s g0 l) s) := Lib.hid (by rw [← hcnt.out, hl.out])
          rw [hc2.out]
          have bq2 := Plain.cnt_le (runF s g0 l) s
          go_wp2_with fail
          refine (count_val b c s _ _ wr rfl B6.out).mono ?_
          rintro e w' ⟨rfl, rfl⟩
          go_wp2_with fail
          refine (works_any wr T6).mono ?_
          rintro e w9 ⟨rfl, F9⟩
          go_wp2_with fail
          go_ret
          exact ⟨rfl, (G5.out.then F6.out).then F9⟩
set_option maxHeartbeats 1000000 in
theorem in_many (x : Int) (m cap : Nat) (a : Option Addr) (w : World) (hm : 300 < m) (T : Hid (Table w)) :
    Calls Tryd.prog 4 #[.int .u16 x, .slice a m cap] w fun e w' => e = .returned (.bool true) ∧ Fr No w w' := by
  go_enter Tryd.func4, Tryd.ntmps4
  go_wp2_with fail
  refine (works_any w T).mono ?_
  rintro e w9 ⟨rfl, F9⟩
  go_wp2_with fail
  go_ret
  exact ⟨rfl, F9⟩
theorem in_any (x0 : Int) (w0 : (Lit.int .u16 x0).wf = true) (a : Option Addr) (cap : Nat) (l : List (Bool × Int)) (W : World) (hS : StepsAt W a l) (T : Table W) :
    Calls Tryd.prog 4 #[.int .u16 x0, .slice a l.length cap] W fun e w' => e = .returned (.bool true) ∧ Fr No W w' := by
  have hx : 0 ≤ x0 ∧ x0 ≤ 65535 := by simpa [Lit.wf, IntKind.min, IntKind.max, IntKind.signed, IntKind.bits] using w0
  obtain ⟨x, rfl⟩ := Int.eq_ofNat_of_zero_le hx.1
  by_cases hm : 300 < l.length
  · exact in_many x _ cap a W hm (Lib.hid T)
  · exact in_few x (x % 3000) _ cap a l W (by omega) (by omega) (by rw [Int.tmod_eq_emod_of_nonneg (by omega)]; omega) (by omega) (Lib.hid rfl) (Lib.hid hS) (Lib.hid T)
end Go.Proofs.YtdbfmckikmddcaaDoor
