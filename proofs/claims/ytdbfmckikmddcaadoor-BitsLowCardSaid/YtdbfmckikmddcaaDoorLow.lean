/- BitsLow: the walk. -/
import Derived.Test.YtdbfmckikmddcaaDoorWk
namespace Go.Proofs.YtdbfmckikmddcaaDoor
open Go.RowKit
theorem cnt_all {f : Nat → Bool} {n : Nat} (h : ∀ j, j < n → f j = true) : Plain.cnt f n = n := by
  rw [Plain.cnt_congr (g := fun _ => true) h]
  induction n with
  | zero => rfl
  | succ n ih => simp only [Plain.cnt, ih (fun j hj => h j (by omega))]; rfl
/-- a set of the call's own, some numbers in -/
def Own (w : World) (c : Nat) (b n : Nat) (wr : World) : Prop := Fr No w wr ∧ ∃ f, IsBits wr b c n f
set_option maxHeartbeats 1000000 in
theorem law_low_few (x y s t m cap : Nat) (a : Option Addr) (l : List (Bool × Int)) (w : World) (hx : x ≤ 65535) (hy : y ≤ 65535) (hs : s < 3000) (ht : t < 3000) (h1 : ((x : Int).tmod 3000) = (s : Int)) (h2 : ((y : Int).tmod 3000) = (t : Int))
    (hm : m ≤ 300) (hl : Hid (l.length = m)) (hS : Hid (StepsAt w a l)) (T : Hid (Table w)) :
    Calls Tryd.prog 5 #[.int .u16 x, .slice a m cap, .int .u16 y] w fun e w' => e = .returned (.bool true) ∧ Fr No w w' := by
  go_enter Tryd.func5, Tryd.ntmps5
  go_wp2_with fail
  refine (new_val s w (by omega)).mono ?_
  rintro e w1 ⟨rfl, F1, B1⟩
  generalize hb : w.heap.size + 1 = b at B1
  generalize hc : w.heap.size = c at B1
  have Hc : Hid (w.heap.size ≤ c) := Lib.hid (by omega)
  clear hb hc
  go_wp2_with fail
  go_loopw [10] (fun i wr => ∃ q : Nat, q ≤ t ∧ i = .int .i64 q ∧ Hid (Own w c b s wr)) (fun i _ => t - (intOf i).toNat)
  case atStart => exact ⟨0, Nat.zero_le _, rfl, Lib.hid ⟨F1.out, _, B1.out⟩⟩
  case round =>
    obtain ⟨q, hq, rfl, HH⟩ := hrel
    by_cases hlt : q < t
    · obtain ⟨f, hB⟩ := HH.out.2
      have B := Lib.hid hB
      clear hB
      go_wp2_with fail
      refine (set_val b c s f _ q _ wr rfl rfl B.out).mono ?_
      rintro e w2 ⟨rfl, F2, B2⟩
      go_wp2_with fail
      exact ⟨⟨q + 1, by omega, by go_num, Lib.hid ⟨HH.out.1.own F2.out Hc.out, _, B2.out⟩⟩, by simp [intOf]; omega⟩
    · obtain ⟨w5, hw5⟩ : ∃ w5, w5 = wr := ⟨wr, rfl⟩
      rw [← hw5] at HH ⊢
      clear hw5 wr
      go_wp2_with fail
      go_loopw [11] (fun i wr => ∃ q : Nat, q ≤ m ∧ i = .int .i64 q ∧ Hid (Own w c b s wr)) (fun i _ => m - (intOf i).toNat)
      case atStart => exact ⟨0, Nat.zero_le _, rfl, HH⟩
      case round =>
        obtain ⟨k, hk, rfl, HH2⟩ := hrel
        obtain ⟨f, hB⟩ := HH2.out.2
        have B := Lib.hid hB
        clear hB
        by_cases hlk : k < m
        · obtain ⟨x, hx⟩ : ∃ x, l[k]? = some x := ⟨l[k]'(by have := hl.out; omega), List.getElem?_eq_getElem _⟩
          obtain ⟨bl, off, rfl, s0, s1⟩ := (hS.out.keep HH2.out.1 (fun _ h => h.elim)).at_ k x hx
          obtain ⟨xc, xi⟩ := x
          simp only [] at s0 s1
          clear hx
          cases xc
          · go_wp2_with fail
            refine (set_val b c s f _ xi _ wr rfl rfl B.out).mono ?_
            rintro e w2 ⟨rfl, F2, B2⟩
            go_wp2_with fail
            exact ⟨⟨k + 1, by omega, by go_num, Lib.hid ⟨HH2.out.1.own F2.out Hc.out, _, B2.out⟩⟩, by simp [intOf]; omega⟩
          · go_wp2_with fail
            refine (clear_val b c s f _ xi _ wr rfl rfl B.out).mono ?_
            rintro e w2 ⟨rfl, F2, B2⟩
            go_wp2_with fail
            exact ⟨⟨k + 1, by omega, by go_num, Lib.hid ⟨HH2.out.1.own F2.out Hc.out, _, B2.out⟩⟩, by simp [intOf]; omega⟩
        · obtain ⟨j, v, hlow⟩ := exists_low s f
          have L := Lib.hid hlow
          have T1 := Lib.hid (T.out.keep HH2.out.1 no_one)
          go_wp2_with fail
          refine (low_val b c s j f v wr L.out B.out T1.out).mono ?_
          rintro e w' ⟨rfl, rfl⟩
          rcases hlow with ⟨rfl, hj, hfj, hbelow⟩ | ⟨rfl, rfl, hall⟩
          · have HJ := Lib.hid hfj
            have HB := Lib.hid hbelow
            clear hfj hbelow
            obtain ⟨w6, hw6⟩ : ∃ w6, w6 = wr := ⟨wr, rfl⟩
            rw [← hw6] at HH2 B T1 ⊢
            clear hw6 wr
            go_wp2_with fail
            go_loopw [14] (fun i wr => ∃ q : Nat, q ≤ j ∧ i = .int .i64 q ∧ Hid (Fr No w6 wr)) (fun i _ => j - (intOf i).toNat)
            case atStart => exact ⟨0, Nat.zero_le _, rfl, Lib.hid (Fr.refl _ _)⟩
            case round =>
              obtain ⟨p, hp, rfl, F6⟩ := hrel
              by_cases hlp : p < j
              · go_wp2_with fail
                refine (has_val b c s f p true wr (by rw [mem_in (by omega)]; exact HB.out p hlp) (B.out.no F6.out)).mono ?_
                rintro e w7 ⟨rfl, F7⟩
                go_wp2_with fail
                exact ⟨⟨p + 1, by omega, by go_num, Lib.hid (F6.out.then F7.out)⟩, by simp [intOf]; omega⟩
              · go_wp2_with fail
                refine (has_val b c s f j false wr (by rw [mem_in hj]; exact HJ.out) (B.out.no F6.out)).mono ?_
                rintro e w7 ⟨rfl, F7⟩
                have F8 := (F6.out.then F7.out)
                have T8 := Lib.hid (T1.out.keep F8 no_one)
                have G8 := Lib.hid F8
                clear F8
                go_wp2_with fail
                refine (works_any w7 T8).mono ?_
                rintro e w9 ⟨rfl, F9⟩
                go_wp2_with fail
                go_ret
                exact ⟨rfl, (HH2.out.1.then G8.out).then F9⟩
          · have HA := Lib.hid hall
            clear hall
            go_wp2_with fail
            refine (count_val b c s s f wr (cnt_all HA.out) B.out).mono ?_
            rintro e w' ⟨rfl, rfl⟩
            go_wp2_with fail
            refine (works_any wr T1).mono ?_
            rintro e w9 ⟨rfl, F9⟩
            go_wp2_with fail
            go_ret
            exact ⟨rfl, HH2.out.1.then F9⟩
set_option maxHeartbeats 1000000 in
theorem law_low_many (x y : Int) (m cap : Nat) (a : Option Addr) (w : World) (hm : 300 < m) (T : Hid (Table w)) :
    Calls Tryd.prog 5 #[.int .u16 x, .slice a m cap, .int .u16 y] w fun e w' => e = .returned (.bool true) ∧ Fr No w w' := by
  go_enter Tryd.func5, Tryd.ntmps5
  go_wp2_with fail
  refine (works_any w T).mono ?_
  rintro e w9 ⟨rfl, F9⟩
  go_wp2_with fail
  go_ret
  exact ⟨rfl, F9⟩
theorem law_low_any (x0 x2 : Int) (w0 : (Lit.int .u16 x0).wf = true) (w2 : (Lit.int .u16 x2).wf = true) (a : Option Addr) (m cap : Nat) (l : List (Bool × Int)) (W : World) (hl : l.length = m) (hS : StepsAt W a l) (T : Table W) :
    Calls Tryd.prog 5 #[.int .u16 x0, .slice a m cap, .int .u16 x2] W fun e w' => e = .returned (.bool true) ∧ Fr No W w' := by
  have hx : 0 ≤ x0 ∧ x0 ≤ 65535 := by simpa [Lit.wf, IntKind.min, IntKind.max, IntKind.signed, IntKind.bits] using w0
  have hy : 0 ≤ x2 ∧ x2 ≤ 65535 := by simpa [Lit.wf, IntKind.min, IntKind.max, IntKind.signed, IntKind.bits] using w2
  obtain ⟨x, rfl⟩ := Int.eq_ofNat_of_zero_le hx.1
  obtain ⟨y, rfl⟩ := Int.eq_ofNat_of_zero_le hy.1
  by_cases hm : 300 < m
  · exact law_low_many x y m cap a W hm (Lib.hid T)
  · exact law_low_few x y (x % 3000) (y % 3000) m cap a l W (by omega) (by omega) (by omega) (by omega) (by rw [Int.tmod_eq_emod_of_nonneg (by omega)]; omega) (by rw [Int.tmod_eq_emod_of_nonneg (by omega)]; omega) (by omega) (Lib.hid hl) (Lib.hid hS) (Lib.hid T)
end Go.Proofs.YtdbfmckikmddcaaDoor
