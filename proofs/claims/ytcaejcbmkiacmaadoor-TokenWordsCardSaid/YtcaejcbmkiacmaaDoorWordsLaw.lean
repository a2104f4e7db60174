/- TokenWords: the walk. -/
import Derived.Test.YtcaejcbmkiacmaaDoorWk
import Derived.Test.YtcaejcbmkiacmaaDoorSignsPlain
namespace Go.Proofs.YtcaejcbmkiacmaaDoor
open Go.RowKit

theorem scanR_small {l : Bs} (h : l.length ≤ 16384) : scanR l = scanL 0 l := by rw [scanR, if_neg (by omega)]
set_option maxHeartbeats 2000000 in
set_option maxRecDepth 100000 in
theorem words_any (x : Bs) (w : World) (hT : Hid (Tables w)) : Calls Tryd.prog 4 #[.string (mk x)] w (Said w true) := by
  have hcv := fun u => run_bytes_of_string (P := Tryd.prog) u 9 22 5 (mk x) Tryd.underlying9 Tryd.underlying22 Tryd.underlying5
  obtain ⟨b, hb⟩ : ∃ b, decide (x ∈ words) = b := ⟨_, rfl⟩
  have HW1 : Hid (∀ w, Tables w → Calls Tryd.prog 15 #[.string (mk x)] w fun e w' => e = .returned (.bool b) ∧ w' = w) := Lib.hid (fun w hT => by rw [← hb]; exact word_any x _ (Lib.hid rfl) w (Lib.hid hT))
  have HW2 : Hid (∀ w, Calls Tryd.prog 16 #[.string (mk x)] w (Said w b)) := Lib.hid (fun w => by rw [← hb]; exact refWord_any x w)
  obtain ⟨n, hn⟩ : ∃ n, (mk x).size = n := ⟨_, rfl⟩
  have hxl : x.length = n := by rw [← hn, mk_size]
  have HXL := Lib.hid hxl
  have HB := Lib.hid hb
  clear hb hxl
  go_enter Tryd.func4, Tryd.ntmps4
  go_wp2_with fail
  refine (HW1.out w hT.out).mono ?_
  rintro e w0 ⟨rfl, rfl⟩
  go_wp2_with fail
  refine (HW2.out _).mono ?_
  rintro e w1 ⟨rfl, hb1⟩
  have HB1 := Lib.hid hb1
  clear hb1
  by_cases hbig : 100 < n
  · go_wp2_with fail
    refine (HW1.out w1 (hT.out.below HB1.out)).mono ?_
    rintro e w2 ⟨rfl, rfl⟩
    go_wp2_with fail
    refine (HW2.out _).mono ?_
    rintro e w3 ⟨rfl, hb3⟩
    have HB3 := Lib.hid (HB1.out.trans (hb3.mono HB1.out.size))
    clear hb3
    go_wp2_with fail
    refine (works_any w3 (Lib.hid (hT.out.below HB3.out))).mono ?_
    rintro e w4 ⟨rfl, hb4⟩
    have HB4 := Lib.hid hb4
    clear hb4
    go_wp2_with fail
    go_ret
    exact ⟨rfl, HB3.out.trans (HB4.out.mono HB3.out.size)⟩
  · go_wp2_with fail
    have hbb := below_bytes w1 (.cells (bytesRow (mk x) (grownCap w1 n 0 5)) 5 ((bytesRow (mk x) (grownCap w1 n 0 5)).size, (bytesRow (mk x) (grownCap w1 n 0 5)).size + 1))
    have HB2 := Lib.hid (HB1.out.trans (hbb.mono HB1.out.size))
    refine (scan_src x _ n _ _ (by omega) HXL.out (srcAt_bytes w1 x _ _ _) (hT.out.below HB2.out)).mono ?_
    rintro e w3 ⟨hb3, h3⟩
    have HB3 := Lib.hid (HB2.out.trans (hb3.mono HB2.out.size))
    rw [scanR_small (by rw [HXL.out]; omega)] at h3
    clear hb3 hbb hcv
    cases b with
    | true =>
      have hx : x ∈ words := of_decide_eq_true HB.out
      rw [word_scan x hx] at h3
      obtain ⟨a4, cap4, rfl, hr4⟩ := h3
      obtain ⟨g, rfl, c0, c1, _, _⟩ := hr4 0 _ rfl
      simp only [Nat.zero_mul, Nat.zero_add] at c0 c1
      clear hr4 hx
      go_wp2_with fail
      refine (HW1.out w3 (hT.out.below HB3.out)).mono ?_
      rintro e w4 ⟨rfl, rfl⟩
      go_wp2_with fail
      refine (works_any w4 (Lib.hid (hT.out.below HB3.out))).mono ?_
      rintro e w5 ⟨rfl, hb5⟩
      have HB5 := Lib.hid hb5
      clear hb5
      go_wp2_with fail
      go_ret
      exact ⟨rfl, HB3.out.trans (HB5.out.mono HB3.out.size)⟩
    | false =>
      have hx : x ∉ words := of_decide_eq_false HB.out
      have hgen : ∃ (a : Option Addr) (m c : Nat) (p q : Int) (ts : List Tok), e = .returned (.tuple #[.slice a m c, .int .i64 p, .int .i64 q]) ∧ RowAt w3 a ts ∧ ts.length = m ∧ m ≤ n ∧ ∀ t ∈ ts, t.kind = 6 → t.text ≠ x := by
        cases hR : scanL 0 x with
        | error p =>
          rw [hR] at h3
          exact ⟨none, 0, 0, p, 10, [], h3, fun i t hi => by simp at hi, rfl, Nat.zero_le _, fun t ht => by cases ht⟩
        | ok ts =>
          rw [hR] at h3
          obtain ⟨a4, cap4, he, hr4⟩ := h3
          have hlen := toks_len 0 x ts hR
          rw [HXL.out] at hlen
          exact ⟨a4, ts.length, cap4, 0, 0, ts, he, hr4, rfl, hlen, fun t ht hk e => hx (e ▸ words_of 0 x ts hR t ht hk)⟩
      obtain ⟨a4, m, cap4, p, q, ts, rfl, hr4, hm, hmn, hno⟩ := hgen
      have HR := Lib.hid hr4
      have HM := Lib.hid hm
      have HNO := Lib.hid hno
      clear hr4 hm hno h3 hx
      go_wp2_with fail
      refine (HW1.out w3 (hT.out.below HB3.out)).mono ?_
      rintro e w4 ⟨rfl, rfl⟩
      go_wp2_with fail
      go_loopw [6] (fun i wr => ∃ k : Nat, k ≤ m ∧ i = .int .i64 k ∧ wr = w4) (fun i _ => m - (intOf i).toNat)
      case atStart => exact ⟨0, Nat.zero_le _, rfl, rfl⟩
      case round =>
        obtain ⟨k, hk, rfl, rfl⟩ := hrel
        by_cases hkm : k = m
        · go_wp2_with fail
          refine (works_any _ (Lib.hid (hT.out.below HB3.out))).mono ?_
          rintro e w5 ⟨rfl, hb5⟩
          have HB5 := Lib.hid hb5
          clear hb5
          go_wp2_with fail
          go_ret
          exact ⟨rfl, HB3.out.trans (HB5.out.mono HB3.out.size)⟩
        · obtain ⟨t, ht⟩ : ∃ t, ts[k]? = some t := ⟨_, List.getElem?_eq_getElem (by rw [HM.out]; omega)⟩
          obtain ⟨g, rfl, c0, c1, c2, c3⟩ := HR.out k t ht
          have hnk := HNO.out t (List.mem_of_getElem? ht)
          clear ht c2 c3
          obtain ⟨kd, tx, nm, ps⟩ := t
          dsimp only at c0 c1 hnk
          by_cases hk6 : kd = 6
          · have hne : ((mk tx).toList == (mk x).toList) = false := by
              rw [beq_eq_false_iff_ne, mk_toList, mk_toList]
              exact hnk hk6
            subst hk6
            clear hnk
            go_wp2_with fail
            exact ⟨⟨k + 1, by omega, by go_num, trivial⟩, by simp [intOf]; omega⟩
          · clear hnk
            go_wp2_with fail
            exact ⟨⟨k + 1, by omega, by go_num, trivial⟩, by simp [intOf]; omega⟩
theorem words_str (s : ByteArray) (w : World) (hT : Hid (Tables w)) : Calls Tryd.prog 4 #[.string s] w (Said w true) := by
  have h := words_any s.data.toList w hT
  rwa [mk_of] at h
end Go.Proofs.YtcaejcbmkiacmaaDoor
