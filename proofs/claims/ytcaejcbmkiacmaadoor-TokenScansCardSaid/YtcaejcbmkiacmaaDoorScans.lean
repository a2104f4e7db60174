/- TokenScans: the walk. -/
import Derived.Test.YtcaejcbmkiacmaaDoorRj
namespace Go.Proofs.YtcaejcbmkiacmaaDoor
open Go.RowKit

theorem toks_small (l : Bs) (ts : List Tok) (h : scanR l = .ok ts) : ts.length ≤ 16384 := by
  unfold scanR at h
  split at h
  · cases h
  · rename_i hb
    have := toks_len 0 l ts h
    omega
/-- both Scans, in one form -/
theorem scanned_form (l : Bs) : ∃ (ts : List Tok) (P E : Nat), ts.length ≤ 16384 ∧ ∀ w e w', Scanned w (scanR l) e w' → Below w.heap.size w w' ∧ ∃ A c, e = .returned (.tuple #[.slice A ts.length c, .int .i64 P, .int .i64 E]) ∧ RowAt w' A ts := by
  cases hR : scanR l with
  | error p => exact ⟨[], p, 10, by simp, fun w e w' ⟨hb, h⟩ => ⟨hb, none, 0, h, fun i t hi => by simp at hi⟩⟩
  | ok ts => exact ⟨ts, 0, 0, toks_small l ts hR, fun w e w' ⟨hb, A, c, h, hr⟩ => ⟨hb, A, c, h, hr⟩⟩
theorem rscan_src (l : Bs) (a : Option Addr) (n cap : Nat) (w : World) (hn : n ≤ 1099511627776) (hl : l.length = n) (hs : SrcAt w a l) :
    Calls Tryd.prog 12 #[.slice a n cap] w (Scanned w (scanR l)) := by
  refine (rscan_any l a n cap w hn (Lib.hid hl) (Lib.hid (hs.spells n cap hl))).mono ?_
  rintro e w' ⟨hb, h⟩
  refine ⟨hb, ?_⟩
  cases hR : scanR l with
  | error p =>
    rw [hR] at h
    exact h
  | ok ts =>
    rw [hR] at h
    obtain ⟨v, rfl, h⟩ := h
    obtain ⟨a', cap', rfl, h'⟩ := rowAt_of h
    exact ⟨a', cap', rfl, h'⟩
set_option maxHeartbeats 2000000 in
theorem scans_any (l : Bs) (a : Option Addr) (n cap : Nat) (w : World) (hn : n ≤ cap) (hcap : cap ≤ maxLen) (hl : Hid (l.length = n)) (hS : Hid (SrcAt w a l)) (hT : Hid (Tables w)) :
    Calls Tryd.prog 3 #[.slice a n cap] w (Said w true) := by
  obtain ⟨ts, P, E, hts, hform⟩ := scanned_form l
  have HFM := Lib.hid hform
  obtain ⟨m, hm⟩ : ∃ m, ts.length = m := ⟨_, rfl⟩
  rw [hm] at hts HFM
  have HM := Lib.hid hm
  clear hform hm
  go_enter Tryd.func3, Tryd.ntmps3
  by_cases hbig : 65536 < n
  · go_wp2_with fail
    refine (works_any w hT).mono ?_
    rintro e w1 ⟨rfl, hb1⟩
    have HB1 := Lib.hid hb1
    clear hb1
    go_wp2_with fail
    go_ret
    exact ⟨rfl, HB1.out⟩
  · have hn2 : n ≤ 65536 := by omega
    go_wp2_with fail
    refine (roomy_any l a n cap w hn2 hl hS).mono ?_
    rintro e w1 ⟨g, o, rfl, hs1, hb1⟩
    have HB1 := Lib.hid hb1
    have HS1 := Lib.hid hs1
    clear hb1 hs1
    go_wp2_with fail
    refine (scan_src l (some ⟨g, o, none⟩) n (n + 6) w1 (by omega) hl.out (src_left HS1.out) (hT.out.below HB1.out)).mono ?_
    intro e w2 h2
    obtain ⟨hb2, A2, k2, rfl, hr2⟩ := HFM.out _ _ _ h2
    have HB2 := Lib.hid (HB1.out.trans (hb2.mono HB1.out.size))
    have HS2 := Lib.hid (HS1.out.below hb2)
    have HR2 := Lib.hid hr2
    clear h2 hb2 hr2
    go_wp2_with fail
    refine (rscan_src l a n cap w2 (by omega) hl.out (hS.out.below HB2.out)).mono ?_
    intro e w3 h3
    obtain ⟨hb3, A3, k3, rfl, hr3⟩ := HFM.out _ _ _ h3
    have HB3 := Lib.hid (HB2.out.trans (hb3.mono HB2.out.size))
    have HS3 := Lib.hid (HS2.out.below hb3)
    have HR2' := Lib.hid (HR2.out.below hb3)
    have HR3 := Lib.hid hr3
    clear h3 hb3 hr3
    go_wp2_with fail
    refine (same_true ts A2 A3 m k2 k3 w3 (by omega) HM HR2' HR3).mono ?_
    rintro e w4 ⟨rfl, hb4⟩
    have HB4 := Lib.hid (HB3.out.trans (hb4.mono HB3.out.size))
    have HS4 := Lib.hid (HS3.out.below hb4)
    clear hb4
    go_wp2_with fail
    refine (kept_any l g o n a cap w4 hn2 hn hcap hl HS4 (Lib.hid (hS.out.below HB4.out))).mono ?_
    rintro e w5 ⟨rfl, hb5⟩
    have HB5 := Lib.hid (HB4.out.trans (hb5.mono HB4.out.size))
    clear hb5
    go_wp2_with fail
    refine (works_any w5 (Lib.hid (hT.out.below HB5.out))).mono ?_
    rintro e w6 ⟨rfl, hb6⟩
    have HB6 := Lib.hid (HB5.out.trans (hb6.mono HB5.out.size))
    clear hb6
    go_wp2_with fail
    go_ret
    exact ⟨rfl, HB6.out⟩
end Go.Proofs.YtcaejcbmkiacmaaDoor
