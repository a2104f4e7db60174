/- TokenBack: the walk. -/
import Derived.Test.YtcaejcbmkiacmaaDoorWm
namespace Go.Proofs.YtcaejcbmkiacmaaDoor
open Go.RowKit

theorem scanR_small {l : Bs} (h : l.length ≤ 16384) : scanR l = scanL 0 l := by rw [scanR, if_neg (by omega)]
theorem chain_text {src : Bs} : ∀ (ts : List Tok) (last : Nat), Chain src last ts → ∀ t ∈ ts, t.text.length ≤ src.length
  | [], _, _, t, h => by cases h
  | u :: r, last, hc, t, h => by
    rcases List.mem_cons.1 h with rfl | h
    · rcases hc.2.2.1 with ⟨h1, h2, h3, h4, h5⟩ | ⟨h1, h2, h3, h4⟩ | ⟨h1, h2, h3, h4⟩
      · omega
      · rw [h2]
        exact Nat.zero_le _
      · exact h3
    · exact chain_text r _ hc.2.2.2 t h
theorem wr_len {t : Tok} (h : Writ t) : (wr t).length ≤ 2 * t.text.length + 19 := by
  unfold wr
  rcases h with ⟨h1, h2, _, _⟩ | ⟨h1, h2, h3⟩ | ⟨h1, _, _⟩
  · rw [if_neg h1, if_neg h2]
    omega
  · rw [if_pos h1]
    have := digitsL_19 t.num h3
    omega
  · rw [if_neg (by omega), if_pos h1]
    have := escL_len t.text
    simp only [List.length_cons, List.length_append, List.length_nil]
    omega
theorem writeL_snoc (b : Bs) (t : Tok) : ∀ ts : List Tok, writeL b (ts ++ [t]) = writeL b ts ++ (wr t ++ b)
  | [] => by simp [writeL]
  | u :: r => by simp [writeL, writeL_snoc b t r]
theorem between_len : ∀ b ∈ betweens, b.length ≤ 21 := by decide
set_option maxHeartbeats 2000000 in
set_option maxRecDepth 100000 in
theorem back_any (l : Bs) (a : Option Addr) (n cap : Nat) (x1 : Int) (hx1 : (Lit.int .u8 x1).wf = true) (w : World) (hn : n ≤ cap) (hcap : cap ≤ maxLen) (hl : Hid (l.length = n)) (hS : Hid (SrcAt w a l)) (hT : Hid (Tables w)) :
    Calls Tryd.prog 5 #[.slice a n cap, .int .u8 x1] w (Said w true) := by
  have hb : 0 ≤ x1 ∧ x1 < 256 := by
    have h1 : IntKind.u8.min ≤ x1 ∧ x1 ≤ IntKind.u8.max := by simpa [Lit.wf] using hx1
    have e1 : IntKind.u8.min = 0 := rfl
    have e2 : IntKind.u8.max = 255 := rfl
    omega
  obtain ⟨v, rfl⟩ : ∃ v : Nat, x1 = v := ⟨x1.toNat, by omega⟩
  have hv : v < 256 := by omega
  clear hx1 hb
  go_enter Tryd.func5, Tryd.ntmps5
  by_cases hbig : 2048 < n
  · go_wp2_with fail
    refine (works_any w hT).mono ?_
    rintro e w1 ⟨rfl, hb1⟩
    have HB1 := Lib.hid hb1
    clear hb1
    go_wp2_with fail
    go_ret
    exact ⟨rfl, HB1.out⟩
  · go_wp2_with fail
    refine (scan_src l a n cap w (by omega) hl.out hS.out hT.out).mono ?_
    rintro e w1 ⟨hb1, h1⟩
    have HB1 := Lib.hid hb1
    rw [scanR_small (by rw [hl.out]; omega)] at h1
    clear hb1
    cases hR : scanL 0 l with
    | error p =>
      rw [hR] at h1
      subst h1
      clear hR
      go_wp2_with fail
      refine (works_any w1 (Lib.hid (hT.out.below HB1.out))).mono ?_
      rintro e w2 ⟨rfl, hb⟩
      have HB2 := Lib.hid hb
      clear hb
      go_wp2_with fail
      go_ret
      exact ⟨rfl, HB1.out.trans (HB2.out.mono HB1.out.size)⟩
    | ok ts =>
      rw [hR] at h1
      obtain ⟨a1, cap1, rfl, hr1⟩ := h1
      obtain ⟨m, hm⟩ : ∃ m, ts.length = m := ⟨_, rfl⟩
      have hmn := toks_len 0 l ts hR
      rw [hl.out, hm] at hmn
      have HBK := Lib.hid (fun b hb => back_src l b hb ts hR)
      have HCT := Lib.hid (chain_text ts 0 (chain_src l ts hR))
      rw [hm]
      have HR := Lib.hid hr1
      have HM := Lib.hid hm
      clear hr1 hm hR
      obtain ⟨j, hj⟩ : ∃ j, v % 5 = j := ⟨_, rfl⟩
      have hj5 : j < 5 := by omega
      obtain ⟨b, hbb⟩ : ∃ b, betweens[j]? = some b := ⟨_, List.getElem?_eq_getElem (by show j < 5; exact hj5)⟩
      have hbm := List.mem_of_getElem? hbb
      have hbl := between_len b hbm
      have HBM := Lib.hid hbm
      have hnew := strs_new w1 betweens 9 (0, 0) j b hbb
      obtain ⟨mb, hmb⟩ : ∃ mb, mk b = mb := ⟨_, rfl⟩
      rw [hmb] at hnew
      have HMB := Lib.hid hmb
      have hms : mb.size ≤ 21 := by rw [← hmb, mk_size]; exact hbl
      clear hmb
      simp only [strV, betweens, mk, List.map_cons, List.map_nil, Nat.zero_add] at hnew
      clear hbm hbb
      go_wp2_with fail
      clear hnew
      obtain ⟨w2, hw2⟩ : ∃ w2, w2 = w1.alloc (.cells (strV betweens).toArray 9) := ⟨_, rfl⟩
      have HB2 : Hid (Below w.heap.size w w2) := Lib.hid (by rw [hw2]; exact HB1.out.trans ((below_alloc w1 _).mono HB1.out.size))
      have HR2 : Hid (RowAt w2 a1 ts) := Lib.hid (by rw [hw2]; exact HR.out.below (below_alloc w1 _))
      have e2 : (w1.alloc (.cells (strV betweens).toArray 9)) = w2 := hw2.symm
      simp only [strV, betweens, mk, List.map_cons, List.map_nil] at e2
      rw [e2]
      generalize w1.heap.size = g1
      clear hw2 e2
      rw [hj]
      clear hj
      go_loopw [9, 10] (fun s i wr => ∃ k : Nat, k ≤ m ∧ i = .int .i64 k ∧ (∃ ms, s = .string ms ∧ ms.size ≤ 21 + k * 4200 ∧ Hid (ms = mk (b ++ writeL b (ts.take k)))) ∧ Hid (Below w2.heap.size w2 wr)) (fun _ i _ => m - (intOf i).toNat)
      case atStart => exact ⟨0, Nat.zero_le _, rfl, ⟨mb, rfl, by omega, Lib.hid (by rw [← HMB.out]; simp [writeL])⟩, Lib.hid (Below.refl _ _)⟩
      case round =>
        obtain ⟨k, hk, rfl, ⟨ms, rfl, hmsz, HS⟩, HF⟩ := hrel
        by_cases hkm : k = m
        · have hfull := HS.out
          rw [hkm, ← HM.out, List.take_length] at hfull
          obtain ⟨us, hus, hal⟩ := (HBK.out b HBM.out).2
          obtain ⟨x, hx⟩ : ∃ x, b ++ writeL b ts = x := ⟨_, rfl⟩
          rw [hx] at hfull hus
          subst hfull
          have hkm2 : m ≤ 2048 := by omega
          obtain ⟨N, hN⟩ : ∃ N, (mk x).size = N := ⟨_, rfl⟩
          have HN : Hid (x.length = N) := Lib.hid (by rw [← hN, mk_size])
          have HBW := Lib.hid (HB2.out.trans (HF.out.mono HB2.out.size))
          have HUS := Lib.hid hus
          have HAL := Lib.hid hal
          clear hus hal hx hmsz HS
          subst hkm
          by_cases hmax : 16384 < N
          · go_wp2_with fail
            refine (works_any _ (Lib.hid (hT.out.below HBW.out))).mono ?_
            rintro e w5 ⟨rfl, hb5⟩
            have HB5 := Lib.hid hb5
            clear hb5
            go_wp2_with fail
            go_ret
            exact ⟨rfl, HBW.out.trans (HB5.out.mono HBW.out.size)⟩
          · have hcv := fun u => run_bytes_of_string (P := Tryd.prog) u 9 22 5 (mk x) Tryd.underlying9 Tryd.underlying22 Tryd.underlying5
            go_wp2_with fail
            have hbb := below_bytes wr (.cells (bytesRow (mk x) (grownCap wr N 0 5)) 5 ((bytesRow (mk x) (grownCap wr N 0 5)).size, (bytesRow (mk x) (grownCap wr N 0 5)).size + 1))
            have HB4 := Lib.hid (HBW.out.trans (hbb.mono HBW.out.size))
            have HR4 := Lib.hid ((HR2.out.below HF.out).below hbb)
            refine (scan_src x _ N _ _ (by omega) HN.out (srcAt_bytes wr x _ _ _) (hT.out.below HB4.out)).mono ?_
            rintro e w5 ⟨hb5, h5⟩
            have HB5 := Lib.hid (HB4.out.trans (hb5.mono HB4.out.size))
            have HR5 := Lib.hid (HR4.out.below hb5)
            rw [scanR_small (by rw [HN.out]; omega), HUS.out] at h5
            obtain ⟨a6, cap6, rfl, hr6⟩ := h5
            have hlu := alikeL_len ts us HAL.out
            rw [HM.out] at hlu
            rw [← hlu]
            have HR6 := Lib.hid hr6
            have HLK := Lib.hid (fun c1 c2 => alike_true ts us a1 a6 k c1 c2 w5 (by omega) HM HAL HR5 HR6)
            clear hb5 hbb hcv hr6 hlu
            go_wp2_with fail
            refine (HLK.out _ _).mono ?_
            rintro e w6 ⟨rfl, hb6⟩
            have HB6 := Lib.hid (HB5.out.trans (hb6.mono HB5.out.size))
            clear hb6
            go_wp2_with fail
            refine (works_any _ (Lib.hid (hT.out.below HB6.out))).mono ?_
            rintro e w7 ⟨rfl, hb7⟩
            have HB7 := Lib.hid hb7
            clear hb7
            go_wp2_with fail
            go_ret
            exact ⟨rfl, HB6.out.trans (HB7.out.mono HB6.out.size)⟩
        · obtain ⟨t, ht⟩ : ∃ t, ts[k]? = some t := ⟨_, List.getElem?_eq_getElem (by rw [HM.out]; omega)⟩
          obtain ⟨g, rfl, c0, c1, c2, c3⟩ := (HR2.out.below HF.out) k t ht
          have hmem := List.mem_of_getElem? ht
          have hwt := (HBK.out b HBM.out).1 t hmem
          have htl := HCT.out t hmem
          rw [hl.out] at htl
          have hwl := wr_len hwt
          have hne := wr_ne hwt
          have HTX := Lib.hid (fun w' => text_any2 t (Lib.hid hwt) (by omega) w')
          obtain ⟨y, hy⟩ : ∃ y, mk (YtcaejcbmkiacmaaDoor.wr t) = y := ⟨_, rfl⟩
          have hys : y.size ≤ 4115 := by rw [← hy, mk_size]; omega
          have hye : (y.toList == []) = false := by
            rw [← hy, mk_toList]
            cases hw : YtcaejcbmkiacmaaDoor.wr t with
            | nil => exact absurd hw hne
            | cons _ _ => rfl
          have hye2 : y.toList.isEmpty = false := by
            rw [← hy, mk_toList]
            cases hw : YtcaejcbmkiacmaaDoor.wr t with
            | nil => exact absurd hw hne
            | cons _ _ => rfl
          have HY := Lib.hid hy
          have HT := Lib.hid ht
          rw [hy] at HTX
          clear ht hmem hwt htl hwl hne hy
          go_wp2_with fail
          refine (HTX.out wr).mono ?_
          rintro e w3 ⟨rfl, hb3⟩
          have HB3 := Lib.hid (HF.out.trans (hb3.mono HF.out.size))
          clear hb3
          go_wp2_with fail
          refine ⟨⟨k + 1, by omega, by go_num, ⟨ms ++ y ++ mb, rfl, ?_, Lib.hid ?_⟩, HB3⟩, by simp [intOf]; omega⟩
          · rw [ByteArray.size_append, ByteArray.size_append]
            omega
          · rw [HS.out, ← HY.out, ← HMB.out, List.take_add_one, HT.out, Option.toList_some, writeL_snoc, mk_append2, mk_append2]
            congr 1
            simp
end Go.Proofs.YtcaejcbmkiacmaaDoor
