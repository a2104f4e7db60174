/- TokenAhead: the walk. -/
import Derived.Test.YtcaejcbmkiacmaaDoorWj
import Derived.Laws.AppendOwnNone
import Derived.Deep.CutRange
import Derived.Test.YtcaejcbmkiacmaaDoorAheadPlain
namespace Go.Proofs.YtcaejcbmkiacmaaDoor
open Go.RowKit

theorem src_cell2 {w : World} {b off : Nat} {l : Bs} {i : Nat} {x : UInt8} (h : SrcAt w (some ⟨b, off, none⟩) l) (hi : l[i]? = some x) : w.cell? ⟨b, off + i, none⟩ = some (.int .u8 (x.toNat : Nat)) := by
  obtain ⟨b', off', e1, e2⟩ := h i x hi
  simp only [Option.some.injEq, Addr.mk.injEq, and_true] at e1
  obtain ⟨rfl, rfl⟩ := e1
  exact e2
theorem scanR_small {l : Bs} (h : l.length ≤ 16384) : scanR l = scanL 0 l := by rw [scanR, if_neg (by omega)]
set_option maxHeartbeats 4000000 in
set_option maxRecDepth 100000 in
theorem ahead_any (l : Bs) (a : Option Addr) (n cap : Nat) (l2 : Bs) (a2 : Option Addr) (n2 cap2 : Nat) (w : World) (hn : n ≤ cap) (hcap : cap ≤ maxLen) (hn2 : n2 ≤ cap2) (hcap2 : cap2 ≤ maxLen) (hnil : a2 = none → cap2 = 0)
    (hl : Hid (l.length = n)) (hl2 : Hid (l2.length = n2)) (hS : Hid (SrcAt w a l)) (hS2 : Hid (SrcAt w a2 l2)) (hT : Hid (Tables w)) :
    Calls Tryd.prog 7 #[.slice a n cap, .slice a2 n2 cap2] w (Said w true) := by
  go_enter Tryd.func7, Tryd.ntmps7
  by_cases hbig : 2048 < n
  · go_wp2_with fail
    refine (works_any w hT).mono ?_
    rintro e w1 ⟨rfl, hb⟩
    go_wp2_with fail
    go_ret
    exact ⟨rfl, hb⟩
  · by_cases hbig2 : 2048 < n2
    · go_wp2_with fail
      refine (works_any w hT).mono ?_
      rintro e w1 ⟨rfl, hb⟩
      go_wp2_with fail
      go_ret
      exact ⟨rfl, hb⟩
    · go_wp2_with fail
      refine (scan_src l a n cap w (by omega) hl.out hS.out hT.out).mono ?_
      rintro e w1 ⟨hb1, h1⟩
      have HB1 := Lib.hid hb1
      rw [scanR_small (by rw [hl.out]; omega)] at h1
      cases hR : scanL 0 l with
      | ok ts =>
        rw [hR] at h1
        obtain ⟨a1, cap1, rfl, hr1⟩ := h1
        clear hb1 hR hr1
        go_wp2_with fail
        refine (works_any w1 (Lib.hid (hT.out.below HB1.out))).mono ?_
        rintro e w2 ⟨rfl, hb⟩
        have HB2 := Lib.hid hb
        clear hb
        go_wp2_with fail
        go_ret
        exact ⟨rfl, HB1.out.trans (HB2.out.mono HB1.out.size)⟩
      | error p =>
        rw [hR] at h1
        subst h1
        obtain ⟨ts, hp, hts, hmore⟩ := ahead_src l p hR
        rw [hl.out] at hp
        have HM := Lib.hid (hmore l2)
        have HTS := Lib.hid hts
        have hml := toks_len 0 (l.take p) ts hts
        clear hb1 hR hmore hts
        have hpl : (l.take p).length = p := by rw [List.length_take, hl.out]; omega
        have hST := (hS.out.below HB1.out).take p
        go_wp2_with fail
        refine (scan_src2 (l.take p) a p cap w1 (by omega) hpl hST (hT.out.below HB1.out)).mono ?_
        rintro e w2 ⟨hb2, h2⟩
        have HB2 := Lib.hid (HB1.out.trans (hb2.mono HB1.out.size))
        rw [scanR_small (by rw [hpl]; omega), HTS.out] at h2
        obtain ⟨a3, cap3, rfl, hr3, _⟩ := h2
        have HR3 := Lib.hid hr3
        obtain ⟨m, hm⟩ : ∃ m, ts.length = m := ⟨_, rfl⟩
        rw [hpl, hm] at hml
        have hmm : m ≤ 1099511627776 := by omega
        rw [hm]
        have HLM := Lib.hid hm
        clear hST hb2 hr3 hm HTS
        obtain ⟨b, off, rfl⟩ := hS.out.some_of (by rw [hl.out]; omega)
        obtain ⟨i0, hi, hz0, hz1, hz2⟩ := info5
        have HI := Lib.hid (And.intro hi (And.intro hz0 (And.intro hz1 hz2)))
        clear hi hz0 hz1 hz2
        have HS2 := Lib.hid (hS.out.below HB2.out)
        have HN : Hid (w2.ownsRow w2.heap.size 5 1 (.slice none 0 0) 0 []) := Lib.hid ⟨rfl, .inl ⟨rfl, rfl⟩⟩
        have hmax : n + n2 ≤ maxLen := by unfold maxLen; omega
        go_upto_region 11 with (at_builtin; refine wpList_append_own_at _ rfl _ _ 22 rfl w2.heap.size 5 i0 (.int .u8 0) 1 1 Tryd.underlying22 HI.out.1 HI.out.2.1 HI.out.2.2.1 HI.out.2.2.2 rfl (by decide) _ _ _ rfl HN.out ⟨b, off, none⟩ n cap (bytesV l) rfl (by rw [bytesV, List.length_map, hl.out, Nat.mul_one]) HS2.out.cells (bytesV_one l) (by omega) (by omega) (Nat.le_refl _) ?_; intro v' w5 hown' hgrow _ _)
        have hg2 : w2.grownBy w5 (Value.slice none 0 0).ownBlock := hgrow
        have HB5 := Lib.hid (below_grown2 (Below.refl w2.heap.size w2) (Nat.le_refl _) HN.out hg2)
        rw [Nat.zero_add, List.nil_append] at hown'
        have HO5 := Lib.hid hown'
        have HS5 := Lib.hid ((hS2.out.below HB2.out).below HB5.out)
        clear hown' hgrow hg2
        go_cut [11] from 46 to 48 (fun v wx => wx.ownsRow w2.heap.size 5 1 v (l ++ l2).length (bytesV (l ++ l2)) ∧ Below w2.heap.size w2 wx)
        case first =>
          cases a2 with
          | none =>
            have hl0 : l2 = [] := by
              cases l2 with
              | nil => rfl
              | cons c r =>
                obtain ⟨b, off, e, _⟩ := hS2.out 0 c rfl
                cases e
            subst hl0
            have HZ : Hid (0 = n2) := Lib.hid hl2.out
            have HCZ := Lib.hid (hnil rfl)
            clear hnil
            go_wp2_with (at_builtin; refine wpList_append_own_none rfl _ _ 22 rfl w2.heap.size 5 i0 1 Tryd.underlying22 HI.out.1 v' n (bytesV l) rfl HO5.out (by show Value.slice none n2 cap2 = _; rw [← HZ.out, HCZ.out]) ?_)
            go_meet
            rw [List.append_nil, hl.out]
            exact ⟨HO5.out, HB5.out⟩
          | some ad =>
            have hc : ∀ j u, (bytesV l2)[j]? = some u → w5.cell? (ad.add j) = some u := by
              intro j u hj
              have hj1 : 1 ≤ l2.length := by
                have := (List.getElem?_eq_some_iff.1 hj).1
                unfold bytesV at this
                rw [List.length_map] at this
                omega
              obtain ⟨b', off', e⟩ := HS5.out.some_of hj1
              simp only [Option.some.injEq] at e
              subst e
              exact HS5.out.cells j u hj
            have HC := Lib.hid hc
            clear hc
            go_wp2_with (at_builtin; refine wpList_append_own_at _ rfl _ _ 22 rfl w2.heap.size 5 i0 (.int .u8 0) 1 1 Tryd.underlying22 HI.out.1 HI.out.2.1 HI.out.2.2.1 HI.out.2.2.2 rfl (by decide) v' n (bytesV l) rfl HO5.out ad n2 cap2 (bytesV l2) rfl (by rw [bytesV, List.length_map, hl2.out, Nat.mul_one]) HC.out (bytesV_one l2) (by omega) (by omega) HB5.out.size ?_; intro v'' w6 hown6 hgrow6 _ _)
            go_meet
            have hg2 : w5.grownBy w6 v'.ownBlock := hgrow6
            refine ⟨?_, below_grown2 HB5.out (Nat.le_refl _) HO5.out hg2⟩
            rw [List.length_append, hl.out, hl2.out, bytesV, List.map_append]
            exact hown6
        case rest =>
          obtain ⟨hown, hb6⟩ := hcut
          obtain ⟨a6, cap6, rfl, hs6, hx1, hx2⟩ := srcAt_own hown
          clear hx1 hx2 hmax hcap2
          have HB6 := Lib.hid (HB2.out.trans (hb6.mono HB2.out.size))
          have HS6 := Lib.hid hs6
          have HR6 := Lib.hid (HR3.out.below hb6)
          have HX6 := Lib.hid (hS.out.below HB6.out)
          obtain ⟨q, hq⟩ : ∃ q, (l ++ l2).length = q := ⟨_, rfl⟩
          have hq2 : q = n + n2 := by rw [← hq, List.length_append, hl.out, hl2.out]
          have hq4 : q ≤ 4096 := by omega
          have hq3 : q ≤ 1099511627776 := Nat.le_trans hq4 (by decide)
          rw [hq]
          have HQ := Lib.hid hq
          clear hown hb6 hs6 HS5 HB5 HO5 HS2 HR3 HN hq hq2
          go_wp2_with fail
          refine (scan_src2 (l ++ l2) a6 q cap6 wc hq3 HQ.out HS6.out (hT.out.below HB6.out)).mono ?_
          rintro e w7 ⟨hb7, h7⟩
          have HB7 := Lib.hid (HB6.out.trans (hb7.mono HB6.out.size))
          have HR7 := Lib.hid (HR6.out.below hb7)
          have HX7 := Lib.hid (HX6.out.below hb7)
          rw [scanR_small (by rw [HQ.out]; omega)] at h7
          clear hb7
          rcases HM.out with ⟨k, hpk, hk⟩ | ⟨z, c, hz, hc, hcc⟩
          · rw [hk] at h7
            subst h7
            clear hk
            go_wp2_with fail
            refine (works_any w7 (Lib.hid (hT.out.below HB7.out))).mono ?_
            rintro e w8 ⟨rfl, hb⟩
            have HB8 := Lib.hid hb
            clear hb
            go_wp2_with fail
            go_ret
            exact ⟨rfl, HB7.out.trans (HB8.out.mono HB7.out.size)⟩
          · rw [hz] at h7
            obtain ⟨a7, cap7, rfl, hr7, hcap7⟩ := h7
            have hlen : m ≤ (ts ++ z).length := by rw [List.length_append, HLM.out]; omega
            obtain ⟨j, hj⟩ : ∃ j, (ts ++ z).length = j := ⟨_, rfl⟩
            rw [hj] at hlen hcap7 ⊢
            have HRR := Lib.hid hr7.left
            have hsame := Lib.hid (fun (w9 : World) (c1 c2 : Nat) (hb9 : Below w7.heap.size w7 w9) => same_true ts a3 a7 m c1 c2 w9 hmm HLM (Lib.hid (HR7.out.below hb9)) (Lib.hid (HRR.out.below hb9)))
            have e0 := src_cell2 HX7.out hc
            have fin : ∀ w8, Below w7.heap.size w7 w8 → Tables w8 ∧ Below w.heap.size w w8 := fun w8 hb => ⟨hT.out.below (HB7.out.trans (hb.mono HB7.out.size)), HB7.out.trans (hb.mono HB7.out.size)⟩
            have FIN := Lib.hid fin
            clear hr7 hz hj hc fin
            have e1 : ∃ k : Nat, (k = 34 ∨ k = 40 ∨ k = 39) ∧ c.toNat = k := ⟨_, by rcases hcc with rfl | rfl | rfl <;> decide, rfl⟩
            obtain ⟨k, hk, hck⟩ := e1
            rw [hck] at e0
            clear hck hcc
            have E0 := Lib.hid e0
            clear e0
            go_wp2_with fail
            refine (hsame.out w7 _ _ (Below.refl _ _)).mono ?_
            rintro e w8 ⟨rfl, hb8⟩
            have c8 := (hb8.cell (cell_lt E0.out)).trans E0.out
            have HB8 := Lib.hid hb8
            clear hb8
            rcases hk with rfl | rfl | rfl
            · go_wp2_with fail
              refine (works_any w8 (Lib.hid (FIN.out w8 HB8.out).1)).mono ?_
              rintro e w9 ⟨rfl, hb⟩
              have HB9 := Lib.hid hb
              clear hb
              go_wp2_with fail
              go_ret
              exact ⟨rfl, (FIN.out w8 HB8.out).2.trans (HB9.out.mono (FIN.out w8 HB8.out).2.size)⟩
            · go_wp2_with fail
              refine (works_any w8 (Lib.hid (FIN.out w8 HB8.out).1)).mono ?_
              rintro e w9 ⟨rfl, hb⟩
              have HB9 := Lib.hid hb
              clear hb
              go_wp2_with fail
              go_ret
              exact ⟨rfl, (FIN.out w8 HB8.out).2.trans (HB9.out.mono (FIN.out w8 HB8.out).2.size)⟩
            · go_wp2_with fail
              refine (works_any w8 (Lib.hid (FIN.out w8 HB8.out).1)).mono ?_
              rintro e w9 ⟨rfl, hb⟩
              have HB9 := Lib.hid hb
              clear hb
              go_wp2_with fail
              go_ret
              exact ⟨rfl, (FIN.out w8 HB8.out).2.trans (HB9.out.mono (FIN.out w8 HB8.out).2.size)⟩
end Go.Proofs.YtcaejcbmkiacmaaDoor
