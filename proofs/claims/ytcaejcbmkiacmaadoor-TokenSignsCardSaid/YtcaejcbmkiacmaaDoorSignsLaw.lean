/- TokenSigns: the walk. -/
import Derived.Test.YtcaejcbmkiacmaaDoorWk
import Derived.Test.YtcaejcbmkiacmaaDoorSignsPlain
import Derived.Test.YtcaejcbmkiacmaaDoorHand
import Derived.Deep.CutRange
namespace Go.Proofs.YtcaejcbmkiacmaaDoor
open Go.RowKit

theorem mk_append (x y : Bs) : mk x ++ mk y = mk (x ++ y) := by
  have h : (mk x ++ mk y).data = (mk (x ++ y)).data := by simp [mk, ByteArray.data_append]
  have e : ∀ s : ByteArray, s = ⟨s.data⟩ := fun _ => rfl
  rw [e (mk x ++ mk y), h]
theorem sign_chars : ∀ y ∈ signs, y.length ≤ 2 ∧ ∀ c ∈ y, [c] ∈ signs := by decide
theorem opens_at {x : Bs} {k : Nat} {c d : UInt8} (hc : x[k]? = some c) (hd : x[k + 1]? = some d) : opens (x.drop k) = (decide (c = 40) && decide (d = 42)) := by
  rw [drop_two hc, drop_two hd]
  rfl
theorem noOpen_of {x : Bs} {j : Nat} (h : ∀ i, i < j → opens (x.drop i) = false) (hj : x.length ≤ j + 1) : NoOpen x := by
  intro k
  rcases Nat.lt_or_ge k j with h1 | h1
  · exact h k h1
  · have : (x.drop k).length ≤ 1 := by rw [List.length_drop]; omega
    match x.drop k, this with
    | [], _ => rfl
    | [_], _ => rfl
    | _ :: _ :: _, h => simp at h
theorem drop_tok2 {ts : List Tok} {k : Nat} {t : Tok} (h : ts[k]? = some t) : ts.drop k = t :: ts.drop (k + 1) := by
  obtain ⟨h1, h2⟩ := List.getElem?_eq_some_iff.1 h
  rw [List.drop_eq_getElem_cons h1, h2]
theorem swap_same {f : FuncId} {args : Array Value} {w : World} {v : Value} (h : Calls Tryd.prog f args w fun e w' => e = .returned v ∧ w' = w) : Calls Tryd.prog f args w fun e w' => e = .returned v ∧ w' = w := h
theorem scanR_small {l : Bs} (h : l.length ≤ 16384) : scanR l = scanL 0 l := by rw [scanR, if_neg (by omega)]
set_option maxHeartbeats 1200000 in
set_option maxRecDepth 100000 in
theorem signs_any (l : Bs) (a : Option Addr) (n cap : Nat) (w : World) (hn : n ≤ cap) (hcap : cap ≤ maxLen) (hl : Hid (l.length = n)) (hS : Hid (SrcAt w a l)) (hT : Hid (Tables w)) :
    Calls Tryd.prog 8 #[.slice a n cap] w (Said w true) := by
  go_enter Tryd.func8, Tryd.ntmps8
  by_cases hbig : 200 < n
  · go_wp2_with fail
    refine (works_any w hT).mono ?_
    rintro e w1 ⟨rfl, hb1⟩
    have HB1 := Lib.hid hb1
    clear hb1
    go_wp2_with fail
    go_ret
    exact ⟨rfl, HB1.out⟩
  · go_wp2_with fail
    obtain ⟨w1, hw1⟩ : ∃ w1, w1 = w.alloc (.cells (strV signs).toArray 9) := ⟨_, rfl⟩
    have hsg := strs_new w signs 9 (0, 0)
    have hb1 := below_alloc w (.cells (strV signs).toArray 9)
    have e1 : (w.alloc (.cells (strV signs).toArray 9)) = w1 := hw1.symm
    simp only [strV, signs, mk, List.map_cons, List.map_nil] at e1
    rw [e1]
    rw [← hw1] at hsg hb1
    have HSG := Lib.hid hsg
    have HB1 := Lib.hid hb1
    generalize w.heap.size = g0 at HSG
    clear hsg hb1 hw1 e1
    go_loopw [4, 5] (fun s i wr => ∃ (k : Nat) (x : Bs), k ≤ n ∧ i = .int .i64 k ∧ s = .string (mk x) ∧ wr = w1 ∧ x.length ≤ 2 * k ∧ Hid (Signed x)) (fun _ i _ => n - (intOf i).toNat)
    case atStart => exact ⟨0, [], Nat.zero_le _, rfl, rfl, rfl, Nat.le_refl _, Lib.hid (fun c h => by cases h)⟩
    case round =>
      obtain ⟨k, x, hk, rfl, rfl, rfl, hxk, HX⟩ := hrel
      by_cases hkn : k = n
      · subst hkn
        obtain ⟨N, hN⟩ : ∃ N, (mk x).size = N := ⟨_, rfl⟩
        have hxN : x.length = N := by rw [← hN, mk_size]
        have hN4 : N ≤ 400 := by omega
        have HN := Lib.hid hxN
        clear hxN hxk
        go_wp2_with fail
        go_loopw [6] (fun i wr' => ∃ j : Nat, j ≤ N ∧ i = .int .i64 j ∧ wr' = wr ∧ Hid (∀ i, i < j → opens (x.drop i) = false)) (fun i _ => N + 1 - (intOf i).toNat)
        case atStart => exact ⟨0, Nat.zero_le _, rfl, rfl, Lib.hid (fun i h => absurd h (Nat.not_lt_zero _))⟩
        case round =>
          obtain ⟨j, hj, rfl, rfl, HNO⟩ := hrel
          by_cases hend : N ≤ j + 1
          · obtain ⟨ts, hts, hch⟩ := signs_scan x.length 0 x (Nat.le_refl _) HX.out (noOpen_of HNO.out (by rw [HN.out]; exact hend))
            have hcv := fun u => run_bytes_of_string (P := Tryd.prog) u 9 22 5 (mk x) Tryd.underlying9 Tryd.underlying22 Tryd.underlying5
            go_wp2_with fail
            have hbb := below_bytes wr (.cells (bytesRow (mk x) (grownCap wr N 0 5)) 5 ((bytesRow (mk x) (grownCap wr N 0 5)).size, (bytesRow (mk x) (grownCap wr N 0 5)).size + 1))
            have HB2 := Lib.hid (HB1.out.trans (hbb.mono HB1.out.size))
            have HSG2 : Hid (∀ (i : Nat) (y : Bs), signs[i]? = some y → _) := Lib.hid (fun i y hy => (hbb.cell (cell_lt (HSG.out i y hy))).trans (HSG.out i y hy))
            refine (scan_src x _ N _ _ (by omega) HN.out (srcAt_bytes wr x _ _ _) (hT.out.below HB2.out)).mono ?_
            rintro e w3 ⟨hb3, h3⟩
            have HB3 := Lib.hid (HB2.out.trans (hb3.mono HB2.out.size))
            have HSG3 : Hid (∀ (i : Nat) (y : Bs), signs[i]? = some y → w3.cell? ⟨g0, 0 + i, none⟩ = some (.string (mk y))) := Lib.hid (fun i y hy => (hb3.cell (cell_lt (HSG2.out i y hy))).trans (HSG2.out i y hy))
            rw [scanR_small (by rw [HN.out]; omega), hts] at h3
            obtain ⟨a4, cap4, rfl, hr4⟩ := h3
            obtain ⟨m, hm⟩ : ∃ m, ts.length = m := ⟨_, rfl⟩
            have hmn := toks_len 0 x ts hts
            rw [hm, HN.out] at hmn
            have HR := Lib.hid hr4
            have HM := Lib.hid hm
            have HCH := Lib.hid hch
            rw [hm]
            clear hb3 hr4 hbb hcv hts hch hm HSG HSG2
            go_wp2_with fail
            go_loopw [10, 11] (fun p i wx => ∃ (q k' : Nat), k' ≤ m ∧ q ≤ N ∧ p = .int .i64 q ∧ i = .int .i64 k' ∧ Hid (Below w3.heap.size w3 wx) ∧ Hid (SignChain q (x.drop q) (ts.drop k'))) (fun _ i _ => m - (intOf i).toNat)
            case atStart => exact ⟨0, 0, Nat.zero_le _, Nat.zero_le _, rfl, rfl, Lib.hid (Below.refl _ _), HCH⟩
            case round =>
              obtain ⟨q, k', hk', hqN, rfl, rfl, HF, HC⟩ := hrel
              have HBW := Lib.hid (HB3.out.trans (HF.out.mono HB3.out.size))
              by_cases hkm : k' = m
              · have hq : q = N := by
                  have h := HC.out
                  rw [hkm, ← HM.out, List.drop_length] at h
                  have h2 := congrArg List.length (show x.drop q = [] from h)
                  rw [List.length_drop, HN.out] at h2
                  simp at h2
                  omega
                subst hq
                go_wp2_with fail
                refine (works_any _ (Lib.hid (hT.out.below HBW.out))).mono ?_
                rintro e w5 ⟨rfl, hb5⟩
                have HB5 := Lib.hid hb5
                clear hb5
                go_wp2_with fail
                go_ret
                exact ⟨rfl, HBW.out.trans (HB5.out.mono HBW.out.size)⟩
              · obtain ⟨t, ht⟩ : ∃ t, ts[k']? = some t := ⟨_, List.getElem?_eq_getElem (by rw [HM.out]; omega)⟩
                obtain ⟨g, rfl, c0, c1, c2, c3⟩ := (HR.out.below HF.out) k' t ht
                have h := HC.out
                rw [drop_tok2 ht] at h
                obtain ⟨hne, hkd, hps, htx, hch⟩ := h
                have hqN2 : q < N := by
                  have : (x.drop q).length ≠ 0 := fun e => hne (List.eq_nil_of_length_eq_zero e)
                  rw [List.length_drop, HN.out] at this
                  omega
                obtain ⟨b, hb⟩ : ∃ b, two (x.drop q) = b := ⟨_, rfl⟩
                have HTW := Lib.hid hb
                have HCH2 := Lib.hid hch
                have HTX := Lib.hid htx
                have HTK := Lib.hid ht
                obtain ⟨kd, tx, nm, ps⟩ := t
                dsimp only at hkd hps
                have HKP := Lib.hid (And.intro hkd hps)
                clear ht hch htx hne HC c0 c1 c2 c3 hkd hps hb
                have w1 : IntKind.i64.wrap ((q : Int) + 2) = (q : Int) + 2 := by
                  rw [IntKind.wrap_i64]
                  omega
                go_wp2_with fail
                go_cut [12] from 72 to 86 (fun v wx => v = .bool b ∧ Below w3.heap.size w3 wx)
                case first =>
                  by_cases htwo : q + 2 ≤ N
                  · have q1 : decide ((q : Int) + 2 ≤ (N : Int)) = true := by
                      simp only [decide_eq_true_eq]
                      omega
                    have b1 : (0 : Int) ≤ (q : Int) := by omega
                    have b2 : (q : Int) ≤ (q : Int) + 2 := by omega
                    have b3 : (q : Int) + 2 ≤ (N : Int) := by omega
                    have b4 : ((q : Int) + 2).toNat = q + 2 := by omega
                    have HIN : Hid (∀ w', Below w3.heap.size w3 w' → Calls Tryd.prog 19 #[.slice (some ⟨g0, 0, none⟩) 6 22, .string ((mk x).extract q (q + 2))] w' fun e w'' => e = .returned (.bool b) ∧ w'' = w') := Lib.hid (fun w' hb => by
                      have h6 : ∀ (i : Nat) (y : Bs), six[i]? = some y → w'.cell? ⟨g0, 0 + i, none⟩ = some (.string (mk y)) := fun i y hy => by
                        have hy2 : signs[i]? = some y := by
                          have : six = signs.take 6 := rfl
                          rw [this, List.getElem?_take] at hy
                          split at hy
                          · exact hy
                          · cases hy
                        exact (hb.cell (cell_lt (HSG3.out i y hy2))).trans (HSG3.out i y hy2)
                      have h7 : (mk x).extract q (q + 2) = mk ((x.drop q).take 2) := by
                        rw [mk_extract, List.take_drop, Nat.add_comm]
                      have h8 : decide ((x.drop q).take 2 ∈ six) = b := by
                        rw [← HTW.out]
                        have : 2 ≤ (x.drop q).length := by rw [List.length_drop, HN.out]; omega
                        match x.drop q, this with
                        | _ :: _ :: _, _ => rfl
                      rw [← h8]
                      exact in_any six ((x.drop q).take 2) _ (Lib.hid h7) g0 0 6 22 w' (by decide) (Lib.hid rfl) (Lib.hid h6))
                    go_quiet (first
                      | (go_at_call 19; exact Calls.quiet_of_same (swap_same (HIN.out _ (below_drew HF.out _)))))
                    go_wp2_with fail
                    go_meet
                    exact ⟨rfl, below_drew HF.out _⟩
                  · have q1 : decide ((q : Int) + 2 ≤ (N : Int)) = false := by
                      simp only [decide_eq_false_iff_not]
                      omega
                    have hbf : b = false := by
                      rw [← HTW.out]
                      have : (x.drop q).length ≤ 1 := by rw [List.length_drop, HN.out]; omega
                      match x.drop q, this with
                      | [], _ => rfl
                      | [_], _ => rfl
                      | _ :: _ :: _, h => simp at h
                    subst hbf
                    have h0 := HF.out.drew
                    refine wp_region_held_drew (S := fun w' => Below w3.heap.size w3 w') (by kernel_rfl) h0 (fun hHeld => ?_)
                    refine take_op 0 (some 72) (Op.move ( .tmp 10)) 3 ?_ (by kernel_rfl) (by kernel_rfl) (by kernel_rfl) (by kernel_rfl) (by kernel_rfl) (fun _ _ _ h => h) ?_ (by assumption) ?_
                    rotate_left
                    · intro w hSw; (try dsimp only at hSw); go_simp; (try (with_reducible rfl))
                    try simp only [Act.put, List.setIfInBounds_toArray, List.set_cons_zero, List.set_cons_succ]
                    refine take_op 1 (some 73) (Op.binOp BinOp.add 3 ( .tmp 72) ( .const (.int .i64 2)) 3) 3 ?_ (by kernel_rfl) (by kernel_rfl) (by kernel_rfl) (by kernel_rfl) (by kernel_rfl) (fun _ _ _ h => h) ?_ (by assumption) ?_
                    rotate_left
                    · intro w hSw; (try dsimp only at hSw); go_simp; (try (with_reducible rfl))
                    try simp only [Act.put, List.setIfInBounds_toArray, List.set_cons_zero, List.set_cons_succ]
                    refine take_op 2 (some 74) (Op.move ( .tmp 4)) 9 ?_ (by kernel_rfl) (by kernel_rfl) (by kernel_rfl) (by kernel_rfl) (by kernel_rfl) (fun _ _ _ h => h) ?_ (by assumption) ?_
                    rotate_left
                    · intro w hSw; (try dsimp only at hSw); go_simp; (try (with_reducible rfl))
                    try simp only [Act.put, List.setIfInBounds_toArray, List.set_cons_zero, List.set_cons_succ]
                    refine take_op 3 (some 75) (Op.call { callee := .builtin .len, args := #[.tmp 74], argTypes := #[9] }) 3 ?_ (by kernel_rfl) (by kernel_rfl) (by kernel_rfl) (by kernel_rfl) (by kernel_rfl) (fun _ _ _ h => h) ?_ (by assumption) ?_
                    rotate_left
                    · intro w hSw; (try dsimp only at hSw); go_simp; (try (with_reducible rfl))
                    try simp only [Act.put, List.setIfInBounds_toArray, List.set_cons_zero, List.set_cons_succ]
                    refine take_op 4 (some 76) (Op.binOp BinOp.leq 3 ( .tmp 73) ( .tmp 75) 3) 4 ?_ (by kernel_rfl) (by kernel_rfl) (by kernel_rfl) (by kernel_rfl) (by kernel_rfl) (fun _ _ _ h => h) ?_ (by assumption) ?_
                    rotate_left
                    · intro w hSw; (try dsimp only at hSw); go_simp; (try (with_reducible rfl))
                    try simp only [Act.put, List.setIfInBounds_toArray, List.set_cons_zero, List.set_cons_succ]
                    refine take_op 5 (some 77) (Op.move ( .tmp 76)) 4 ?_ (by kernel_rfl) (by kernel_rfl) (by kernel_rfl) (by kernel_rfl) (by kernel_rfl) (fun _ _ _ h => h) ?_ (by assumption) ?_
                    rotate_left
                    · intro w hSw; (try dsimp only at hSw); go_simp; (try (with_reducible rfl))
                    try simp only [Act.put, List.setIfInBounds_toArray, List.set_cons_zero, List.set_cons_succ]
                    refine skip_op 6 (some 78) (by kernel_rfl) (by kernel_rfl) (by kernel_rfl) (by kernel_rfl) (by kernel_rfl) (fun _ _ _ h => h) (by assumption) ?_
                    try simp only [Act.put, List.setIfInBounds_toArray, List.set_cons_zero, List.set_cons_succ]
                    refine skip_op 7 (some 79) (by kernel_rfl) (by kernel_rfl) (by kernel_rfl) (by kernel_rfl) (by kernel_rfl) (fun _ _ _ h => h) (by assumption) ?_
                    try simp only [Act.put, List.setIfInBounds_toArray, List.set_cons_zero, List.set_cons_succ]
                    refine skip_op 8 (some 80) (by kernel_rfl) (by kernel_rfl) (by kernel_rfl) (by kernel_rfl) (by kernel_rfl) (fun _ _ _ h => h) (by assumption) ?_
                    try simp only [Act.put, List.setIfInBounds_toArray, List.set_cons_zero, List.set_cons_succ]
                    refine skip_op 9 (some 81) (by kernel_rfl) (by kernel_rfl) (by kernel_rfl) (by kernel_rfl) (by kernel_rfl) (fun _ _ _ h => h) (by assumption) ?_
                    try simp only [Act.put, List.setIfInBounds_toArray, List.set_cons_zero, List.set_cons_succ]
                    refine skip_op 10 (some 82) (by kernel_rfl) (by kernel_rfl) (by kernel_rfl) (by kernel_rfl) (by kernel_rfl) (fun _ _ _ h => h) (by assumption) ?_
                    try simp only [Act.put, List.setIfInBounds_toArray, List.set_cons_zero, List.set_cons_succ]
                    refine skip_op 11 (some 83) (by kernel_rfl) (by kernel_rfl) (by kernel_rfl) (by kernel_rfl) (by kernel_rfl) (fun _ _ _ h => h) (by assumption) ?_
                    try simp only [Act.put, List.setIfInBounds_toArray, List.set_cons_zero, List.set_cons_succ]
                    refine skip_op 12 (some 84) (by kernel_rfl) (by kernel_rfl) (by kernel_rfl) (by kernel_rfl) (by kernel_rfl) (fun _ _ _ h => h) (by assumption) ?_
                    try simp only [Act.put, List.setIfInBounds_toArray, List.set_cons_zero, List.set_cons_succ]
                    refine skip_op 13 (some 85) (by kernel_rfl) (by kernel_rfl) (by kernel_rfl) (by kernel_rfl) (by kernel_rfl) (fun _ _ _ h => h) (by assumption) ?_
                    try simp only [Act.put, List.setIfInBounds_toArray, List.set_cons_zero, List.set_cons_succ]
                    refine take_op 14 (some 86) (Op.pick ( .tmp 77) ( .tmp 85) ( .const (Value.bool false))) 4 ?_ (by kernel_rfl) (by kernel_rfl) (by kernel_rfl) (by kernel_rfl) (by kernel_rfl) (fun _ _ _ h => h) ?_ (by assumption) ?_
                    rotate_left
                    · intro w hSw; (try dsimp only at hSw); go_simp; (try (with_reducible rfl))
                    try simp only [Act.put, List.setIfInBounds_toArray, List.set_cons_zero, List.set_cons_succ]
                    refine take_op 15 (some 12) (Op.assign ( .tmp 86)) 4 ?_ (by kernel_rfl) (by kernel_rfl) (by kernel_rfl) (by kernel_rfl) (by kernel_rfl) (fun _ _ _ h => h) ?_ (by assumption) ?_
                    rotate_left
                    · intro w hSw; (try dsimp only at hSw); go_simp; (try (with_reducible rfl))
                    try simp only [Act.put, List.setIfInBounds_toArray, List.set_cons_zero, List.set_cons_succ]
                    refine wpAnyH_done (by kernel_rfl) ?_ _
                    rename_i hHeld
                    go_wp2_with fail
                    go_meet
                    exact ⟨rfl, by assumption⟩
                case rest =>
                  obtain ⟨rfl, hbc⟩ := hcut
                  have HBC := Lib.hid hbc
                  have HBW2 := Lib.hid (HB3.out.trans (hbc.mono HB3.out.size))
                  obtain ⟨g', hg', c0, c1, c2, c3⟩ := (HR.out.below hbc) k' _ HTK.out
                  simp only [Option.some.injEq, Addr.mk.injEq, and_true] at hg'
                  subst hg'
                  dsimp only at c0 c1 c3
                  rw [HKP.out.1] at c0
                  rw [HKP.out.2] at c3
                  clear c2 hbc
                  cases b with
                  | true =>
                    have hsn : signN (x.drop q) = 2 := by simp [signN, HTW.out]
                    have hq2 : q + 2 ≤ N := by
                      have h := HTW.out
                      have : 2 ≤ (x.drop q).length := by
                        match x.drop q, h with
                        | _ :: _ :: _, _ => simp
                      rw [List.length_drop, HN.out] at this
                      omega
                    have he : (mk x).extract q (q + 2) = mk tx := by
                      rw [HTX.out, hsn, mk_extract, List.take_drop, Nat.add_comm]
                    have HC2 : Hid (SignChain (q + 2) (x.drop (q + 2)) (ts.drop (k' + 1))) := Lib.hid (by
                      have h := HCH2.out
                      rw [hsn, List.drop_drop] at h
                      exact h)
                    have b1 : (0 : Int) ≤ (q : Int) := by omega
                    have b2 : (q : Int) ≤ (q : Int) + 2 := by omega
                    have b3 : (q : Int) + 2 ≤ (N : Int) := by omega
                    have b4 : ((q : Int) + 2).toNat = q + 2 := by omega
                    clear hsn
                    go_wp2_with fail
                    go_quiet (fail)
                    go_wp2_with fail
                    exact ⟨⟨q + 2, k' + 1, by omega, hq2, by go_num, by go_num, Lib.hid (below_drew HBC.out nq), HC2⟩, by simp [intOf]; omega⟩
                  | false =>
                    have hsn : signN (x.drop q) = 1 := by simp [signN, HTW.out]
                    have he : (mk x).extract q (q + 1) = mk tx := by
                      rw [HTX.out, hsn, mk_extract, List.take_drop, Nat.add_comm]
                    have HC2 : Hid (SignChain (q + 1) (x.drop (q + 1)) (ts.drop (k' + 1))) := Lib.hid (by
                      have h := HCH2.out
                      rw [hsn, List.drop_drop] at h
                      exact h)
                    have b1 : (0 : Int) ≤ (q : Int) := by omega
                    have b2 : (q : Int) ≤ (q : Int) + 1 := by omega
                    have b3 : (q : Int) + 1 ≤ (N : Int) := by omega
                    have b4 : ((q : Int) + 1).toNat = q + 1 := by omega
                    have w2 : IntKind.i64.wrap ((q : Int) + 1) = (q : Int) + 1 := by
                      rw [IntKind.wrap_i64]
                      omega
                    clear hsn
                    go_wp2_with fail
                    go_quiet (fail)
                    go_wp2_with fail
                    exact ⟨⟨q + 1, k' + 1, by omega, hqN2, by go_num, by go_num, Lib.hid (below_drew HBC.out nq), HC2⟩, by simp [intOf]; omega⟩
          · obtain ⟨c, hc⟩ : ∃ c, x[j]? = some c := ⟨_, List.getElem?_eq_getElem (by rw [HN.out]; omega)⟩
            obtain ⟨d, hd⟩ : ∃ d, x[j + 1]? = some d := ⟨_, List.getElem?_eq_getElem (by rw [HN.out]; omega)⟩
            have HOP := Lib.hid (opens_at hc hd)
            have hjl : j < (mk x).size := by omega
            have hjl2 : j + 1 < (mk x).size := by omega
            have hcv : (mk x)[j] = c := Option.some.inj ((mk_get x j hjl).symm.trans hc)
            have hdv : (mk x)[j + 1] = d := Option.some.inj ((mk_get x (j + 1) hjl2).symm.trans hd)
            have HCV := Lib.hid hcv
            have HDV := Lib.hid hdv
            clear hc hd hcv hdv
            have next : opens (x.drop j) = false → ∀ i, i < j + 1 → opens (x.drop i) = false := fun h i hi => by
              rcases Nat.lt_or_ge i j with h1 | h1
              · exact HNO.out i h1
              · obtain rfl : i = j := by omega
                exact h
            have NEXT := Lib.hid next
            clear next
            go_wp2_with fail
            · refine (works_any _ (Lib.hid (hT.out.below HB1.out))).mono ?_
              rintro e w5 ⟨rfl, hb5⟩
              have HB5 := Lib.hid hb5
              clear hb5
              go_wp2_with fail
              go_ret
              exact ⟨rfl, HB1.out.trans (HB5.out.mono HB1.out.size)⟩
            · rename_i g1 g2
              refine ⟨⟨j + 1, by omega, by go_num, trivial, Lib.hid (NEXT.out ?_)⟩, by simp [intOf]; omega⟩
              rw [HOP.out]
              have : d ≠ 42 := by
                intro e
                rw [← HDV.out] at e
                rw [e] at g2
                simp at g2
              simp [this]
            · rename_i g1
              refine ⟨⟨j + 1, by omega, by go_num, trivial, Lib.hid (NEXT.out ?_)⟩, by simp [intOf]; omega⟩
              rw [HOP.out]
              have : c ≠ 40 := by
                intro e
                rw [← HCV.out] at e
                rw [e] at g1
                simp at g1
              simp [this]
      · obtain ⟨c, hc⟩ : ∃ c, l[k]? = some c := ⟨_, List.getElem?_eq_getElem (by rw [hl.out]; omega)⟩
        obtain ⟨b, off, rfl, e0⟩ := (hS.out.below HB1.out) k c hc
        have hv := c.toNat_lt
        obtain ⟨v, hv2⟩ : ∃ v, c.toNat = v := ⟨_, rfl⟩
        rw [hv2] at e0 hv
        obtain ⟨j, hj⟩ : ∃ j, v % 22 = j := ⟨_, rfl⟩
        have hj2 : j < 22 := by omega
        obtain ⟨y, hy⟩ : ∃ y, signs[j]? = some y := ⟨_, List.getElem?_eq_getElem (by show j < 22; exact hj2)⟩
        have e2 := HSG.out j y hy
        rw [Nat.zero_add] at e2
        have hxs : (mk x).size ≤ 400 := by rw [mk_size]; omega
        have hyc := sign_chars y (List.mem_of_getElem? hy)
        have hys : (mk y).size ≤ 2 := by rw [mk_size]; exact hyc.1
        have HY := Lib.hid hyc
        clear hc hv2 hyc
        go_wp2_with fail
        refine ⟨⟨k + 1, x ++ y, by omega, by go_num, by rw [mk_append], trivial, by have := HY.out.1; rw [List.length_append]; omega, Lib.hid fun d hd => ?_⟩, by simp [intOf]; omega⟩
        rcases List.mem_append.1 hd with h | h
        · exact HX.out d h
        · exact HY.out.2 d h
end Go.Proofs.YtcaejcbmkiacmaaDoor
