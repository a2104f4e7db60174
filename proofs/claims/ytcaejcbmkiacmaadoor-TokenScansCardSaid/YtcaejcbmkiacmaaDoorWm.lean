/- Text: a token, as it is written. -/
import Derived.Test.YtcaejcbmkiacmaaDoorWl
namespace Go.Proofs.YtcaejcbmkiacmaaDoor
open Go.RowKit

theorem own_app {w : World} {b : Nat} {v : Value} {l l2 : Bs} {n m : Nat} {news : List Value} (h : w.ownsRow b 5 1 v (n + m) (bytesV l ++ news)) (hn : l.length = n) (hm : l2.length = m) (h2 : bytesV l2 = news) : w.ownsRow b 5 1 v (l ++ l2).length (bytesV (l ++ l2)) := by
  rw [List.length_append, hn, hm]
  have e : bytesV (l ++ l2) = bytesV l ++ news := by rw [← h2]; simp [bytesV]
  rw [e]
  exact h
def escC (c : UInt8) : Bs := if c = 10 then [92, 110] else if c = 34 ∨ c = 92 then [92, c] else [c]
theorem escL_snoc (l : Bs) (c : UInt8) : escL (l ++ [c]) = escL l ++ escC c := by simp [escL, escC]
theorem escL_len : ∀ (l : Bs), (escL l).length ≤ 2 * l.length
  | [] => Nat.le_refl _
  | c :: r => by
    have h : escL (c :: r) = escC c ++ escL r := rfl
    have h1 := escL_len r
    have h2 : (escC c).length ≤ 2 := by
      unfold escC
      split
      · exact Nat.le_refl _
      · split <;> simp
    rw [h, List.length_append, List.length_cons]
    omega
set_option maxHeartbeats 2000000 in
theorem text_any2 (t : Tok) (hW : Hid (Writ t)) (hlen : t.text.length ≤ 65536) (w : World) :
    Calls Tryd.prog 17 #[.agg #[.int .u8 t.kind, .string (mk t.text), .int .i64 t.num, .int .i64 t.pos]] w fun e w' => e = .returned (.string (mk (wr t))) ∧ Below w.heap.size w w' := by
  obtain ⟨kd, tx, nm, ps⟩ := t
  dsimp only at hlen ⊢
  have hb0 := Lib.hid (below_alloc w (.cells #[.int .u8 kd, .string (mk tx), .int .i64 nm, .int .i64 ps] 34))
  rcases hW.out with ⟨h4, h5, _, _⟩ | ⟨h4, htx, hnm⟩ | ⟨h5, hnm, hpr⟩
  · dsimp only at h4 h5
    have e : wr ⟨kd, tx, nm, ps⟩ = tx := by simp [wr, h4, h5]
    rw [e]
    clear e
    go_enter Tryd.func17, Tryd.ntmps17
    go_wp2_with fail
    go_ret
    exact ⟨rfl, hb0.out⟩
  · dsimp only at h4 htx hnm
    subst h4 htx
    have e : wr ⟨4, [], nm, ps⟩ = digitsL nm := by simp [wr]
    rw [e]
    clear e
    go_enter Tryd.func17, Tryd.ntmps17
    go_wp2_with fail
    refine (digits_any (nm + 1) nm (by omega) hnm _).mono ?_
    rintro e w1 ⟨rfl, m, rfl⟩
    go_wp2_with fail
    go_ret
    exact ⟨rfl, below_drew hb0.out m⟩
  · dsimp only at h5 hnm hpr
    subst h5 hnm
    have e : wr ⟨5, tx, 0, ps⟩ = 34 :: (escL tx ++ [34]) := by simp [wr]
    rw [e]
    clear e
    obtain ⟨N, hN⟩ : ∃ N, (mk tx).size = N := ⟨_, rfl⟩
    have HN : Hid (tx.length = N) := Lib.hid (by rw [← hN, mk_size])
    have hNl : N ≤ 65536 := by rw [← HN.out]; exact hlen
    have HP := Lib.hid hpr
    clear hpr hlen
    obtain ⟨i0, hi, hz0, hz1, hz2⟩ := info5
    have HI := Lib.hid (And.intro hi (And.intro hz0 (And.intro hz1 hz2)))
    clear hi hz0 hz1 hz2
    show Calls Tryd.prog 17 #[.agg #[.int .u8 5, .string (mk tx), .int .i64 0, .int .i64 ps]] w _
    go_enter Tryd.func17, Tryd.ntmps17
    go_wp2_with fail
    obtain ⟨wb, hwb⟩ : ∃ wb, wb = w.alloc (.cells #[.int .u8 5, .string (mk tx), .int .i64 0, .int .i64 ps] 34) := ⟨_, rfl⟩
    have hcell : wb.cell? ⟨w.heap.size, 1, none⟩ = some (.string (mk tx)) := by
      rw [hwb]
      exact (tokRow_of (last_block w _)).2.1
    have hsz : wb.heap.size = w.heap.size + 1 := by rw [hwb]; simp
    have hb0' : Hid (Below w.heap.size w wb) := by rw [hwb]; exact hb0
    rw [← hwb]
    have h0 : (wb.alloc (.cells #[.int .u8 34] 5)).ownsRow wb.heap.size 5 1 (.slice (some ⟨w.heap.size + 1, 0, none⟩) 1 1) 1 (bytesV [34]) :=
      ⟨rfl, .inr ⟨w.heap.size + 1, 1, #[.int .u8 34], rfl, by omega, by rw [← hsz]; exact last_block wb _, Nat.le_refl _, by decide, rfl, rfl⟩⟩
    have H0 := Lib.hid h0
    have HCELL := Lib.hid hcell
    clear hwb hb0 h0 hcell
    generalize w.heap.size + 1 = g1 at H0
    go_loopw [3, 4] (fun v i wr => ∃ (k : Nat), k ≤ N ∧ i = .int .i64 k ∧ Hid (wr.ownsRow wb.heap.size 5 1 v (34 :: escL (tx.take k)).length (bytesV (34 :: escL (tx.take k)))) ∧ Hid (Below wb.heap.size wb wr)) (fun _ i _ => N - (intOf i).toNat)
    case atStart => exact ⟨0, Nat.zero_le _, rfl, H0, Lib.hid (below_alloc wb _)⟩
    case round =>
      obtain ⟨k, hk, rfl, HO, HF⟩ := hrel
      have cc : wr.cell? ⟨w.heap.size, 1, none⟩ = some (.string (mk tx)) := (HF.out.cell (cell_lt HCELL.out)).trans HCELL.out
      obtain ⟨q, hq⟩ : ∃ q, (34 :: escL (tx.take k)).length = q := ⟨_, rfl⟩
      have hqm : q ≤ 262144 := by
        rw [← hq, List.length_cons]
        have := escL_len (tx.take k)
        rw [List.length_take] at this
        omega
      obtain ⟨L, hL⟩ : ∃ L, 34 :: escL (tx.take k) = L := ⟨_, rfl⟩
      rw [hL] at hq HO
      rw [hq] at HO
      have HL := Lib.hid hL
      have HQ := Lib.hid hq
      clear hL hq
      have hmax : q + 2 ≤ maxLen := by unfold maxLen; omega
      by_cases hkn : k = N
      · subst hkn
        go_wp2_with (at_builtin; refine wpList_append_own_at _ rfl _ _ 22 rfl wb.heap.size 5 i0 (.int .u8 0) 1 1 Tryd.underlying22 HI.out.1 HI.out.2.1 HI.out.2.2.1 HI.out.2.2.2 rfl (by decide) _ _ _ rfl (HO.out.alloc _) ⟨wr.heap.size, 0, none⟩ 1 1 [.int .u8 34] rfl rfl (tok_cells _ _ _ _ rfl) (bytesV_one [34]) (by omega) (by omega) (Nat.le_trans HF.out.size (by simp)) ?_; intro v' w6 hown6 hgrow6 _ _; obtain ⟨a6, cap6, rfl, hs6, _, _⟩ := srcAt_own (own_app (l2 := [34]) hown6 HQ.out rfl rfl); have hcv : (convert 22 9 (.slice a6 (L.length + 1) cap6)).run Tryd.prog w6 = .ok (.string (mk (L ++ [34]))) w6 := (by have h := hs6.spells _ cap6 rfl 9 Tryd.underlying9; rwa [List.length_append] at h))
        go_wp2_with fail
        have hg2 : (wr.alloc (.cells #[.int .u8 34] 5)).grownBy w6 u3.ownBlock := hgrow6
        have hB6 := below_grown2 (HF.out.alloc HF.out.size (.cells #[.int .u8 34] 5)) (Nat.le_refl _) (HO.out.alloc _) hg2
        go_ret
        refine ⟨?_, hb0'.out.trans (hB6.mono hb0'.out.size)⟩
        have e : L ++ [34] = 34 :: (escL tx ++ [34]) := by
          rw [← HL.out, ← HN.out, List.take_length]
          rfl
        rw [e]
        rfl
      · obtain ⟨c, hc⟩ : ∃ c, tx[k]? = some c := ⟨_, List.getElem?_eq_getElem (by rw [HN.out]; omega)⟩
        have hks : k < (mk tx).size := by omega
        have hcx : (mk tx)[k] = c := Option.some.inj ((mk_get tx k hks).symm.trans hc)
        have HX := Lib.hid hc
        have hp := HP.out c (List.mem_of_getElem? hc)
        obtain ⟨v, hv⟩ : ∃ v, c.toNat = v := ⟨_, rfl⟩
        have HV := Lib.hid hv
        have hk2 : (k : Int) < (N : Int) := by omega
        have hp2 : v = 10 ∨ (32 ≤ v ∧ v ≤ 126) := by
          rcases hp with h | h
          · left
            rw [← hv, h]
            rfl
          · right
            rw [← hv]
            exact h
        have hcv : ∀ n : Nat, n < 256 → (v = n ↔ c = UInt8.ofNat n) := fun n hn => by
          rw [← hv]
          constructor
          · intro h
            rw [← h]
            simp
          · intro h
            rw [h]
            simp
            omega
        have HCV := Lib.hid hcv
        clear hc hp hcv
        by_cases h10 : v = 10
        · have hc10 : c = 10 := (HCV.out 10 (by decide)).1 h10
          have HC := Lib.hid hc10
          subst h10
          clear hc10
          go_wp2_with (at_builtin; refine wpList_append_own_at _ rfl _ _ 22 rfl wb.heap.size 5 i0 (.int .u8 0) 1 1 Tryd.underlying22 HI.out.1 HI.out.2.1 HI.out.2.2.1 HI.out.2.2.2 rfl (by decide) _ _ _ rfl (HO.out.alloc _) ⟨wr.heap.size, 0, none⟩ 2 2 [.int .u8 92, .int .u8 110] rfl rfl (tok_cells _ _ _ _ rfl) (by simp [Value.oneCell']) (by omega) (by omega) (Nat.le_trans HF.out.size (by simp)) ?_; intro v' w6 hown6 hgrow6 _ _)
          have hg2 : (wr.alloc (.cells ([.int .u8 92, .int .u8 110] : List Value).toArray 5)).grownBy w6 u3.ownBlock := hgrow6
          have hown7 := own_app (l2 := [92, 110]) hown6 HQ.out rfl (by simp [bytesV, HV.out])
          have hB6 := below_grown2 (HF.out.alloc HF.out.size (.cells ([.int .u8 92, .int .u8 110] : List Value).toArray 5)) (Nat.le_refl _) (HO.out.alloc _) hg2
          have hL2 : 34 :: escL (tx.take (k + 1)) = L ++ [92, 110] := by
            rw [List.take_add_one, HX.out, Option.toList_some, escL_snoc, ← HL.out]
            simp [escC, HC.out]
          refine ⟨⟨k + 1, by omega, by go_num, Lib.hid ?_, Lib.hid hB6⟩, by simp [intOf]; omega⟩
          rw [hL2]
          exact hown7
        · by_cases h34 : v = 34 ∨ v = 92
          · have hc34 : c ≠ 10 ∧ (c = 34 ∨ c = 92) := ⟨fun e => h10 ((HCV.out 10 (by decide)).2 e), h34.imp (fun e => (HCV.out 34 (by decide)).1 e) (fun e => (HCV.out 92 (by decide)).1 e)⟩
            have HC := Lib.hid hc34
            clear hc34 hp2
            rcases h34 with rfl | rfl
            · go_wp2_with (at_builtin; refine wpList_append_own_at _ rfl _ _ 22 rfl wb.heap.size 5 i0 (.int .u8 0) 1 1 Tryd.underlying22 HI.out.1 HI.out.2.1 HI.out.2.2.1 HI.out.2.2.2 rfl (by decide) _ _ _ rfl (HO.out.alloc _) ⟨wr.heap.size, 0, none⟩ 2 2 [.int .u8 92, .int .u8 34] rfl rfl (tok_cells _ _ _ _ rfl) (by simp [Value.oneCell']) (by omega) (by omega) (Nat.le_trans HF.out.size (by simp)) ?_; intro v' w6 hown6 hgrow6 _ _)
              have hg2 : (wr.alloc (.cells ([.int .u8 92, .int .u8 34] : List Value).toArray 5)).grownBy w6 u3.ownBlock := hgrow6
              have hown7 := own_app (l2 := [92, c]) hown6 HQ.out rfl (by simp [bytesV, HV.out])
              have hB6 := below_grown2 (HF.out.alloc HF.out.size (.cells ([.int .u8 92, .int .u8 34] : List Value).toArray 5)) (Nat.le_refl _) (HO.out.alloc _) hg2
              have hL2 : 34 :: escL (tx.take (k + 1)) = L ++ [92, c] := by
                rw [List.take_add_one, HX.out, Option.toList_some, escL_snoc, ← HL.out]
                simp [escC, HC.out.1, HC.out.2]
              refine ⟨⟨k + 1, by omega, by go_num, Lib.hid ?_, Lib.hid hB6⟩, by simp [intOf]; omega⟩
              rw [hL2]
              exact hown7
            · go_wp2_with (at_builtin; refine wpList_append_own_at _ rfl _ _ 22 rfl wb.heap.size 5 i0 (.int .u8 0) 1 1 Tryd.underlying22 HI.out.1 HI.out.2.1 HI.out.2.2.1 HI.out.2.2.2 rfl (by decide) _ _ _ rfl (HO.out.alloc _) ⟨wr.heap.size, 0, none⟩ 2 2 [.int .u8 92, .int .u8 92] rfl rfl (tok_cells _ _ _ _ rfl) (by simp [Value.oneCell']) (by omega) (by omega) (Nat.le_trans HF.out.size (by simp)) ?_; intro v' w6 hown6 hgrow6 _ _)
              have hg2 : (wr.alloc (.cells ([.int .u8 92, .int .u8 92] : List Value).toArray 5)).grownBy w6 u3.ownBlock := hgrow6
              have hown7 := own_app (l2 := [92, c]) hown6 HQ.out rfl (by simp [bytesV, HV.out])
              have hB6 := below_grown2 (HF.out.alloc HF.out.size (.cells ([.int .u8 92, .int .u8 92] : List Value).toArray 5)) (Nat.le_refl _) (HO.out.alloc _) hg2
              have hL2 : 34 :: escL (tx.take (k + 1)) = L ++ [92, c] := by
                rw [List.take_add_one, HX.out, Option.toList_some, escL_snoc, ← HL.out]
                simp [escC, HC.out.1, HC.out.2]
              refine ⟨⟨k + 1, by omega, by go_num, Lib.hid ?_, Lib.hid hB6⟩, by simp [intOf]; omega⟩
              rw [hL2]
              exact hown7
          · have hc34 : c ≠ 10 ∧ ¬ (c = 34 ∨ c = 92) := ⟨fun e => h10 ((HCV.out 10 (by decide)).2 e), fun h => h34 (h.imp (fun e => (HCV.out 34 (by decide)).2 e) (fun e => (HCV.out 92 (by decide)).2 e))⟩
            have HC := Lib.hid hc34
            have h32 : 32 ≤ v := by omega
            have h126 : v ≤ 126 := by omega
            have h34a : v ≠ 34 := fun e => h34 (.inl e)
            have h34b : v ≠ 92 := fun e => h34 (.inr e)
            have qa : ((v : Int) == 34) = false := by
              simp only [beq_eq_false_iff_ne, ne_eq]
              omega
            have qb : ((v : Int) == 92) = false := by
              simp only [beq_eq_false_iff_ne, ne_eq]
              omega
            clear hc34 hp2 h34
            go_wp2_with (at_builtin; refine wpList_append_own_at _ rfl _ _ 22 rfl wb.heap.size 5 i0 (.int .u8 0) 1 1 Tryd.underlying22 HI.out.1 HI.out.2.1 HI.out.2.2.1 HI.out.2.2.2 rfl (by decide) _ _ _ rfl (HO.out.alloc _) ⟨wr.heap.size, 0, none⟩ 1 1 [.int .u8 v] rfl rfl (tok_cells _ _ _ _ rfl) (by simp [Value.oneCell']) (by omega) (by omega) (Nat.le_trans HF.out.size (by simp)) ?_; intro v' w6 hown6 hgrow6 _ _)
            have hg2 : (wr.alloc (.cells ([.int .u8 v] : List Value).toArray 5)).grownBy w6 u3.ownBlock := hgrow6
            have hown7 := own_app (l2 := [c]) hown6 HQ.out rfl (by simp [bytesV, HV.out])
            have hB6 := below_grown2 (HF.out.alloc HF.out.size (.cells ([.int .u8 v] : List Value).toArray 5)) (Nat.le_refl _) (HO.out.alloc _) hg2
            have hL2 : 34 :: escL (tx.take (k + 1)) = L ++ [c] := by
              rw [List.take_add_one, HX.out, Option.toList_some, escL_snoc, ← HL.out]
              simp [escC, HC.out.1, HC.out.2]
            refine ⟨⟨k + 1, by omega, by go_num, Lib.hid ?_, Lib.hid hB6⟩, by simp [intOf]; omega⟩
            rw [hL2]
            exact hown7
end Go.Proofs.YtcaejcbmkiacmaaDoor
