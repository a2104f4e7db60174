/- The document's Scan. -/
import Derived.Test.YtcaejcbmkiacmaaDoorRf
namespace Go.Proofs.YtcaejcbmkiacmaaDoor
open Go.RowKit

theorem sc_none {l : Bs} {q : Nat} {done : List Tok} (h : ScInv l q done) (hb : blank (l.drop q) = none) : scanL 0 l = .error q := by
  unfold ScInv at h
  rw [h, scanL_none hb]
  rfl
theorem sc_blank {l : Bs} {q k : Nat} {done : List Tok} (h : ScInv l q done) (hb : blank (l.drop q) = some (k + 1)) : ScInv l (q + (k + 1)) done := by
  unfold ScInv at h ⊢
  rw [h, scanL_blank hb, List.drop_drop]
theorem sc_end {l : Bs} {q : Nat} {done : List Tok} (h : ScInv l q done) (hq : l.length ≤ q) : scanL 0 l = .ok done := by
  unfold ScInv at h
  rw [h, List.drop_eq_nil_of_le hq, scanL_nil]
  simp [Except.map]
theorem sc_no {l : Bs} {q : Nat} {done : List Tok} (h : ScInv l q done) (hb : blank (l.drop q) = some 0) (h0 : l.drop q ≠ []) (ht : tokT (l.drop q) = none) : scanL 0 l = .error q := by
  unfold ScInv at h
  rw [h, scanL_no hb h0 ht]
  rfl
theorem sc_tok {l : Bs} {q n : Nat} {done : List Tok} {t : Tok} (h : ScInv l q done) (hb : blank (l.drop q) = some 0) (ht : tokT (l.drop q) = some (t, n)) : ScInv l (q + n) (done ++ [{ t with pos := q }]) := by
  unfold ScInv at h ⊢
  rw [h, scanL_tok hb ht, List.drop_drop]
  cases scanL (q + n) (l.drop (q + n)) <;> simp [Except.map]
set_option maxHeartbeats 2000000 in
theorem rscan_any (l : Bs) (a : Option Addr) (n cap : Nat) (w : World) (hn : n ≤ 1099511627776) (hl : Hid (l.length = n)) (hcv : Hid (Spells (.slice a n cap) (mk l) w)) :
    Calls Tryd.prog 12 #[.slice a n cap] w (ScanSaid w (scanR l)) := by
  obtain ⟨R, hR⟩ : ∃ R, scanR l = R := ⟨_, rfl⟩
  rw [hR]
  unfold scanR at hR
  rw [hl.out] at hR
  have HR := Lib.hid hR
  clear hR
  go_enter Tryd.func12, Tryd.ntmps12
  by_cases hbig : 16384 < n
  · go_wp2_with fail
    go_ret3
    have h := HR.out
    rw [if_pos hbig] at h
    subst h
    exact ⟨Below.refl _ _, rfl⟩
  · have h := HR.out
    rw [if_neg hbig] at h
    have HR2 := Lib.hid h
    clear h HR
    have hc9 := hcv.out 9 Tryd.underlying9
    have hsz : (mk l).size = n := by rw [mk_size, hl.out]
    go_wp2_with fail
    clear hc9
    go_loopw [6, 7] (fun v i wr => ∃ (q : Nat) (done : List Tok), q ≤ n ∧ done.length ≤ q ∧ i = .int .i64 q ∧ Hid (ScInv l q done) ∧ Hid (wr.ownsRow w.heap.size 34 4 v done.length (tokCells done)) ∧ Hid (Below w.heap.size w wr)) (fun _ i _ => n + 1 - (intOf i).toNat)
    case atStart => exact ⟨0, [], Nat.zero_le _, Nat.zero_le _, rfl, Lib.hid (scInv_zero l), Lib.hid ⟨rfl, .inl ⟨rfl, rfl⟩⟩, Lib.hid (Below.refl _ _)⟩
    case round =>
      obtain ⟨q, done, hq, hdl, rfl, HI, HO, HF⟩ := hrel
      by_cases hqn : q = n
      · go_wp2_with fail
        go_ret3
        have h := HR2.out
        rw [sc_end HI.out (by rw [hl.out]; omega)] at h
        subst h
        exact ⟨HF.out, u6, rfl, HO.out⟩
      · have HX : Hid ((mk l).extract q n = mk (l.drop q)) := Lib.hid (by rw [mk_drop l q n hl.out.symm])
        have hsz2 : ((mk l).extract q n).size = n - q := by rw [HX.out, mk_size, List.length_drop, hl.out]
        obtain ⟨c, r, hcr⟩ : ∃ c r, l.drop q = c :: r := by
          cases hd : l.drop q with
          | nil =>
            have := congrArg List.length hd
            rw [List.length_drop, hl.out] at this
            simp at this
            omega
          | cons c r => exact ⟨c, r, rfl⟩
        rw [hcr] at HX
        have hbl := fun w => rblank_any c r _ HX (n - q) (by omega) hsz2 w
        have hon := fun w => rone_any c r _ HX (n - q) (by omega) hsz2 w
        rw [← hcr] at hbl hon
        have HON := Lib.hid hon
        cases hb : blank (l.drop q) with
        | none =>
          have e : blankI (l.drop q) = -1 := by rw [blankI, hb]
          rw [e] at hbl
          have HBL := Lib.hid hbl
          have HB := Lib.hid hb
          clear hbl hon hb e hcr hsz2
          go_wp2_with fail
          refine (HBL.out _).mono ?_
          rintro e w1 ⟨rfl, rfl⟩
          go_wp2_with fail
          go_ret3
          have h := HR2.out
          rw [sc_none HI.out HB.out] at h
          subst h
          exact ⟨HF.out, rfl⟩
        | some k =>
          have e : blankI (l.drop q) = (k : Int) := by rw [blankI, hb]
          have hkl := blank_le hb
          rw [List.length_drop, hl.out] at hkl
          rw [e] at hbl
          have HBL := Lib.hid hbl
          have HB := Lib.hid hb
          have HCR := Lib.hid hcr
          clear hbl hon hb e hcr hsz2
          rcases Nat.eq_zero_or_pos k with rfl | hk0
          · go_wp2_with fail
            refine (HBL.out _).mono ?_
            rintro e w1 ⟨rfl, rfl⟩
            go_wp2_with fail
            refine (HON.out _).mono ?_
            rintro e w2 ⟨⟨kd, nm, ps, m, tx, rfl, hP⟩, hb2⟩
            have HP := Lib.hid hP
            have HB2 := Lib.hid (HF.out.trans (hb2.mono HF.out.size))
            have HO2 := Lib.hid (owns_below HO.out hb2)
            clear hP hb2
            rcases Nat.eq_zero_or_pos m with rfl | hm
            · go_wp2_with fail
              go_ret3
              have ht : tokT (l.drop q) = none := by
                rcases HP.out with h | ⟨t, h, _⟩
                · exact h.1
                · have := tokT_le h
                  omega
              have h := HR2.out
              rw [sc_no HI.out HB.out (by rw [HCR.out]; simp) ht] at h
              subst h
              exact ⟨keep_alloc HB2.out, rfl⟩
            · obtain ⟨t, ht, hkd, htx, hnm, hps⟩ : ∃ t : Tok, tokT (l.drop q) = some (t, m) ∧ kd = t.kind ∧ tx = mk t.text ∧ nm = t.num ∧ ps = t.pos := by
                rcases HP.out with h | h
                · exact absurd h.2 (by omega)
                · exact h
              have hml := (tokT_le ht).2
              rw [List.length_drop, hl.out] at hml
              have HTK := Lib.hid (And.intro ht (And.intro hkd (And.intro htx hnm)))
              obtain ⟨i0, hi, hz0, hz1, hz2⟩ := info34
              have HINF := Lib.hid (And.intro hi (And.intro hz0 (And.intro hz1 hz2)))
              clear hi hz0 hz1 hz2 ht hkd htx hnm hps HP
              go_wp2_with (at_builtin; refine wpList_append_own_at _ rfl _ _ 25 rfl w.heap.size 34 i0 (.agg #[.int .u8 0, .string ⟨#[]⟩, .int .i64 0, .int .i64 0]) 4 40 Tryd.underlying25 HINF.out.1 HINF.out.2.1 HINF.out.2.2.1 HINF.out.2.2.2 rfl (by decide) _ _ _ rfl ((HO2.out.alloc _).alloc _) ⟨w2.heap.size + 1, 0, none⟩ 1 1 [.int .u8 kd, .string tx, .int .i64 nm, .int .i64 (q : Int)] rfl rfl (tok_cells _ _ _ _ (by simp)) tok_ones (by unfold maxLen; omega) (by omega) (Nat.le_trans HB2.out.size (by simp; omega)) ?_; intro v' w5 hown' hgrow _ _)
              have hg2 : ((w2.alloc (.cells #[.int .u8 kd, .string tx, .int .i64 nm, .int .i64 (q : Int)] 34)).alloc (.cells #[.int .u8 kd, .string tx, .int .i64 nm, .int .i64 (q : Int)] 34)).grownBy w5 u6.ownBlock := hgrow
              have hB5 := below_grown ((HB2.out.alloc HB2.out.size (.cells #[.int .u8 kd, .string tx, .int .i64 nm, .int .i64 (q : Int)] 34)).alloc (HB2.out.alloc HB2.out.size _).size (.cells #[.int .u8 kd, .string tx, .int .i64 nm, .int .i64 (q : Int)] 34)) (Nat.le_refl _) ((HO2.out.alloc _).alloc _) hg2
              obtain ⟨ht, hkd, htx, hnm⟩ := HTK.out
              refine ⟨⟨q + m, done ++ [{ t with pos := q }], by omega, by simp only [List.length_append, List.length_cons, List.length_nil]; omega, rfl, Lib.hid (sc_tok HI.out HB.out ht), Lib.hid ?_, Lib.hid hB5⟩, by simp [intOf]; omega⟩
              have e : tokCells (done ++ [{ t with pos := q }]) = tokCells done ++ [.int .u8 kd, .string tx, .int .i64 nm, .int .i64 (q : Int)] := by
                simp [tokCells, tokA, hkd, htx, hnm]
              rw [e, List.length_append]
              exact hown'
          · go_wp2_with fail
            refine (HBL.out _).mono ?_
            rintro e w1 ⟨rfl, rfl⟩
            go_wp2_with fail
            refine ⟨⟨q + k, done, by omega, by omega, by go_num, Lib.hid ?_, HO, HF⟩, by simp [intOf]; omega⟩
            obtain ⟨k', rfl⟩ : ∃ k', k = k' + 1 := ⟨k - 1, by omega⟩
            exact sc_blank HI.out HB.out
end Go.Proofs.YtcaejcbmkiacmaaDoor
