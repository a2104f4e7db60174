/- TokenPlaces: the walk. -/
import Derived.Test.YtcaejcbmkiacmaaDoorWi
import Derived.Test.YtcaejcbmkiacmaaDoorPlacesPlain
namespace Go.Proofs.YtcaejcbmkiacmaaDoor
open Go.RowKit

theorem chain_last {src : Bs} {last : Nat} {ts : List Tok} (h : Chain src last ts) : last ≤ src.length := by
  cases ts with
  | nil => exact h
  | cons t r => exact Nat.le_trans h.1 (Nat.le_of_lt h.2.1)
theorem drop_tok {ts : List Tok} {k : Nat} {t : Tok} (h : ts[k]? = some t) : ts.drop k = t :: ts.drop (k + 1) := by
  obtain ⟨h1, h2⟩ := List.getElem?_eq_some_iff.1 h
  rw [List.drop_eq_getElem_cons h1, h2]
theorem extent_pos {src : Bs} {t : Tok} (h : GoodAt src t) : 1 ≤ extent t := by
  unfold extent
  rcases h with ⟨h1, h2, h3, h4⟩ | ⟨h1, h2, h3, h4⟩ | ⟨h1, h2, h3, h4⟩
  · rw [if_neg (by omega), if_neg (by omega)]
    exact h3
  · rw [if_pos h1]
    omega
  · rw [if_neg (by omega), if_pos h1]
    omega
theorem chain_len {src : Bs} : ∀ (ts : List Tok) (last : Nat), Chain src last ts → last + ts.length ≤ src.length
  | [], last, h => h
  | t :: r, last, h => by
    have h1 := chain_len r _ h.2.2.2
    have h2 := extent_pos h.2.2.1
    have h3 := h.1
    simp only [List.length_cons]
    omega
theorem src_cell {w : World} {b off : Nat} {l : Bs} {i : Nat} {x : UInt8} (h : SrcAt w (some ⟨b, off, none⟩) l) (hi : l[i]? = some x) : w.cell? ⟨b, off + i, none⟩ = some (.int .u8 (x.toNat : Nat)) := by
  obtain ⟨b', off', e1, e2⟩ := h i x hi
  simp only [Option.some.injEq, Addr.mk.injEq, and_true] at e1
  obtain ⟨rfl, rfl⟩ := e1
  exact e2
theorem below_drewN {B : Nat} {a w : World} (h : Below B a w) (n : Nat) : Below B a (w.drewN n) := h.trans ⟨rfl, rfl, rfl, Nat.le_refl _, fun _ _ => rfl⟩
def Done (w : World) (e : Ending) (w' : World) : Prop := e = .returned (.bool true) ∧ Below w.heap.size w w'
set_option maxHeartbeats 4000000 in
set_option maxRecDepth 100000 in
theorem places_any (l : Bs) (a : Option Addr) (n cap : Nat) (w : World) (hn : n ≤ cap) (hcap : cap ≤ maxLen) (hl : Hid (l.length = n)) (hS : Hid (SrcAt w a l)) (hT : Hid (Tables w)) :
    Calls Tryd.prog 6 #[.slice a n cap] w (Done w) := by
  go_enter Tryd.func6, Tryd.ntmps6
  by_cases hbig : 16384 < n
  · go_wp2_with fail
    refine (works_any w hT).mono ?_
    rintro e w1 ⟨rfl, hb⟩
    go_wp2_with fail
    go_ret
    exact ⟨rfl, hb⟩
  · go_wp2_with fail
    refine (scan_src l a n cap w (by omega) hl.out hS.out hT.out).mono ?_
    rintro e w1 ⟨hb1, h1⟩
    have HB1 := Lib.hid hb1
    have hsc : scanR l = scanL 0 l := by rw [scanR, if_neg (by rw [hl.out]; exact hbig)]
    rw [hsc] at h1
    cases hR : scanL 0 l with
    | error p =>
      rw [hR] at h1
      subst h1
      have hp := (error_of 0 l p hR).2
      rw [hl.out, Nat.zero_add] at hp
      clear hb1 hR hsc
      go_wp2_with fail
      refine (works_any w1 (Lib.hid (hT.out.below HB1.out))).mono ?_
      rintro e w2 ⟨rfl, hb⟩
      have HB2 := Lib.hid hb
      clear hb
      go_wp2_with fail
      go_ret
      exact ⟨rfl, HB1.out.trans (HB2.out.mono HB1.out.size)⟩
    | ok ts =>
      rw [hR] at h1
      obtain ⟨a1, cap1, rfl, hr1⟩ := h1
      have HC := Lib.hid (chain_src l ts hR)
      have HR := Lib.hid hr1
      obtain ⟨m, hm⟩ : ∃ m, ts.length = m := ⟨_, rfl⟩
      rw [hm]
      have HM := Lib.hid hm
      have hmn : m ≤ n := by
        have h := chain_len ts 0 HC.out
        rw [hl.out, hm] at h
        omega
      unfold maxLen at hcap
      clear hb1 hR hsc hr1 hm
      go_wp2_with fail
      go_loopw [6, 7] (fun la i wr => ∃ (last k : Nat), k ≤ m ∧ la = .int .i64 last ∧ i = .int .i64 k ∧ Hid (Chain l last (ts.drop k)) ∧ Hid (Below w.heap.size w wr) ∧ Hid (RowAt wr a1 ts)) (fun _ i _ => m - (intOf i).toNat)
      case atStart => exact ⟨0, 0, Nat.zero_le _, rfl, rfl, HC, HB1, HR⟩
      case round =>
        obtain ⟨last, k, hk, rfl, rfl, HCk, HF, HRk⟩ := hrel
        have hlast := chain_last HCk.out
        rw [hl.out] at hlast
        by_cases hkm : k = m
        · go_wp2_with fail
          refine (works_any _ (Lib.hid (hT.out.below HF.out))).mono ?_
          rintro e w2 ⟨rfl, hb⟩
          have HB2 := Lib.hid hb
          clear hb
          go_wp2_with fail
          go_ret
          exact ⟨rfl, HF.out.trans (HB2.out.mono HF.out.size)⟩
        · have hlt : k < ts.length := by rw [HM.out]; omega
          obtain ⟨t, ht⟩ : ∃ t, ts[k]? = some t := ⟨_, List.getElem?_eq_getElem hlt⟩
          obtain ⟨g, rfl, c0, c1, c2, c3⟩ := HRk.out k t ht
          have h := HCk.out
          rw [drop_tok ht] at h
          obtain ⟨hp1, hp2, hg, hch⟩ := h
          rw [hl.out] at hp2
          have HCH := Lib.hid hch
          have HG := Lib.hid hg
          clear hch hg ht
          obtain ⟨kd, tx, nm, ps⟩ := t
          dsimp only at c0 c1 c2 c3 hp1 hp2
          obtain ⟨x0, hx0⟩ : ∃ x, l[0]? = some x := ⟨_, List.getElem?_eq_getElem (by rw [hl.out]; omega)⟩
          obtain ⟨b, off, rfl, _⟩ := hS.out 0 x0 hx0
          clear hx0
          rcases HG.out with ⟨hkd, hnm, hs1, hs2, htx⟩ | ⟨hkd, htx, hnm, c, hc, hdc⟩ | ⟨hkd, hnm, hs2, hc⟩
          · dsimp only at hkd hnm hs1 hs2 htx
            subst hnm
            obtain ⟨s, hs⟩ : ∃ s, (mk tx).size = s := ⟨_, rfl⟩
            have hsl : tx.length = s := by rw [← hs, mk_size]
            rw [hl.out, hsl] at hs2
            rw [hsl] at hs1 htx
            have hcv : ∀ o j c', (convert 22 9 (.slice (some ⟨b, off + ps, none⟩) s c')).run Tryd.prog ((wr.alloc o).drewN j) = .ok (.string (mk tx)) ((wr.alloc o).drewN j) := by
              intro o j c'
              refine SrcAt.spells (l := tx) ?_ s c' hsl 9 Tryd.underlying9
              intro i x hi
              refine ⟨b, off + ps, rfl, ?_⟩
              rw [htx] at hi
              have hi2 : l[ps + i]? = some x := by
                rw [List.getElem?_take] at hi
                split at hi
                · rwa [List.getElem?_drop] at hi
                · cases hi
              obtain ⟨b', off', e1, e2⟩ := (hS.out.below (HF.out.alloc HF.out.size o)) (ps + i) x hi2
              simp only [Option.some.injEq, Addr.mk.injEq, and_true] at e1
              obtain ⟨rfl, rfl⟩ := e1
              rw [← Nat.add_assoc] at e2
              exact e2
            clear htx
            have b1 : (0 : Int) ≤ (ps : Int) := by omega
            have b2 : (ps : Int) ≤ (ps : Int) + (s : Int) := by omega
            have b3 : (ps : Int) + (s : Int) ≤ (cap : Int) := by omega
            have w1 : IntKind.i64.wrap ((ps : Int) + (s : Int)) = (ps : Int) + (s : Int) := by
              rw [IntKind.wrap_i64]
              omega
            have q1 : ((s : Int) == 0) = false := by
              simp only [beq_eq_false_iff_ne, ne_eq]
              omega
            have q2 : decide ((n : Int) < (ps : Int) + (s : Int)) = false := by
              simp only [decide_eq_false_iff_not]
              omega
            have q3 : ((ps : Int) + (s : Int)).toNat - ps = s := by omega
            have q4 : ¬ cap = ps := by omega
            rcases hkd with rfl | rfl | rfl | rfl | rfl
            · go_wp2_with fail
              go_quiet (fail)
              go_wp2_with fail
              have BW := below_drewN (below_alloc wr (.cells #[.int .u8 1, .string (mk tx), .int .i64 0, .int .i64 ps] 34)) nq
              exact ⟨⟨ps + s, k + 1, by omega, rfl, by go_num, Lib.hid (by have h := HCH.out; have e : extent ⟨1, tx, 0, ps⟩ = s := hsl; rw [e] at h; exact h), Lib.hid (HF.out.trans (BW.mono HF.out.size)), Lib.hid (HRk.out.below BW)⟩, by simp [intOf]; omega⟩
            · go_wp2_with fail
              go_quiet (fail)
              go_wp2_with fail
              have BW := below_drewN (below_alloc wr (.cells #[.int .u8 2, .string (mk tx), .int .i64 0, .int .i64 ps] 34)) nq
              exact ⟨⟨ps + s, k + 1, by omega, rfl, by go_num, Lib.hid (by have h := HCH.out; have e : extent ⟨2, tx, 0, ps⟩ = s := hsl; rw [e] at h; exact h), Lib.hid (HF.out.trans (BW.mono HF.out.size)), Lib.hid (HRk.out.below BW)⟩, by simp [intOf]; omega⟩
            · go_wp2_with fail
              go_quiet (fail)
              go_wp2_with fail
              have BW := below_drewN (below_alloc wr (.cells #[.int .u8 3, .string (mk tx), .int .i64 0, .int .i64 ps] 34)) nq
              exact ⟨⟨ps + s, k + 1, by omega, rfl, by go_num, Lib.hid (by have h := HCH.out; have e : extent ⟨3, tx, 0, ps⟩ = s := hsl; rw [e] at h; exact h), Lib.hid (HF.out.trans (BW.mono HF.out.size)), Lib.hid (HRk.out.below BW)⟩, by simp [intOf]; omega⟩
            · go_wp2_with fail
              go_quiet (fail)
              go_wp2_with fail
              have BW := below_drewN (below_alloc wr (.cells #[.int .u8 6, .string (mk tx), .int .i64 0, .int .i64 ps] 34)) nq
              exact ⟨⟨ps + s, k + 1, by omega, rfl, by go_num, Lib.hid (by have h := HCH.out; have e : extent ⟨6, tx, 0, ps⟩ = s := hsl; rw [e] at h; exact h), Lib.hid (HF.out.trans (BW.mono HF.out.size)), Lib.hid (HRk.out.below BW)⟩, by simp [intOf]; omega⟩
            · go_wp2_with fail
              go_quiet (fail)
              go_wp2_with fail
              have BW := below_drewN (below_alloc wr (.cells #[.int .u8 7, .string (mk tx), .int .i64 0, .int .i64 ps] 34)) nq
              exact ⟨⟨ps + s, k + 1, by omega, rfl, by go_num, Lib.hid (by have h := HCH.out; have e : extent ⟨7, tx, 0, ps⟩ = s := hsl; rw [e] at h; exact h), Lib.hid (HF.out.trans (BW.mono HF.out.size)), Lib.hid (HRk.out.below BW)⟩, by simp [intOf]; omega⟩
          · dsimp only at hkd hnm htx hc
            subst hkd htx
            simp only [digit, Bool.and_eq_true, decide_eq_true_eq] at hdc
            have e3 : ∀ o, (wr.alloc o).cell? ⟨b, off + ps, none⟩ = some (.int .u8 (c.toNat : Nat)) := fun o => src_cell (hS.out.below (HF.out.alloc HF.out.size o)) hc
            simp only [mk] at c1
            clear hc
            go_wp2_with fail
            have BW := below_alloc wr (.cells #[.int .u8 4, .string ⟨#[]⟩, .int .i64 nm, .int .i64 ps] 34)
            exact ⟨⟨ps + 1, k + 1, by omega, rfl, by go_num, Lib.hid (by have h := HCH.out; exact h), Lib.hid (HF.out.trans (BW.mono HF.out.size)), Lib.hid (HRk.out.below BW)⟩, by simp [intOf]; omega⟩
          · dsimp only at hkd hnm hs2 hc
            subst hkd hnm
            obtain ⟨s, hs⟩ : ∃ s, (mk tx).size = s := ⟨_, rfl⟩
            have hsl : tx.length = s := by rw [← hs, mk_size]
            rw [hl.out, hsl] at hs2
            have e3 : ∀ o, (wr.alloc o).cell? ⟨b, off + ps, none⟩ = some (.int .u8 34) := fun o => src_cell (hS.out.below (HF.out.alloc HF.out.size o)) hc
            clear hc
            go_wp2_with fail
            have BW := below_alloc wr (.cells #[.int .u8 5, .string (mk tx), .int .i64 0, .int .i64 ps] 34)
            exact ⟨⟨ps + (2 + s), k + 1, by omega, by go_num, by go_num, Lib.hid (by have h := HCH.out; have e : extent ⟨5, tx, 0, ps⟩ = 2 + s := (by rw [← hsl]; rfl); rw [e] at h; exact h), Lib.hid (HF.out.trans (BW.mono HF.out.size)), Lib.hid (HRk.out.below BW)⟩, by simp [intOf]; omega⟩
end Go.Proofs.YtcaejcbmkiacmaaDoor
