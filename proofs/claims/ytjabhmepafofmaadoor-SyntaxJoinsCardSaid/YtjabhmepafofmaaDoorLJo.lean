/- SyntaxJoins: the walk. -/
import Derived.Test.YtjabhmepafofmaaDoorLJr
import Derived.Test.YtjabhmepafofmaaDoorLJn
import Derived.Test.YtjabhmepafofmaaDoorLSe
import Derived.Test.YtjabhmepafofmaaDoorG24
set_option linter.unusedVariables false
set_option linter.unusedSimpArgs false
namespace Go.Proofs.YtjabhmepafofmaaDoor
open Go.RowKit

/-- tokens of one's own, if there are some -/
def TA (w : World) (B : Nat) (v : Value) (l : List Tok) : Prop := l ≠ [] → ∃ g, (∃ n c, v = .slice (some ⟨g, 0, none⟩) n c) ∧ B ≤ g ∧ TB w g l
theorem ta_of {w : World} {B : Nat} {v : Value} {l : List Tok} (h : Held w B v l) : TA w B v l := fun hl => by
  obtain ⟨g, c, e, hg, hb⟩ := h.tb hl
  exact ⟨g, ⟨_, c, e⟩, hg, hb⟩
set_option maxHeartbeats 4000000 in
set_option maxRecDepth 100000 in
theorem joins_any (l more : List Tok) (a : Option Addr) (n cp : Nat) (a2 : Option Addr) (n2 cp2 : Nat) (y : Int) (w : World) (hl : Hid (l.length = n)) (hl2 : Hid (more.length = n2)) (hcp : n ≤ cp) (hcpm : cp ≤ maxLen) (hcpm2 : n2 ≤ maxLen)
    (hN : Hid (a = none → n = 0 ∧ cp = 0)) (hN2 : Hid (a2 = none → n2 = 0 ∧ cp2 = 0)) (hT : Hid (TokAt w a l)) (hT2 : Hid (TokAt w a2 more)) (hLV : Hid (LV w)) :
    Calls Tryd.prog 7 #[.slice a n cp, .slice a2 n2 cp2, .int .i64 y] w (Yes w) := by
  unfold maxLen at hcpm hcpm2
  have HL := hl
  have HL2 := hl2
  have HN := hN
  have HN2 := hN2
  have HT := hT
  have HT2 := hT2
  have HLV := hLV
  clear hl hl2 hN hN2 hT hT2 hLV
  obtain ⟨nf, hnf⟩ : ∃ nf, 84001 ≤ nf := ⟨84001, Nat.le_refl _⟩
  obtain ⟨M, hM⟩ : ∃ M, 2101 ≤ M := ⟨2101, Nat.le_refl _⟩
  have HP : Hid (∀ (x : List Tok), x.length ≤ 2100 → ∀ (a : Option Addr) (c : Nat) (u : World), LV u → TokAt u a x → Calls Tryd.prog 9 #[.slice a x.length c] u (ParseR u (progR x (gram nf) M [] 0)) ∧ EndR x [] 0 (progR x (gram nf) M [] 0)) := Lib.hid (fun x hx a c u hu ho => by
    have he := progR_end (l := x) (n := nf) (by omega) M [] 0 (Nat.zero_le _) (by omega)
    refine ⟨parse_any nf M (fun gp hg => ⟨ho.row gp hg, hu gp hg⟩) (by omega) (fun hb => ?_), he⟩
    rw [hb] at he
    exact he)
  have HF : Hid (Fr No w w) := Lib.hid (Fr.refl _ _)
  go_enter Tryd.func7, Tryd.ntmps7
  by_cases h1 : 1024 < n
  ·
    go_wp2_with fail
    refine (works_any _ (HLV.out.no HF.out)).mono ?_
    rintro e wc ⟨rfl, hf⟩
    have HFC := Lib.hid hf
    clear hf
    go_wp2_with fail
    go_ret
    exact ⟨rfl, HFC.out⟩
  by_cases h2 : 1024 < n2
  ·
    go_wp2_with fail
    refine (works_any _ (HLV.out.no HF.out)).mono ?_
    rintro e wc ⟨rfl, hf⟩
    have HFC := Lib.hid hf
    clear hf
    go_wp2_with fail
    go_ret
    exact ⟨rfl, HFC.out⟩
  go_wp2_with fail
  have hpr := HP.out l (by rw [HL.out]; omega) a cp w HLV.out HT.out
  rw [HL.out] at hpr
  obtain ⟨hpc, hpe⟩ := hpr
  have HE1 := Lib.hid hpe
  refine hpc.mono ?_
  clear hpc hpe
  intro e w1 h
  obtain ⟨va, pa, ea, rfl, hf, hp⟩ := parse_pr h
  replace HF : Hid (Fr No w w1) := Lib.hid hf
  have HPA := Lib.hid hp
  clear h hf hp
  go_wp2_with fail
  have hpr := HP.out more (by rw [HL2.out]; omega) a2 cp2 w1 (HLV.out.no HF.out) (HT2.out.no HF.out)
  rw [HL2.out] at hpr
  obtain ⟨hpc, hpe⟩ := hpr
  have HE2 := Lib.hid hpe
  refine hpc.mono ?_
  clear hpc hpe
  intro e w2 h
  obtain ⟨vb, pb, eb, rfl, hf, hp⟩ := parse_pr h
  replace HPA := Lib.hid (HPA.out.no hf)
  replace HF : Hid (Fr No w w2) := Lib.hid (HF.out.then hf)
  have HPB := Lib.hid hp
  clear h hf hp
  go_wp2_with fail
  refine (copied_any l a n cp _ HL (by omega) HN (Lib.hid (HT.out.no HF.out))).mono ?_
  rintro e w3 ⟨hf, v3, rfl, hv3⟩
  have HB3 : w2.heap.size ≤ w3.heap.size := hf.size
  have HF3 : Hid (Fr No w w3) := Lib.hid (HF.out.then hf)
  have HFa : Hid (Fr No w2 w3) := Lib.hid hf
  have HV3 := Lib.hid hv3
  clear hf hv3
  go_upto_region 6 with (at_builtin; refine wpList_toks rfl _ _ rfl w2.heap.size v3 l rfl HV3.out a2 n2 cp2 more rfl HN2.out HL2.out (HT2.out.no HF3.out) (by rw [HL.out]; omega) HB3 ?_; intro v4 w4 HV4 HF4)
  have HF4N : Hid (Fr No w2 w4) := Lib.hid (HFa.out.own HF4.out (fun i h => h))
  have HTA : Hid (TA w4 w2.heap.size v4 (l ++ more)) := Lib.hid (ta_of HV4.out)
  obtain ⟨A, C, rfl, _, _⟩ := HV4.out.slice
  obtain ⟨L, hL⟩ : ∃ L, l ++ more = L := ⟨_, rfl⟩
  obtain ⟨N, hN⟩ : ∃ N, L.length = N := ⟨_, rfl⟩
  have hNn : N = n + n2 := by rw [← hN, ← hL, List.length_append, HL.out, HL2.out]
  have HNN := Lib.hid hNn
  have hN0 : N ≤ 2048 := by omega
  rw [hL] at HTA ⊢
  rw [hN] at HTA ⊢
  have HLL := Lib.hid hL
  have HLN := Lib.hid hN
  clear hNn hL hN HV3 HV4 HF3 HF4 HFa HB3
  go_wp2_with fail
  go_loopw [14] (fun i wr => ∃ q : Nat, q ≤ N ∧ i = .int .i64 (q : Nat) ∧ Hid (Fr No w2 wr) ∧ Hid (TA wr w2.heap.size (.slice A N C) (mvUp y q L))) (fun i _ => N - intOf i)
  case atStart => exact ⟨0, Nat.zero_le _, rfl, HF4N, Lib.hid (by rw [mvUp_zero]; exact HTA.out)⟩
  case round =>
    clear HTA HF4N
    obtain ⟨q, hq, rfl, HF5, HTA⟩ := hrel
    obtain ⟨w5, hw5⟩ : ∃ w5, w5 = wr := ⟨wr, rfl⟩
    rw [← hw5] at HF5 HTA ⊢
    clear hw5 wr
    by_cases hlt : q < N
    · obtain ⟨t, ht⟩ : ∃ t, L[q]? = some t := ⟨_, List.getElem?_eq_getElem (by rw [HLN.out]; exact hlt)⟩
      obtain ⟨g, hA, hg, hTB⟩ := HTA.out (by intro e; have := mvUp_len y q L; rw [e, HLN.out] at this; simp at this; omega)
      obtain ⟨_, _, hA⟩ := hA
      cases hA
      obtain ⟨_, _, e1, _, c0, c1, c2, c3⟩ := hTB.tokAt q t (mvUp_at ht)
      cases e1
      rw [Nat.zero_add] at c0 c1 c2 c3
      have HTB := Lib.hid (hTB.set (mvUp_at ht) (wrap64 (t.pos + y)))
      have HSET : Hid (Fr No w2 (w5.setCell ⟨g, q * 4 + 3, none⟩ (.int .i64 (wrap64 (t.pos + y))))) := Lib.hid (HF5.out.own (Fr.setCell _ ⟨g, q * 4 + 3, none⟩ _) (fun i h => by have h : i = g := h; rw [h]; exact hg))
      have HSU := Lib.hid (mvUp_succ (y := y) ht)
      have hfz := hTB.frozen (q * 4 + 3)
      have hd0 : decide (q < N) = true := decide_eq_true hlt
      have hq0 : (0 : Int) ≤ (q : Int) := by omega
      have hq1 : (q : Int) < (N : Int) := by omega
      clear hTB ht c0 c1 c2
      go_wp2_with fail
      exact ⟨⟨q + 1, by omega, by go_num, HSET, Lib.hid (fun _ => ⟨g, ⟨_, _, rfl⟩, hg, by rw [HSU.out]; exact HTB.out⟩)⟩, by simp [intOf]; omega⟩
    · have hd0 : decide (q < N) = false := decide_eq_false hlt
      obtain rfl : q = N := by omega
      clear hlt hq
      have HTK : Hid (TokAt w5 A (L.map (mv y))) := Lib.hid (fun j t hj => by
        have hne : mvUp y q L ≠ [] := by
          intro e
          have := mvUp_len y q L
          rw [e] at this
          have hLn : L.length = 0 := this.symm
          rw [List.eq_nil_of_length_eq_zero hLn] at hj
          simp at hj
        obtain ⟨g, ⟨_, _, hA⟩, _, hTB⟩ := HTA.out hne
        cases hA
        refine hTB.tokAt j t ?_
        rw [← HLN.out, mvUp_all]
        exact hj)
      have HFN : Hid (Fr No w w5) := Lib.hid (HF.out.then HF5.out)
      replace HPA := Lib.hid (HPA.out.no HF5.out)
      replace HPB := Lib.hid (HPB.out.no HF5.out)
      clear HF HF5 HTA
      have hlm : (L.map (mv y)).length = q := by rw [List.length_map, HLN.out]
      have hpr := HP.out (L.map (mv y)) (by rw [hlm]; omega) A C w5 (HLV.out.no HFN.out) HTK.out
      rw [hlm, progR_same (by rw [List.length_map]) (map_mv_at y L)] at hpr
      obtain ⟨hpc, hpe⟩ := hpr
      clear hpe hlm
      go_wp2_with fail
      refine hpc.mono ?_
      clear hpc
      intro e w6 h
      obtain ⟨vr, pr, er, rfl, hf, hp⟩ := parse_pr h
      replace HPA := Lib.hid (HPA.out.no hf)
      replace HPB := Lib.hid (HPB.out.no hf)
      have HF : Hid (Fr No w w6) := Lib.hid (HFN.out.then hf)
      have HPR := Lib.hid hp
      clear h hf hp HFN HTK
      go_upto_region 11 with fail
      have hfin : ∀ (Wx : World), Fr No w Wx → Calls Tryd.prog 11 #[] Wx (Yes Wx) := fun Wx h => works_any _ (HLV.out.no h)
      have HFI := Lib.hid hfin
      clear hfin
      cases hRa : progR l (gram nf) M [] 0 with
      | out => have h := HE1.out; rw [hRa] at h; exact h.elim
      | fail qa =>
        have h := HPA.out
        rw [hRa] at h
        obtain ⟨rfl, rfl, rfl⟩ := h
        cases hRr : progR L (gram nf) M [] 0 with
        | out => have h := HPR.out; rw [hRr] at h; exact h.elim
        | fail qr =>
          have h := HPR.out
          rw [hRr] at h
          obtain ⟨rfl, rfl, rfl⟩ := h
          go_wp2_with fail
          refine (HFI.out _ HF.out).mono ?_
          rintro e w7 ⟨rfl, hf⟩
          have HF7 := Lib.hid (HF.out.then hf)
          clear hf
          go_wp2_with fail
          go_ret
          exact ⟨rfl, HF7.out⟩
        | ok ds qr =>
          have h := HPR.out
          rw [hRr] at h
          obtain ⟨rfl, ⟨hd, rfl, rfl⟩ | ⟨hd, rfl, hx⟩⟩ := h
          · go_wp2_with fail
            refine (HFI.out _ HF.out).mono ?_
            rintro e w7 ⟨rfl, hf⟩
            have HF7 := Lib.hid (HF.out.then hf)
            clear hf
            go_wp2_with fail
            go_ret
            exact ⟨rfl, HF7.out⟩
          · obtain ⟨av, cv, rfl⟩ := hx_slice hx
            have hne : 0 < ds.length := by
              have := joins_fail (a := l) (b := more) (n := nf) (M := M) (by rw [HL.out, HL2.out]; omega) (by rw [HL.out, HL2.out]; omega) hRa (by rw [HLL.out]; exact hRr)
              cases ds with
              | nil => exact absurd rfl this
              | cons d r => simp
            rw [List.length_map]
            obtain ⟨nd, hnd⟩ : ∃ nd, ds.length = nd := ⟨_, rfl⟩
            rw [hnd] at hne ⊢
            have hdn : decide (0 < nd) = true := decide_eq_true hne
            clear hx hd hRr hRa hnd
            go_wp2_with fail
            refine (HFI.out _ HF.out).mono ?_
            rintro e w7 ⟨rfl, hf⟩
            have HF7 := Lib.hid (HF.out.then hf)
            clear hf
            go_wp2_with fail
            go_ret
            exact ⟨rfl, HF7.out⟩
      | ok dsa qa =>
        have HJ := Lib.hid (joins_ok (a := l) (b := more) (n := nf) (M := M) (by rw [HL.out, HL2.out]; omega) (by rw [HL.out, HL2.out]; omega) hRa)
        have HA1 := HPA.out
        rw [hRa] at HA1
        have hqa := progR_len _ _ _ _ _ hRa
        obtain ⟨hpa, hA1⟩ := HA1
        subst hpa
        cases hRb : progR more (gram nf) M [] 0 with
        | out => have h := HE2.out; rw [hRb] at h; exact h.elim
        | fail qb =>
          have h := HPB.out
          rw [hRb] at h
          obtain ⟨rfl, rfl, rfl⟩ := h
          have h := HPR.out
          rw [← HLL.out, HJ.out, hRb] at h
          simp only [Re.behind, HL.out] at h
          obtain ⟨rfl, rfl, rfl⟩ := h
          have hea : ¬ ea = 11 := by
            rcases hA1 with ⟨_, _, rfl⟩ | ⟨_, rfl, _⟩ <;> decide
          have hnq : ((n + qb : Nat) : Int) = (n : Int) + (qb : Int) := by omega
          obtain ⟨kq, hkq⟩ : ∃ kq : Nat, n + qb = kq := ⟨_, rfl⟩
          rw [hkq]
          have hdk : (kq : Int) = (n : Int) + (qb : Int) := by omega
          have hqb : (qb : Int) ≤ 2048 := by have h := HE2.out; rw [hRb] at h; have h : qb ≤ more.length := h; rw [HL2.out] at h; omega
          have hqb0 : (0 : Int) ≤ (qb : Int) := by omega
          clear hA1 hnq hkq
          go_wp2_with fail
          have hpr := HP.out more (by rw [HL2.out]; omega) a2 cp2 w6 (HLV.out.no HF.out) (HT2.out.no HF.out)
          rw [HL2.out, hRb] at hpr
          refine hpr.1.mono ?_
          clear hpr
          intro e w7 h
          simp only [ParseR] at h
          obtain ⟨rfl, hf⟩ := h
          have HF7 := Lib.hid (HF.out.then hf)
          clear hf
          go_wp2_with fail
          refine (HFI.out _ HF7.out).mono ?_
          rintro e w8 ⟨rfl, hf⟩
          have HF8 := Lib.hid (HF7.out.then hf)
          clear hf
          go_wp2_with fail
          go_ret
          exact ⟨rfl, HF8.out⟩
        | ok dsb qb =>
          have HB1 := HPB.out
          rw [hRb] at HB1
          have hqb := progR_len _ _ _ _ _ hRb
          obtain ⟨hpb, hB1⟩ := HB1
          subst hpb
          have h := HPR.out
          rw [← HLL.out, HJ.out, hRb] at h
          simp only [Re.behind] at h
          obtain ⟨rfl, hR1⟩ := h
          rw [dProg_join] at hR1
          by_cases hdd : 100 < dProg dsa ∨ 100 < dProg dsb
          · rcases hR1 with ⟨_, rfl, rfl⟩ | ⟨hn, _⟩
            · have h1 : ¬ ea = 11 := by
                rcases hA1 with ⟨_, _, rfl⟩ | ⟨_, rfl, _⟩ <;> decide
              have h2 : ¬ eb = 11 := by
                rcases hB1 with ⟨_, _, rfl⟩ | ⟨_, rfl, _⟩ <;> decide
              have h3 : ea = 16 ∨ eb = 16 := by
                rcases hA1 with ⟨_, _, rfl⟩ | ⟨hx, rfl, _⟩
                · exact .inl rfl
                · rcases hB1 with ⟨_, _, rfl⟩ | ⟨hy, rfl, _⟩
                  · exact .inr rfl
                  · omega
              clear hA1 hB1
              by_cases h16 : ea = 16
              · subst h16
                clear h1 h3
                go_wp2_with fail
                refine (HFI.out _ HF.out).mono ?_
                rintro e w7 ⟨rfl, hf⟩
                have HF7 := Lib.hid (HF.out.then hf)
                clear hf
                go_wp2_with fail
                go_ret
                exact ⟨rfl, HF7.out⟩
              · have h4 : eb = 16 := h3.resolve_left h16
                subst h4
                clear h2 h3
                go_wp2_with fail
                refine (HFI.out _ HF.out).mono ?_
                rintro e w7 ⟨rfl, hf⟩
                have HF7 := Lib.hid (HF.out.then hf)
                clear hf
                go_wp2_with fail
                go_ret
                exact ⟨rfl, HF7.out⟩
            · omega
          · rcases hR1 with ⟨hn, _⟩ | ⟨_, rfl, hxr⟩
            · omega
            rcases hA1 with ⟨hn, _⟩ | ⟨_, rfl, hxa⟩
            · omega
            rcases hB1 with ⟨hn, _⟩ | ⟨_, rfl, hxb⟩
            · omega
            have hla : dsa.length ≤ 2048 := by
              have h := HE1.out
              rw [hRa] at h
              have h : qa = l.length := h.1
              rw [HL.out] at h
              simp at hqa
              omega
            have hlb : dsb.length ≤ 2048 := by
              have h := HE2.out
              rw [hRb] at h
              have h : qb = more.length := h.1
              rw [HL2.out] at h
              simp at hqb
              omega
            obtain ⟨av, cv, rfl⟩ := hx_slice hxa
            obtain ⟨bv, dv, rfl⟩ := hx_slice hxb
            simp only [List.length_map] at hxa hxb ⊢
            obtain ⟨na, hna⟩ : ∃ na, dsa.length = na := ⟨_, rfl⟩
            obtain ⟨nb, hnb⟩ : ∃ nb, dsb.length = nb := ⟨_, rfl⟩
            rw [hna] at hxa hla ⊢
            rw [hnb] at hxb hlb ⊢
            have HXA := Lib.hid hxa
            have HXB := Lib.hid hxb
            have HXR := Lib.hid hxr
            have HNA := Lib.hid hna
            have HNB := Lib.hid hnb
            clear hxa hxb hxr hna hnb hdd hqa hqb hRa hRb
            obtain ⟨csa, a1, a2, a3, a4, a5, a6, a7⟩ := hx_cells HXA.out
            have HA1 := Lib.hid a1
            have HA2 := Lib.hid a2
            have HA3 := Lib.hid a3
            have HA4 := Lib.hid a4
            have HA5 := Lib.hid a5
            have HA6 := Lib.hid a6
            have HA7 := Lib.hid a7
            clear a1 a2 a3 a4 a5 a6 a7
            go_upto_region 20 with (at_builtin; refine wpList_more keptX elemD rfl _ _ 23 rfl Tryd.underlying23 (fun b => b < w6.heap.size) w6.heap.size (fun _ h => h) (Nat.le_refl _) (.slice none 0 0) 0 [] rfl (OutG.nil _ _ _) av na cv (dsa.map xD) rfl (by rw [List.length_map, HA1.out]) HA7.out csa HA2.out HA3.out HA6.out HA4.out HA5.out (by unfold maxLen; omega) (by omega) ?_; intro a8 c8 w8 HO8 HF8)
            simp only [Nat.zero_add, List.nil_append] at HO8 ⊢
            have HBX : Hid (Hx (fun b => b < w6.heap.size) w8 (.row 16 (dsb.map xD)) (.slice bv nb dv)) := Lib.hid (HXB.out.keep (fun b _ hb => ⟨HF8.out.block b hb (fun h => by have h : w6.heap.size ≤ b := h; omega), hb⟩))
            clear HA1 HA2 HA3 HA4 HA5 HA6 HA7
            obtain ⟨csb, a1, a2, a3, a4, a5, a6, a7⟩ := hx_cells HBX.out
            have HA1 := Lib.hid a1
            have HA2 := Lib.hid a2
            have HA3 := Lib.hid a3
            have HA4 := Lib.hid a4
            have HA5 := Lib.hid a5
            have HA6 := Lib.hid a6
            have HA7 := Lib.hid a7
            have HS8 := HF8.out.size
            clear a1 a2 a3 a4 a5 a6 a7
            go_upto_region 21 with (at_builtin; refine wpList_more keptX elemD rfl _ _ 23 rfl Tryd.underlying23 (fun b => b < w6.heap.size) w6.heap.size (fun _ h => h) HS8 (.slice a8 na c8) na (dsa.map xD) rfl HO8.out bv nb dv (dsb.map xD) rfl (by rw [List.length_map, HA1.out]) HA7.out csb HA2.out HA3.out HA6.out HA4.out HA5.out (by unfold maxLen; omega) (by omega) ?_; intro a9 c9 w9 HO9 HF9)
            have HBO : Hid (Hx (fun _ => True) w9 (.row 16 ((dsa ++ dsb).map xD)) (.slice a9 (na + nb) c9)) := Lib.hid (by rw [List.map_append]; exact hx_of_out HO9.out (by decide) (fun _ _ _ => trivial) (fun _ _ _ => trivial))
            have HFR : Hid (Fr (fun b => w6.heap.size ≤ b) w6 w9) := Lib.hid (HF8.out.trans HF9.out (fun _ _ h => h))
            have HRX : Hid (Hx (fun b => b < w6.heap.size) w9 (.row 16 ((dsa ++ dsb).map xD)) vr) := Lib.hid (HXR.out.keep (fun b _ hb => ⟨HFR.out.block b hb (fun h => by have h : w6.heap.size ≤ b := h; omega), hb⟩))
            have HF9N : Hid (Fr No w w9) := Lib.hid (HF.out.own HFR.out (fun i h => Nat.le_trans HF.out.size h))
            clear HO8 HO9 HF8 HF9 HS8 HBX HA1 HA2 HA3 HA4 HA5 HA6 HA7 HFR HXA HXB HXR
            go_wp2_with fail
            refine (same_decs (dsa ++ dsb) _ _ w9 _ _ HRX.out HBO.out).mono ?_
            rintro e w10 ⟨rfl, hf⟩
            have HF10 := Lib.hid (HF9N.out.then hf)
            clear hf
            go_wp2_with fail
            refine (HFI.out _ HF10.out).mono ?_
            rintro e w11 ⟨rfl, hf⟩
            have HF11 := Lib.hid (HF10.out.then hf)
            clear hf
            go_wp2_with fail
            go_ret
            exact ⟨rfl, HF11.out⟩
end Go.Proofs.YtjabhmepafofmaaDoor
