/- SyntaxAhead: the walk. -/
import Derived.Test.YtjabhmepafofmaaDoorG24
set_option linter.unusedVariables false
set_option linter.unusedSimpArgs false
namespace Go.Proofs.YtjabhmepafofmaaDoor
open Go.RowKit

set_option maxHeartbeats 4000000 in
set_option maxRecDepth 100000 in
theorem ahead_any (l more : List Tok) (a : Option Addr) (n cp : Nat) (a2 : Option Addr) (n2 cp2 cut : Nat) (hcut : cut ≤ 65535) (w : World) (hl : Hid (l.length = n)) (hl2 : Hid (more.length = n2)) (hcp : n ≤ cp) (hcpm : cp ≤ maxLen) (hcpm2 : n2 ≤ maxLen)
    (hN : Hid (a = none → n = 0 ∧ cp = 0)) (hN2 : Hid (a2 = none → n2 = 0 ∧ cp2 = 0)) (hT : Hid (TokAt w a l)) (hT2 : Hid (TokAt w a2 more)) (hLV : Hid (LV w)) :
    Calls Tryd.prog 6 #[.slice a n cp, .slice a2 n2 cp2, .int .u16 cut] w (Yes w) := by
  unfold maxLen at hcpm hcpm2
  have HL := hl
  have HL2 := hl2
  have HN := hN
  have HN2 := hN2
  have HT := hT
  have HT2 := hT2
  have HLV := hLV
  clear hl hl2 hN hN2 hT hT2 hLV
  obtain ⟨nf, hnf⟩ : ∃ nf, 84001 ≤ nf := ⟨84001, Nat.le_refl _⟩
  obtain ⟨M, hM⟩ : ∃ M, 2101 ≤ M := ⟨2101, Nat.le_refl _⟩
  have HP : Hid (∀ (x : List Tok), x.length ≤ 2100 → ∀ (a : Option Addr) (c : Nat) (u : World), LV u → TokAt u a x → Calls Tryd.prog 9 #[.slice a x.length c] u (ParseR u (progR x (gram nf) M [] 0)) ∧ EndR x [] 0 (progR x (gram nf) M [] 0)) := Lib.hid (fun x hx a c u hu ho => by
    have he := progR_end (l := x) (n := nf) (by omega) M [] 0 (Nat.zero_le _) (by omega)
    refine ⟨parse_any nf M (fun gp hg => ⟨ho.row gp hg, hu gp hg⟩) (by omega) (fun hb => ?_), he⟩
    rw [hb] at he
    exact he)
  have HF : Hid (Fr No w w) := Lib.hid (Fr.refl _ _)
  go_enter Tryd.func6, Tryd.ntmps6
  by_cases h1 : 1024 < n
  ·
    go_wp2_with fail
    refine (works_any _ (HLV.out.no HF.out)).mono ?_
    rintro e wc ⟨rfl, hf⟩
    have HFC := Lib.hid hf
    clear hf
    go_wp2_with fail
    go_ret
    exact ⟨rfl, HFC.out⟩
  by_cases h2 : 1024 < n2
  ·
    go_wp2_with fail
    refine (works_any _ (HLV.out.no HF.out)).mono ?_
    rintro e wc ⟨rfl, hf⟩
    have HFC := Lib.hid hf
    clear hf
    go_wp2_with fail
    go_ret
    exact ⟨rfl, HFC.out⟩
  go_wp2_with fail
  have hpr := HP.out l (by rw [HL.out]; omega) a cp w HLV.out HT.out
  rw [HL.out] at hpr
  obtain ⟨hpc, hpe⟩ := hpr
  refine hpc.mono ?_
  intro e w1 h
  clear hpc
  cases hR : progR l (gram nf) M [] 0 with
  | out => rw [hR] at hpe; exact hpe.elim
  | fail at_ =>
    rw [hR] at h hpe
    simp only [ParseR] at h
    obtain ⟨rfl, hf⟩ := h
    replace HF : Hid (Fr No w w1) := Lib.hid hf
    have hat : at_ ≤ n := by have h : at_ ≤ l.length := hpe; rw [HL.out] at h; exact h
    have HR := Lib.hid hR
    clear hf hR hpe
    have hat0 : (0 : Int) ≤ (at_ : Int) := by omega
    have hat1 : (at_ : Int) ≤ (n : Int) := by omega
    have hd0 : decide (n < at_) = false := decide_eq_false (by omega)
    by_cases hlt : at_ < n
    ·
      have hd1 : decide (at_ < n) = true := decide_eq_true hlt
      have hx0 : (at_ : Int) + 1 ≤ (cp : Int) := by omega
      go_wp2_with fail
      refine (copied_any (l.take (at_ + 1)) a (at_ + 1) cp _ (Lib.hid (by rw [List.length_take, HL.out]; omega)) (by omega) (Lib.hid (fun h => by have := HN.out h; omega)) (Lib.hid ((HT.out.no HF.out).take (at_ + 1)))).mono ?_
      rintro e w2 ⟨hf, v2, rfl, hv2⟩
      have HF2 : Hid (Fr No w w2) := Lib.hid (HF.out.then hf)
      have HB2 : w1.heap.size ≤ w2.heap.size := hf.size
      have HV2 := Lib.hid hv2
      clear hf hv2
      have hlt2 : (l.take (at_ + 1)).length = at_ + 1 := by rw [List.length_take, HL.out]; omega
      have HLT2 := Lib.hid hlt2
      clear hlt2
      go_wp2_with (at_builtin; refine wpList_toks rfl _ _ rfl w1.heap.size v2 (l.take (at_ + 1)) rfl HV2.out a2 n2 cp2 more rfl HN2.out HL2.out (HT2.out.no HF2.out) (by rw [HLT2.out]; omega) HB2 ?_; intro v3 w3 HV3 HF3)
      have HF3N : Hid (Fr No w w3) := Lib.hid (HF2.out.own HF3.out (fun i h => Nat.le_trans HF.out.size h))
      obtain ⟨a3, c3, rfl, ho3, _⟩ := HV3.out.slice
      have HO3 := Lib.hid ho3.at_
      have hm3 : (l.take (at_ + 1) ++ more).length = at_ + 1 + n2 := by rw [List.length_append, HLT2.out, HL2.out]
      have hpr := HP.out (l.take (at_ + 1) ++ more) (by rw [hm3]; omega) a3 c3 w3 (HLV.out.no HF3N.out) HO3.out
      rw [ahead_more HR.out (by rw [HL.out]; exact hlt)] at hpr
      obtain ⟨hpc, _⟩ := hpr
      obtain ⟨m3, hm4⟩ : ∃ m3, (l.take (at_ + 1) ++ more).length = m3 := ⟨_, rfl⟩
      rw [hm4] at hpc ⊢
      clear hm3 hm4 ho3 HV3 HF3 HV2
      refine hpc.mono ?_
      clear hpc
      intro e w4 h
      simp only [ParseR] at h
      obtain ⟨rfl, hf⟩ := h
      replace HF : Hid (Fr No w w4) := Lib.hid (HF3N.out.then hf)
      clear hf HF2 HF3N HO3 HLT2 HB2 hx0 hd1
      skip
      obtain ⟨c0, hc0⟩ : ∃ c0, cut % (at_ + 1) = c0 := ⟨_, rfl⟩
      have hcE : c0 ≤ at_ := by rw [← hc0]; exact Nat.lt_succ_iff.1 (Nat.mod_lt _ (by omega))
      have hrem : (cut : Int) % ((at_ : Int) + 1) = (c0 : Int) := by rw [← hc0]; simp
      have hc0n : (c0 : Int) ≤ (n : Int) := by omega
      have hc0p : (c0 : Int) ≤ (cp : Int) := by omega
      have hc00 : (0 : Int) ≤ (c0 : Int) := by omega
      have hE0 : (0 : Int) ≤ (at_ : Int) := by omega
      have hE1 : (at_ : Int) ≤ 2048 := by omega
      have hcut0 : (0 : Int) ≤ (cut : Int) := by omega
      have hcut1 : (cut : Int) ≤ 65535 := by omega
      clear hc0
      go_wp2_with fail
      refine (copied_any (l.take c0) a c0 cp _ (Lib.hid (by rw [List.length_take, HL.out]; omega)) (by omega) (Lib.hid (fun h => by have := HN.out h; omega)) (Lib.hid ((HT.out.no HF.out).take c0))).mono ?_
      rintro e wa ⟨hf, va, rfl, hva⟩
      have HFA := Lib.hid (HF.out.then hf)
      obtain ⟨aa, ca, rfl, hoa, _⟩ := hva.slice
      have HOA := Lib.hid hoa.at_
      have hla : (l.take c0).length = c0 := by rw [List.length_take, HL.out]; omega
      have HLA := Lib.hid hla
      rw [hla]
      clear hf hva hoa hla
      go_wp2_with fail
      have hpr := HP.out (l.take c0) (by rw [HLA.out]; omega) aa ca wa (HLV.out.no HFA.out) HOA.out
      rw [HLA.out] at hpr
      obtain ⟨hpc, hpe⟩ := hpr
      refine hpc.mono ?_
      intro e wb h
      clear hpc
      cases hR2 : progR (l.take c0) (gram nf) M [] 0 with
      | out => rw [hR2] at hpe; exact hpe.elim
      | fail k =>
        rw [hR2] at h
        simp only [ParseR] at h
        obtain ⟨rfl, hf⟩ := h
        have hk : k = c0 := ahead_cut (c := c0) (n := nf) (M := M) (by rw [HL.out]; omega) (by rw [HL.out]; omega) (by rw [HL.out]; omega) (fun q hq => by rw [HR.out] at hq; cases hq; exact hcE) hR2
        subst hk
        have HFB := Lib.hid (HFA.out.then hf)
        clear hf hR2 hpe
        go_wp2_with fail
        refine (works_any _ (HLV.out.no HFB.out)).mono ?_
        rintro e wc ⟨rfl, hf⟩
        have HFC := Lib.hid (HFB.out.then hf)
        clear hf
        go_wp2_with fail
        go_ret
        exact ⟨rfl, HFC.out⟩
      | ok ds q =>
        rw [hR2] at h
        simp only [ParseR] at h
        obtain ⟨hf, h⟩ := h
        have HFB := Lib.hid (HFA.out.then hf)
        clear hf hR2 hpe
        by_cases hbig : 100 < dProg ds
        ·
          rw [if_pos hbig] at h
          subst h
          clear hbig
          go_wp2_with fail
          refine (works_any _ (HLV.out.no HFB.out)).mono ?_
          rintro e wc ⟨rfl, hf⟩
          have HFC := Lib.hid (HFB.out.then hf)
          clear hf
          go_wp2_with fail
          go_ret
          exact ⟨rfl, HFC.out⟩
        ·
          rw [if_neg hbig] at h
          obtain ⟨v, rfl, hx⟩ := h
          clear hbig hx
          go_wp2_with fail
          refine (works_any _ (HLV.out.no HFB.out)).mono ?_
          rintro e wc ⟨rfl, hf⟩
          have HFC := Lib.hid (HFB.out.then hf)
          clear hf
          go_wp2_with fail
          go_ret
          exact ⟨rfl, HFC.out⟩
    ·
      have hd1 : decide (at_ < n) = false := decide_eq_false hlt
      skip
      obtain ⟨c0, hc0⟩ : ∃ c0, cut % (at_ + 1) = c0 := ⟨_, rfl⟩
      have hcE : c0 ≤ at_ := by rw [← hc0]; exact Nat.lt_succ_iff.1 (Nat.mod_lt _ (by omega))
      have hrem : (cut : Int) % ((at_ : Int) + 1) = (c0 : Int) := by rw [← hc0]; simp
      have hc0n : (c0 : Int) ≤ (n : Int) := by omega
      have hc0p : (c0 : Int) ≤ (cp : Int) := by omega
      have hc00 : (0 : Int) ≤ (c0 : Int) := by omega
      have hE0 : (0 : Int) ≤ (at_ : Int) := by omega
      have hE1 : (at_ : Int) ≤ 2048 := by omega
      have hcut0 : (0 : Int) ≤ (cut : Int) := by omega
      have hcut1 : (cut : Int) ≤ 65535 := by omega
      clear hc0
      go_wp2_with fail
      refine (copied_any (l.take c0) a c0 cp _ (Lib.hid (by rw [List.length_take, HL.out]; omega)) (by omega) (Lib.hid (fun h => by have := HN.out h; omega)) (Lib.hid ((HT.out.no HF.out).take c0))).mono ?_
      rintro e wa ⟨hf, va, rfl, hva⟩
      have HFA := Lib.hid (HF.out.then hf)
      obtain ⟨aa, ca, rfl, hoa, _⟩ := hva.slice
      have HOA := Lib.hid hoa.at_
      have hla : (l.take c0).length = c0 := by rw [List.length_take, HL.out]; omega
      have HLA := Lib.hid hla
      rw [hla]
      clear hf hva hoa hla
      go_wp2_with fail
      have hpr := HP.out (l.take c0) (by rw [HLA.out]; omega) aa ca wa (HLV.out.no HFA.out) HOA.out
      rw [HLA.out] at hpr
      obtain ⟨hpc, hpe⟩ := hpr
      refine hpc.mono ?_
      intro e wb h
      clear hpc
      cases hR2 : progR (l.take c0) (gram nf) M [] 0 with
      | out => rw [hR2] at hpe; exact hpe.elim
      | fail k =>
        rw [hR2] at h
        simp only [ParseR] at h
        obtain ⟨rfl, hf⟩ := h
        have hk : k = c0 := ahead_cut (c := c0) (n := nf) (M := M) (by rw [HL.out]; omega) (by rw [HL.out]; omega) (by rw [HL.out]; omega) (fun q hq => by rw [HR.out] at hq; cases hq; exact hcE) hR2
        subst hk
        have HFB := Lib.hid (HFA.out.then hf)
        clear hf hR2 hpe
        go_wp2_with fail
        refine (works_any _ (HLV.out.no HFB.out)).mono ?_
        rintro e wc ⟨rfl, hf⟩
        have HFC := Lib.hid (HFB.out.then hf)
        clear hf
        go_wp2_with fail
        go_ret
        exact ⟨rfl, HFC.out⟩
      | ok ds q =>
        rw [hR2] at h
        simp only [ParseR] at h
        obtain ⟨hf, h⟩ := h
        have HFB := Lib.hid (HFA.out.then hf)
        clear hf hR2 hpe
        by_cases hbig : 100 < dProg ds
        ·
          rw [if_pos hbig] at h
          subst h
          clear hbig
          go_wp2_with fail
          refine (works_any _ (HLV.out.no HFB.out)).mono ?_
          rintro e wc ⟨rfl, hf⟩
          have HFC := Lib.hid (HFB.out.then hf)
          clear hf
          go_wp2_with fail
          go_ret
          exact ⟨rfl, HFC.out⟩
        ·
          rw [if_neg hbig] at h
          obtain ⟨v, rfl, hx⟩ := h
          clear hbig hx
          go_wp2_with fail
          refine (works_any _ (HLV.out.no HFB.out)).mono ?_
          rintro e wc ⟨rfl, hf⟩
          have HFC := Lib.hid (HFB.out.then hf)
          clear hf
          go_wp2_with fail
          go_ret
          exact ⟨rfl, HFC.out⟩
  | ok ds q =>
    rw [hR] at h hpe
    simp only [ParseR] at h
    obtain ⟨hf, h⟩ := h
    replace HF : Hid (Fr No w w1) := Lib.hid hf
    have HR := Lib.hid hR
    clear hf hR hpe
    by_cases hbig : 100 < dProg ds
    ·
      rw [if_pos hbig] at h
      subst h
      clear hbig
      obtain ⟨c0, hc0⟩ : ∃ c0, cut % (n + 1) = c0 := ⟨_, rfl⟩
      have hcE : c0 ≤ n := by rw [← hc0]; exact Nat.lt_succ_iff.1 (Nat.mod_lt _ (by omega))
      have hrem : (cut : Int) % ((n : Int) + 1) = (c0 : Int) := by rw [← hc0]; simp
      have hc0n : (c0 : Int) ≤ (n : Int) := by omega
      have hc0p : (c0 : Int) ≤ (cp : Int) := by omega
      have hc00 : (0 : Int) ≤ (c0 : Int) := by omega
      have hE0 : (0 : Int) ≤ (n : Int) := by omega
      have hE1 : (n : Int) ≤ 2048 := by omega
      have hcut0 : (0 : Int) ≤ (cut : Int) := by omega
      have hcut1 : (cut : Int) ≤ 65535 := by omega
      clear hc0
      go_wp2_with fail
      refine (copied_any (l.take c0) a c0 cp _ (Lib.hid (by rw [List.length_take, HL.out]; omega)) (by omega) (Lib.hid (fun h => by have := HN.out h; omega)) (Lib.hid ((HT.out.no HF.out).take c0))).mono ?_
      rintro e wa ⟨hf, va, rfl, hva⟩
      have HFA := Lib.hid (HF.out.then hf)
      obtain ⟨aa, ca, rfl, hoa, _⟩ := hva.slice
      have HOA := Lib.hid hoa.at_
      have hla : (l.take c0).length = c0 := by rw [List.length_take, HL.out]; omega
      have HLA := Lib.hid hla
      rw [hla]
      clear hf hva hoa hla
      go_wp2_with fail
      have hpr := HP.out (l.take c0) (by rw [HLA.out]; omega) aa ca wa (HLV.out.no HFA.out) HOA.out
      rw [HLA.out] at hpr
      obtain ⟨hpc, hpe⟩ := hpr
      refine hpc.mono ?_
      intro e wb h
      clear hpc
      cases hR2 : progR (l.take c0) (gram nf) M [] 0 with
      | out => rw [hR2] at hpe; exact hpe.elim
      | fail k =>
        rw [hR2] at h
        simp only [ParseR] at h
        obtain ⟨rfl, hf⟩ := h
        have hk : k = c0 := ahead_cut (c := c0) (n := nf) (M := M) (by rw [HL.out]; omega) (by rw [HL.out]; omega) (by rw [HL.out]; omega) (fun q hq => by rw [HR.out] at hq; cases hq) hR2
        subst hk
        have HFB := Lib.hid (HFA.out.then hf)
        clear hf hR2 hpe
        go_wp2_with fail
        refine (works_any _ (HLV.out.no HFB.out)).mono ?_
        rintro e wc ⟨rfl, hf⟩
        have HFC := Lib.hid (HFB.out.then hf)
        clear hf
        go_wp2_with fail
        go_ret
        exact ⟨rfl, HFC.out⟩
      | ok ds q =>
        rw [hR2] at h
        simp only [ParseR] at h
        obtain ⟨hf, h⟩ := h
        have HFB := Lib.hid (HFA.out.then hf)
        clear hf hR2 hpe
        by_cases hbig : 100 < dProg ds
        ·
          rw [if_pos hbig] at h
          subst h
          clear hbig
          go_wp2_with fail
          refine (works_any _ (HLV.out.no HFB.out)).mono ?_
          rintro e wc ⟨rfl, hf⟩
          have HFC := Lib.hid (HFB.out.then hf)
          clear hf
          go_wp2_with fail
          go_ret
          exact ⟨rfl, HFC.out⟩
        ·
          rw [if_neg hbig] at h
          obtain ⟨v, rfl, hx⟩ := h
          clear hbig hx
          go_wp2_with fail
          refine (works_any _ (HLV.out.no HFB.out)).mono ?_
          rintro e wc ⟨rfl, hf⟩
          have HFC := Lib.hid (HFB.out.then hf)
          clear hf
          go_wp2_with fail
          go_ret
          exact ⟨rfl, HFC.out⟩
    ·
      rw [if_neg hbig] at h
      obtain ⟨v, rfl, hx⟩ := h
      clear hbig hx
      obtain ⟨c0, hc0⟩ : ∃ c0, cut % (n + 1) = c0 := ⟨_, rfl⟩
      have hcE : c0 ≤ n := by rw [← hc0]; exact Nat.lt_succ_iff.1 (Nat.mod_lt _ (by omega))
      have hrem : (cut : Int) % ((n : Int) + 1) = (c0 : Int) := by rw [← hc0]; simp
      have hc0n : (c0 : Int) ≤ (n : Int) := by omega
      have hc0p : (c0 : Int) ≤ (cp : Int) := by omega
      have hc00 : (0 : Int) ≤ (c0 : Int) := by omega
      have hE0 : (0 : Int) ≤ (n : Int) := by omega
      have hE1 : (n : Int) ≤ 2048 := by omega
      have hcut0 : (0 : Int) ≤ (cut : Int) := by omega
      have hcut1 : (cut : Int) ≤ 65535 := by omega
      clear hc0
      go_wp2_with fail
      refine (copied_any (l.take c0) a c0 cp _ (Lib.hid (by rw [List.length_take, HL.out]; omega)) (by omega) (Lib.hid (fun h => by have := HN.out h; omega)) (Lib.hid ((HT.out.no HF.out).take c0))).mono ?_
      rintro e wa ⟨hf, va, rfl, hva⟩
      have HFA := Lib.hid (HF.out.then hf)
      obtain ⟨aa, ca, rfl, hoa, _⟩ := hva.slice
      have HOA := Lib.hid hoa.at_
      have hla : (l.take c0).length = c0 := by rw [List.length_take, HL.out]; omega
      have HLA := Lib.hid hla
      rw [hla]
      clear hf hva hoa hla
      go_wp2_with fail
      have hpr := HP.out (l.take c0) (by rw [HLA.out]; omega) aa ca wa (HLV.out.no HFA.out) HOA.out
      rw [HLA.out] at hpr
      obtain ⟨hpc, hpe⟩ := hpr
      refine hpc.mono ?_
      intro e wb h
      clear hpc
      cases hR2 : progR (l.take c0) (gram nf) M [] 0 with
      | out => rw [hR2] at hpe; exact hpe.elim
      | fail k =>
        rw [hR2] at h
        simp only [ParseR] at h
        obtain ⟨rfl, hf⟩ := h
        have hk : k = c0 := ahead_cut (c := c0) (n := nf) (M := M) (by rw [HL.out]; omega) (by rw [HL.out]; omega) (by rw [HL.out]; omega) (fun q hq => by rw [HR.out] at hq; cases hq) hR2
        subst hk
        have HFB := Lib.hid (HFA.out.then hf)
        clear hf hR2 hpe
        go_wp2_with fail
        refine (works_any _ (HLV.out.no HFB.out)).mono ?_
        rintro e wc ⟨rfl, hf⟩
        have HFC := Lib.hid (HFB.out.then hf)
        clear hf
        go_wp2_with fail
        go_ret
        exact ⟨rfl, HFC.out⟩
      | ok ds q =>
        rw [hR2] at h
        simp only [ParseR] at h
        obtain ⟨hf, h⟩ := h
        have HFB := Lib.hid (HFA.out.then hf)
        clear hf hR2 hpe
        by_cases hbig : 100 < dProg ds
        ·
          rw [if_pos hbig] at h
          subst h
          clear hbig
          go_wp2_with fail
          refine (works_any _ (HLV.out.no HFB.out)).mono ?_
          rintro e wc ⟨rfl, hf⟩
          have HFC := Lib.hid (HFB.out.then hf)
          clear hf
          go_wp2_with fail
          go_ret
          exact ⟨rfl, HFC.out⟩
        ·
          rw [if_neg hbig] at h
          obtain ⟨v, rfl, hx⟩ := h
          clear hbig hx
          go_wp2_with fail
          refine (works_any _ (HLV.out.no HFB.out)).mono ?_
          rintro e wc ⟨rfl, hf⟩
          have HFC := Lib.hid (HFB.out.then hf)
          clear hf
          go_wp2_with fail
          go_ret
          exact ⟨rfl, HFC.out⟩
end Go.Proofs.YtjabhmepafofmaaDoor
