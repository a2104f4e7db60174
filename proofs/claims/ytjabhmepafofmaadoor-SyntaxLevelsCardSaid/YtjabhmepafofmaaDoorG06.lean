/- The smallest expression. -/
import Derived.Test.YtjabhmepafofmaaDoorG02
import Derived.Test.YtjabhmepafofmaaDoorG05
set_option linter.unusedVariables false
set_option linter.unusedSimpArgs false
namespace Go.Proofs.YtjabhmepafofmaaDoor
open Go.RowKit

set_option maxHeartbeats 4000000 in
set_option maxRecDepth 100000 in
theorem atom_step {gp : Nat} {a : Option Addr} {c : Nat} {l : List Tok} {g : Gr} (h : Oks gp a c l g) : CT gp a c l 89 [] (stE xE) g.pAtom := by
 intro w p hp0 ho
 have HO := Lib.hid ho
 have HP0 := Lib.hid hp0
 have HH := Lib.hid h
 have hq_p := hp0.le
 have hlen := hp0.len
 have HF : Hid (Fr (Just gp) w w) := Lib.hid (Fr.refl _ _)
 have R_gp : Hid (w.heap[gp]? = some (.cells #[.slice a l.length c, .int .i64 (p : Nat)] 60 (0, 0))) := Lib.hid hp0.blk
 obtain ⟨V, hV⟩ : ∃ V, Pr.run l (g.pAtom) p = V := ⟨_, rfl⟩
 rw [hV] at HO ⊢
 clear ho hp0 h
 simp only [Gr.pAtom, run_bind, run_skip, run_must, run_take, Pr.run, next, if_true, if_false, Bool.false_eq_true] at hV
 have HV := Lib.hid hV
 clear hV
 go_enter Tryd.func89, Tryd.ntmps89
 go_upto_region 1 with fail
 generalize hn : w.alloc _ = w1
 generalize hg : w.heap.size = g_r
 have HS := fa hn
 have R_r := nb hn hg
 have L_gp_r := lb hg R_gp
 have B_r := bs hg HF
 clear hn hg
 replace R_gp := kn HS R_gp
 replace HF := fn HF HS
 clear HS
 go_wp2_with fail
 obtain ⟨⟨kt_t, st_t, mt_t, qt_t⟩, ht⟩ : ∃ t, l.getD p zTok = t := ⟨_, rfl⟩
 refine (next_any gp a c l p w1 (Par.of HP0.out HF.out R_gp.out hq_p)).mono ?_
 rintro e w2 ⟨rfl, hf⟩
 rw [ht]
 simp only [tokV]
 have hv := HV.out
 (try simp only [Re.andThen, run_bind, run_skip, run_must, run_take, Pr.run, next, if_true, if_false, Bool.false_eq_true] at hv)
 (try simp only [ht] at hv)
 replace HV := Lib.hid hv
 have HT_t := Lib.hid ht
 clear hv ht
 have HS := Lib.hid hf
 clear hf
 replace R_gp := kn HS R_gp
 replace R_r := kn HS R_r
 replace HF := fn HF HS
 clear HS
 go_upto_region 2 with fail
 generalize hn : w2.alloc _ = w3
 generalize hg : w2.heap.size = g_t
 have HS := fa hn
 have R_t := nb hn hg
 have L_gp_t := lb hg R_gp
 have L_r_t := lb hg R_r
 have B_t := bs hg HF
 clear hn hg
 replace R_gp := kn HS R_gp
 replace R_r := kn HS R_r
 replace HF := fn HF HS
 clear HS
 go_upto_region 5 with fail
 generalize hn : w3.alloc _ = w4
 generalize hg : w3.heap.size = g_x
 have HS := fa hn
 have R_x := nb hn hg
 have L_gp_x := lb hg R_gp
 have L_r_x := lb hg R_r
 have L_t_x := lb hg R_t
 have B_x := bs hg HF
 clear hn hg
 replace R_gp := kn HS R_gp
 replace R_r := kn HS R_r
 replace R_t := kn HS R_t
 replace HF := fn HF HS
 clear HS
 by_cases hk1_t : kt_t = 1
 ·
  have hv := HV.out
  rw [if_pos hk1_t] at hv
  replace HV := Lib.hid hv
  clear hv
  have hq1_t : ((kt_t : Int) == 1) = true := by simp [hk1_t]
  have hn1_t : ((kt_t : Int) != 1) = false := by rw [bne, hq1_t]; rfl
  obtain ⟨d0_x, d1_x, d2_x, d3_x, d4_x, d5_x, d6_x⟩ := z7c R_x.out
  obtain ⟨f0_x, f1_x, f2_x, f3_x, f4_x, f5_x, f6_x⟩ := y7c R_x.out
  obtain ⟨d0_t, d1_t, d2_t, d3_t⟩ := z4c R_t.out
  obtain ⟨f0_t, f1_t, f2_t, f3_t⟩ := y4c R_t.out
  go_upto_region 15 with fail
  clear d0_x f0_x d1_x f1_x d2_x f2_x d3_x f3_x d4_x f4_x d5_x f5_x d6_x f6_x
  clear d0_t f0_t d1_t f1_t d2_t f2_t d3_t f3_t
  obtain ⟨w5, hn⟩ : ∃ wZ, setFrom g_x 0 [.int .u8 1, .string st_t, .int .i64 0, .string ⟨#[]⟩, .slice none 0 0, .slice none 0 0, .slice none 0 0] w4 = wZ := ⟨_, rfl⟩
  have R_x' := sf hn R_x rfl
  have HS := sg hn
  have he := hn
  simp only [setFrom, Nat.reduceAdd] at he
  rw [he]
  clear he
  clear hn
  replace R_gp := kj HS R_gp (by omega)
  replace R_r := kj HS R_r (by omega)
  replace R_t := kj HS R_t (by omega)
  replace HF := fb HF HS (by omega)
  have R_x := R_x'
  clear R_x' HS
  simp only [run_bind, run_skip, run_must, run_take, Pr.run, next, if_true, if_false, Bool.false_eq_true] at HV
  obtain ⟨d0_gp, d1_gp⟩ := z2c R_gp.out
  obtain ⟨f0_gp, f1_gp⟩ := y2c R_gp.out
  go_upto_region 16 with fail
  clear d0_gp f0_gp d1_gp f1_gp
  have hpl : p < l.length := kind_lt (k := 1) (by rw [HT_t.out]; exact hk1_t) (by decide)
  obtain ⟨w6, hn⟩ : ∃ wZ, w5.setCell ⟨gp, 1, none⟩ (.int .i64 ((p : Nat) + 1)) = wZ := ⟨_, rfl⟩
  have hp : Par w6 gp a c l (p + 1) := by rw [← hn]; exact ((Par.of HP0.out HF.out R_gp.out hq_p)).set hpl
  have hf : Fr (Just gp) w5 w6 := by rw [← hn]; exact Fr.setCell w5 ⟨gp, 1, none⟩ _
  rw [hn]
  clear hn hpl
  have HS := Lib.hid hf
  have RG := Lib.hid hp.blk
  have hq_pP1 := hp.le
  clear hf hp
  replace R_r := kj HS R_r (by omega)
  replace R_t := kj HS R_t (by omega)
  replace R_x := kj HS R_x (by omega)
  replace HF := ft HF HS
  replace R_gp := RG
  clear HS RG
  obtain ⟨d0_x, d1_x, d2_x, d3_x, d4_x, d5_x, d6_x⟩ := z7c R_x.out
  obtain ⟨f0_x, f1_x, f2_x, f3_x, f4_x, f5_x, f6_x⟩ := y7c R_x.out
  obtain ⟨d0_r, d1_r, d2_r, d3_r, d4_r, d5_r, d6_r⟩ := z7c R_r.out
  obtain ⟨f0_r, f1_r, f2_r, f3_r, f4_r, f5_r, f6_r⟩ := y7c R_r.out
  go_wp2_with fail
  clear d0_x f0_x d1_x f1_x d2_x f2_x d3_x f3_x d4_x f4_x d5_x f5_x d6_x f6_x
  clear d0_r f0_r d1_r f1_r d2_r f2_r d3_r f3_r d4_r f4_r d5_r f5_r d6_r f6_r
  obtain ⟨w7, hn⟩ : ∃ wZ, setFrom g_r 0 [.int .u8 1, .string st_t, .int .i64 0, .string ⟨#[]⟩, .slice none 0 0, .slice none 0 0, .slice none 0 0] w6 = wZ := ⟨_, rfl⟩
  have R_r' := sf hn R_r rfl
  have HS := sg hn
  have he := hn
  simp only [setFrom, Nat.reduceAdd] at he
  rw [he]
  clear he
  clear hn
  replace R_gp := kj HS R_gp (by omega)
  replace R_t := kj HS R_t (by omega)
  replace R_x := kj HS R_x (by omega)
  replace HF := fb HF HS (by omega)
  have R_r := R_r'
  clear R_r' HS
  (try simp only [Exit.inBlock, Exit.then])
  have hv := HV.out
  subst hv
  refine bodyPost_ret (results_st rfl Tryd.underlying32 (by kernel_rfl) _ _ g_r _ rfl rfl R_r.out) rfl ?_
  exact ⟨⟨_, rfl, hcE_none 1 st_t 0 nob⟩, HF.out, (Par.of HP0.out HF.out R_gp.out hq_pP1)⟩
 ·
  have hv := HV.out
  rw [if_neg hk1_t] at hv
  replace HV := Lib.hid hv
  clear hv
  have hq1_t : ((kt_t : Int) == 1) = false := by simp only [beq_eq_false_iff_ne, ne_eq]; omega
  have hn1_t : ((kt_t : Int) != 1) = true := by rw [bne, hq1_t]; rfl
  by_cases hk2_t : kt_t = 2
  ·
   have hq2_t : ((kt_t : Int) == 2) = true := by simp [hk2_t]
   have hn2_t : ((kt_t : Int) != 2) = false := by rw [bne, hq2_t]; rfl
   have hv := HV.out
   rw [if_pos (Or.inl hk2_t)] at hv
   replace HV := Lib.hid hv
   clear hv
   obtain ⟨d0_x, d1_x, d2_x, d3_x, d4_x, d5_x, d6_x⟩ := z7c R_x.out
   obtain ⟨f0_x, f1_x, f2_x, f3_x, f4_x, f5_x, f6_x⟩ := y7c R_x.out
   obtain ⟨d0_t, d1_t, d2_t, d3_t⟩ := z4c R_t.out
   obtain ⟨f0_t, f1_t, f2_t, f3_t⟩ := y4c R_t.out
   go_upto_region 15 with fail
   clear d0_x f0_x d1_x f1_x d2_x f2_x d3_x f3_x d4_x f4_x d5_x f5_x d6_x f6_x
   clear d0_t f0_t d1_t f1_t d2_t f2_t d3_t f3_t
   obtain ⟨w8, hn⟩ : ∃ wZ, setFrom g_x 0 [.int .u8 2, .string st_t, .int .i64 0, .string ⟨#[]⟩, .slice none 0 0, .slice none 0 0, .slice none 0 0] w4 = wZ := ⟨_, rfl⟩
   have R_x' := sf hn R_x rfl
   have HS := sg hn
   have he := hn
   simp only [setFrom, Nat.reduceAdd] at he
   rw [he]
   clear he
   clear hn
   replace R_gp := kj HS R_gp (by omega)
   replace R_r := kj HS R_r (by omega)
   replace R_t := kj HS R_t (by omega)
   replace HF := fb HF HS (by omega)
   have R_x := R_x'
   clear R_x' HS
   simp only [run_bind, run_skip, run_must, run_take, Pr.run, next, if_true, if_false, Bool.false_eq_true] at HV
   obtain ⟨d0_gp, d1_gp⟩ := z2c R_gp.out
   obtain ⟨f0_gp, f1_gp⟩ := y2c R_gp.out
   go_upto_region 16 with fail
   clear d0_gp f0_gp d1_gp f1_gp
   have hpl : p < l.length := kind_lt (k := 2) (by rw [HT_t.out]; exact hk2_t) (by decide)
   obtain ⟨w9, hn⟩ : ∃ wZ, w8.setCell ⟨gp, 1, none⟩ (.int .i64 ((p : Nat) + 1)) = wZ := ⟨_, rfl⟩
   have hp : Par w9 gp a c l (p + 1) := by rw [← hn]; exact ((Par.of HP0.out HF.out R_gp.out hq_p)).set hpl
   have hf : Fr (Just gp) w8 w9 := by rw [← hn]; exact Fr.setCell w8 ⟨gp, 1, none⟩ _
   rw [hn]
   clear hn hpl
   have HS := Lib.hid hf
   have RG := Lib.hid hp.blk
   have hq_pP1 := hp.le
   clear hf hp
   replace R_r := kj HS R_r (by omega)
   replace R_t := kj HS R_t (by omega)
   replace R_x := kj HS R_x (by omega)
   replace HF := ft HF HS
   replace R_gp := RG
   clear HS RG
   obtain ⟨d0_x, d1_x, d2_x, d3_x, d4_x, d5_x, d6_x⟩ := z7c R_x.out
   obtain ⟨f0_x, f1_x, f2_x, f3_x, f4_x, f5_x, f6_x⟩ := y7c R_x.out
   obtain ⟨d0_r, d1_r, d2_r, d3_r, d4_r, d5_r, d6_r⟩ := z7c R_r.out
   obtain ⟨f0_r, f1_r, f2_r, f3_r, f4_r, f5_r, f6_r⟩ := y7c R_r.out
   go_wp2_with fail
   clear d0_x f0_x d1_x f1_x d2_x f2_x d3_x f3_x d4_x f4_x d5_x f5_x d6_x f6_x
   clear d0_r f0_r d1_r f1_r d2_r f2_r d3_r f3_r d4_r f4_r d5_r f5_r d6_r f6_r
   obtain ⟨w10, hn⟩ : ∃ wZ, setFrom g_r 0 [.int .u8 2, .string st_t, .int .i64 0, .string ⟨#[]⟩, .slice none 0 0, .slice none 0 0, .slice none 0 0] w9 = wZ := ⟨_, rfl⟩
   have R_r' := sf hn R_r rfl
   have HS := sg hn
   have he := hn
   simp only [setFrom, Nat.reduceAdd] at he
   rw [he]
   clear he
   clear hn
   replace R_gp := kj HS R_gp (by omega)
   replace R_t := kj HS R_t (by omega)
   replace R_x := kj HS R_x (by omega)
   replace HF := fb HF HS (by omega)
   have R_r := R_r'
   clear R_r' HS
   (try simp only [Exit.inBlock, Exit.then])
   have hv := HV.out
   subst hv
   refine bodyPost_ret (results_st rfl Tryd.underlying32 (by kernel_rfl) _ _ g_r _ rfl rfl R_r.out) rfl ?_
   exact ⟨⟨_, rfl, hcE_none 2 st_t 0 nob⟩, HF.out, (Par.of HP0.out HF.out R_gp.out hq_pP1)⟩
  ·
   have hq2_t : ((kt_t : Int) == 2) = false := by simp only [beq_eq_false_iff_ne, ne_eq]; omega
   have hn2_t : ((kt_t : Int) != 2) = true := by rw [bne, hq2_t]; rfl
   obtain ⟨d0_t, d1_t, d2_t, d3_t⟩ := z4c R_t.out
   obtain ⟨f0_t, f1_t, f2_t, f3_t⟩ := y4c R_t.out
   go_wp2_with fail
   clear d0_t f0_t d1_t f1_t d2_t f2_t d3_t f3_t
   generalize hn : w4.alloc _ = w11
   generalize hg : w4.heap.size = g_sk
   have HS := fa hn
   have R_sk := nb hn hg
   have L_gp_sk := lb hg R_gp
   have L_r_sk := lb hg R_r
   have L_t_sk := lb hg R_t
   have L_x_sk := lb hg R_x
   have B_sk := bs hg HF
   clear hn hg
   replace R_gp := kn HS R_gp
   replace R_r := kn HS R_r
   replace R_t := kn HS R_t
   replace R_x := kn HS R_x
   replace HF := fn HF HS
   clear HS
   cases hb_sk : seesB (l.getD p zTok) [⟨#[116, 114, 117, 101]⟩, ⟨#[102, 97, 108, 115, 101]⟩] with
   | true =>
    have hb_sk' := hb_sk
    rw [HT_t.out] at hb_sk'
    refine (ss_any (ts := [⟨#[116, 114, 117, 101]⟩, ⟨#[102, 97, 108, 115, 101]⟩]) (n := 2) (Par.of HP0.out HF.out R_gp.out hq_p) R_sk.out rfl (by omega) hb_sk).mono ?_
    rintro e w12 ⟨rfl, hf⟩
    clear R_sk
    have HS := Lib.hid hf
    clear hf
    replace R_gp := kn HS R_gp
    replace R_r := kn HS R_r
    replace R_t := kn HS R_t
    replace R_x := kn HS R_x
    replace HF := fn HF HS
    clear HS
    have hv := HV.out
    rw [if_pos (Or.inr hb_sk')] at hv
    replace HV := Lib.hid hv
    clear hv
    obtain ⟨d0_x, d1_x, d2_x, d3_x, d4_x, d5_x, d6_x⟩ := z7c R_x.out
    obtain ⟨f0_x, f1_x, f2_x, f3_x, f4_x, f5_x, f6_x⟩ := y7c R_x.out
    obtain ⟨d0_t, d1_t, d2_t, d3_t⟩ := z4c R_t.out
    obtain ⟨f0_t, f1_t, f2_t, f3_t⟩ := y4c R_t.out
    go_upto_region 15 with fail
    clear d0_x f0_x d1_x f1_x d2_x f2_x d3_x f3_x d4_x f4_x d5_x f5_x d6_x f6_x
    clear d0_t f0_t d1_t f1_t d2_t f2_t d3_t f3_t
    obtain ⟨w13, hn⟩ : ∃ wZ, setFrom g_x 0 [.int .u8 2, .string st_t, .int .i64 0, .string ⟨#[]⟩, .slice none 0 0, .slice none 0 0, .slice none 0 0] w12 = wZ := ⟨_, rfl⟩
    have R_x' := sf hn R_x rfl
    have HS := sg hn
    have he := hn
    simp only [setFrom, Nat.reduceAdd] at he
    rw [he]
    clear he
    clear hn
    replace R_gp := kj HS R_gp (by omega)
    replace R_r := kj HS R_r (by omega)
    replace R_t := kj HS R_t (by omega)
    replace HF := fb HF HS (by omega)
    have R_x := R_x'
    clear R_x' HS
    simp only [run_bind, run_skip, run_must, run_take, Pr.run, next, if_true, if_false, Bool.false_eq_true] at HV
    obtain ⟨d0_gp, d1_gp⟩ := z2c R_gp.out
    obtain ⟨f0_gp, f1_gp⟩ := y2c R_gp.out
    go_upto_region 16 with fail
    clear d0_gp f0_gp d1_gp f1_gp
    have hpl : p < l.length := sees_lt hb_sk
    obtain ⟨w14, hn⟩ : ∃ wZ, w13.setCell ⟨gp, 1, none⟩ (.int .i64 ((p : Nat) + 1)) = wZ := ⟨_, rfl⟩
    have hp : Par w14 gp a c l (p + 1) := by rw [← hn]; exact ((Par.of HP0.out HF.out R_gp.out hq_p)).set hpl
    have hf : Fr (Just gp) w13 w14 := by rw [← hn]; exact Fr.setCell w13 ⟨gp, 1, none⟩ _
    rw [hn]
    clear hn hpl
    have HS := Lib.hid hf
    have RG := Lib.hid hp.blk
    have hq_pP1 := hp.le
    clear hf hp
    replace R_r := kj HS R_r (by omega)
    replace R_t := kj HS R_t (by omega)
    replace R_x := kj HS R_x (by omega)
    replace HF := ft HF HS
    replace R_gp := RG
    clear HS RG
    obtain ⟨d0_x, d1_x, d2_x, d3_x, d4_x, d5_x, d6_x⟩ := z7c R_x.out
    obtain ⟨f0_x, f1_x, f2_x, f3_x, f4_x, f5_x, f6_x⟩ := y7c R_x.out
    obtain ⟨d0_r, d1_r, d2_r, d3_r, d4_r, d5_r, d6_r⟩ := z7c R_r.out
    obtain ⟨f0_r, f1_r, f2_r, f3_r, f4_r, f5_r, f6_r⟩ := y7c R_r.out
    go_wp2_with fail
    clear d0_x f0_x d1_x f1_x d2_x f2_x d3_x f3_x d4_x f4_x d5_x f5_x d6_x f6_x
    clear d0_r f0_r d1_r f1_r d2_r f2_r d3_r f3_r d4_r f4_r d5_r f5_r d6_r f6_r
    obtain ⟨w15, hn⟩ : ∃ wZ, setFrom g_r 0 [.int .u8 2, .string st_t, .int .i64 0, .string ⟨#[]⟩, .slice none 0 0, .slice none 0 0, .slice none 0 0] w14 = wZ := ⟨_, rfl⟩
    have R_r' := sf hn R_r rfl
    have HS := sg hn
    have he := hn
    simp only [setFrom, Nat.reduceAdd] at he
    rw [he]
    clear he
    clear hn
    replace R_gp := kj HS R_gp (by omega)
    replace R_t := kj HS R_t (by omega)
    replace R_x := kj HS R_x (by omega)
    replace HF := fb HF HS (by omega)
    have R_r := R_r'
    clear R_r' HS
    (try simp only [Exit.inBlock, Exit.then])
    have hv := HV.out
    subst hv
    refine bodyPost_ret (results_st rfl Tryd.underlying32 (by kernel_rfl) _ _ g_r _ rfl rfl R_r.out) rfl ?_
    exact ⟨⟨_, rfl, hcE_none 2 st_t 0 nob⟩, HF.out, (Par.of HP0.out HF.out R_gp.out hq_pP1)⟩
   | false =>
    have hb_sk' := hb_sk
    rw [HT_t.out] at hb_sk'
    refine (ss_any (ts := [⟨#[116, 114, 117, 101]⟩, ⟨#[102, 97, 108, 115, 101]⟩]) (n := 2) (Par.of HP0.out HF.out R_gp.out hq_p) R_sk.out rfl (by omega) hb_sk).mono ?_
    rintro e w16 ⟨rfl, hf⟩
    clear R_sk
    have HS := Lib.hid hf
    clear hf
    replace R_gp := kn HS R_gp
    replace R_r := kn HS R_r
    replace R_t := kn HS R_t
    replace R_x := kn HS R_x
    replace HF := fn HF HS
    clear HS
    have hv := HV.out
    rw [if_neg (fun h => h.elim (fun h => hk2_t h) (fun h => Bool.false_ne_true (hb_sk'.symm.trans h)))] at hv
    replace HV := Lib.hid hv
    clear hv
    by_cases hk4_t : kt_t = 4
    ·
     have hv := HV.out
     rw [if_pos hk4_t] at hv
     replace HV := Lib.hid hv
     clear hv
     have hq4_t : ((kt_t : Int) == 4) = true := by simp [hk4_t]
     have hn4_t : ((kt_t : Int) != 4) = false := by rw [bne, hq4_t]; rfl
     obtain ⟨d0_x, d1_x, d2_x, d3_x, d4_x, d5_x, d6_x⟩ := z7c R_x.out
     obtain ⟨f0_x, f1_x, f2_x, f3_x, f4_x, f5_x, f6_x⟩ := y7c R_x.out
     obtain ⟨d0_t, d1_t, d2_t, d3_t⟩ := z4c R_t.out
     obtain ⟨f0_t, f1_t, f2_t, f3_t⟩ := y4c R_t.out
     go_upto_region 15 with fail
     clear d0_x f0_x d1_x f1_x d2_x f2_x d3_x f3_x d4_x f4_x d5_x f5_x d6_x f6_x
     clear d0_t f0_t d1_t f1_t d2_t f2_t d3_t f3_t
     obtain ⟨w17, hn⟩ : ∃ wZ, setFrom g_x 0 [.int .u8 3, .string ⟨#[]⟩, .int .i64 mt_t, .string ⟨#[]⟩, .slice none 0 0, .slice none 0 0, .slice none 0 0] w16 = wZ := ⟨_, rfl⟩
     have R_x' := sf hn R_x rfl
     have HS := sg hn
     have he := hn
     simp only [setFrom, Nat.reduceAdd] at he
     rw [he]
     clear he
     clear hn
     replace R_gp := kj HS R_gp (by omega)
     replace R_r := kj HS R_r (by omega)
     replace R_t := kj HS R_t (by omega)
     replace HF := fb HF HS (by omega)
     have R_x := R_x'
     clear R_x' HS
     simp only [run_bind, run_skip, run_must, run_take, Pr.run, next, if_true, if_false, Bool.false_eq_true] at HV
     obtain ⟨d0_gp, d1_gp⟩ := z2c R_gp.out
     obtain ⟨f0_gp, f1_gp⟩ := y2c R_gp.out
     go_upto_region 16 with fail
     clear d0_gp f0_gp d1_gp f1_gp
     have hpl : p < l.length := kind_lt (k := 4) (by rw [HT_t.out]; exact hk4_t) (by decide)
     obtain ⟨w18, hn⟩ : ∃ wZ, w17.setCell ⟨gp, 1, none⟩ (.int .i64 ((p : Nat) + 1)) = wZ := ⟨_, rfl⟩
     have hp : Par w18 gp a c l (p + 1) := by rw [← hn]; exact ((Par.of HP0.out HF.out R_gp.out hq_p)).set hpl
     have hf : Fr (Just gp) w17 w18 := by rw [← hn]; exact Fr.setCell w17 ⟨gp, 1, none⟩ _
     rw [hn]
     clear hn hpl
     have HS := Lib.hid hf
     have RG := Lib.hid hp.blk
     have hq_pP1 := hp.le
     clear hf hp
     replace R_r := kj HS R_r (by omega)
     replace R_t := kj HS R_t (by omega)
     replace R_x := kj HS R_x (by omega)
     replace HF := ft HF HS
     replace R_gp := RG
     clear HS RG
     obtain ⟨d0_x, d1_x, d2_x, d3_x, d4_x, d5_x, d6_x⟩ := z7c R_x.out
     obtain ⟨f0_x, f1_x, f2_x, f3_x, f4_x, f5_x, f6_x⟩ := y7c R_x.out
     obtain ⟨d0_r, d1_r, d2_r, d3_r, d4_r, d5_r, d6_r⟩ := z7c R_r.out
     obtain ⟨f0_r, f1_r, f2_r, f3_r, f4_r, f5_r, f6_r⟩ := y7c R_r.out
     go_wp2_with fail
     clear d0_x f0_x d1_x f1_x d2_x f2_x d3_x f3_x d4_x f4_x d5_x f5_x d6_x f6_x
     clear d0_r f0_r d1_r f1_r d2_r f2_r d3_r f3_r d4_r f4_r d5_r f5_r d6_r f6_r
     obtain ⟨w19, hn⟩ : ∃ wZ, setFrom g_r 0 [.int .u8 3, .string ⟨#[]⟩, .int .i64 mt_t, .string ⟨#[]⟩, .slice none 0 0, .slice none 0 0, .slice none 0 0] w18 = wZ := ⟨_, rfl⟩
     have R_r' := sf hn R_r rfl
     have HS := sg hn
     have he := hn
     simp only [setFrom, Nat.reduceAdd] at he
     rw [he]
     clear he
     clear hn
     replace R_gp := kj HS R_gp (by omega)
     replace R_t := kj HS R_t (by omega)
     replace R_x := kj HS R_x (by omega)
     replace HF := fb HF HS (by omega)
     have R_r := R_r'
     clear R_r' HS
     (try simp only [Exit.inBlock, Exit.then])
     have hv := HV.out
     subst hv
     refine bodyPost_ret (results_st rfl Tryd.underlying32 (by kernel_rfl) _ _ g_r _ rfl rfl R_r.out) rfl ?_
     exact ⟨⟨_, rfl, hcE_none 3 nob mt_t nob⟩, HF.out, (Par.of HP0.out HF.out R_gp.out hq_pP1)⟩
    ·
     have hv := HV.out
     rw [if_neg hk4_t] at hv
     replace HV := Lib.hid hv
     clear hv
     have hq4_t : ((kt_t : Int) == 4) = false := by simp only [beq_eq_false_iff_ne, ne_eq]; omega
     have hn4_t : ((kt_t : Int) != 4) = true := by rw [bne, hq4_t]; rfl
     by_cases hk5_t : kt_t = 5
     ·
      have hv := HV.out
      rw [if_pos hk5_t] at hv
      replace HV := Lib.hid hv
      clear hv
      have hq5_t : ((kt_t : Int) == 5) = true := by simp [hk5_t]
      have hn5_t : ((kt_t : Int) != 5) = false := by rw [bne, hq5_t]; rfl
      obtain ⟨d0_x, d1_x, d2_x, d3_x, d4_x, d5_x, d6_x⟩ := z7c R_x.out
      obtain ⟨f0_x, f1_x, f2_x, f3_x, f4_x, f5_x, f6_x⟩ := y7c R_x.out
      obtain ⟨d0_t, d1_t, d2_t, d3_t⟩ := z4c R_t.out
      obtain ⟨f0_t, f1_t, f2_t, f3_t⟩ := y4c R_t.out
      go_upto_region 15 with fail
      clear d0_x f0_x d1_x f1_x d2_x f2_x d3_x f3_x d4_x f4_x d5_x f5_x d6_x f6_x
      clear d0_t f0_t d1_t f1_t d2_t f2_t d3_t f3_t
      obtain ⟨w20, hn⟩ : ∃ wZ, setFrom g_x 0 [.int .u8 4, .string ⟨#[]⟩, .int .i64 0, .string st_t, .slice none 0 0, .slice none 0 0, .slice none 0 0] w16 = wZ := ⟨_, rfl⟩
      have R_x' := sf hn R_x rfl
      have HS := sg hn
      have he := hn
      simp only [setFrom, Nat.reduceAdd] at he
      rw [he]
      clear he
      clear hn
      replace R_gp := kj HS R_gp (by omega)
      replace R_r := kj HS R_r (by omega)
      replace R_t := kj HS R_t (by omega)
      replace HF := fb HF HS (by omega)
      have R_x := R_x'
      clear R_x' HS
      simp only [run_bind, run_skip, run_must, run_take, Pr.run, next, if_true, if_false, Bool.false_eq_true] at HV
      obtain ⟨d0_gp, d1_gp⟩ := z2c R_gp.out
      obtain ⟨f0_gp, f1_gp⟩ := y2c R_gp.out
      go_upto_region 16 with fail
      clear d0_gp f0_gp d1_gp f1_gp
      have hpl : p < l.length := kind_lt (k := 5) (by rw [HT_t.out]; exact hk5_t) (by decide)
      obtain ⟨w21, hn⟩ : ∃ wZ, w20.setCell ⟨gp, 1, none⟩ (.int .i64 ((p : Nat) + 1)) = wZ := ⟨_, rfl⟩
      have hp : Par w21 gp a c l (p + 1) := by rw [← hn]; exact ((Par.of HP0.out HF.out R_gp.out hq_p)).set hpl
      have hf : Fr (Just gp) w20 w21 := by rw [← hn]; exact Fr.setCell w20 ⟨gp, 1, none⟩ _
      rw [hn]
      clear hn hpl
      have HS := Lib.hid hf
      have RG := Lib.hid hp.blk
      have hq_pP1 := hp.le
      clear hf hp
      replace R_r := kj HS R_r (by omega)
      replace R_t := kj HS R_t (by omega)
      replace R_x := kj HS R_x (by omega)
      replace HF := ft HF HS
      replace R_gp := RG
      clear HS RG
      obtain ⟨d0_x, d1_x, d2_x, d3_x, d4_x, d5_x, d6_x⟩ := z7c R_x.out
      obtain ⟨f0_x, f1_x, f2_x, f3_x, f4_x, f5_x, f6_x⟩ := y7c R_x.out
      obtain ⟨d0_r, d1_r, d2_r, d3_r, d4_r, d5_r, d6_r⟩ := z7c R_r.out
      obtain ⟨f0_r, f1_r, f2_r, f3_r, f4_r, f5_r, f6_r⟩ := y7c R_r.out
      go_wp2_with fail
      clear d0_x f0_x d1_x f1_x d2_x f2_x d3_x f3_x d4_x f4_x d5_x f5_x d6_x f6_x
      clear d0_r f0_r d1_r f1_r d2_r f2_r d3_r f3_r d4_r f4_r d5_r f5_r d6_r f6_r
      obtain ⟨w22, hn⟩ : ∃ wZ, setFrom g_r 0 [.int .u8 4, .string ⟨#[]⟩, .int .i64 0, .string st_t, .slice none 0 0, .slice none 0 0, .slice none 0 0] w21 = wZ := ⟨_, rfl⟩
      have R_r' := sf hn R_r rfl
      have HS := sg hn
      have he := hn
      simp only [setFrom, Nat.reduceAdd] at he
      rw [he]
      clear he
      clear hn
      replace R_gp := kj HS R_gp (by omega)
      replace R_t := kj HS R_t (by omega)
      replace R_x := kj HS R_x (by omega)
      replace HF := fb HF HS (by omega)
      have R_r := R_r'
      clear R_r' HS
      (try simp only [Exit.inBlock, Exit.then])
      have hv := HV.out
      subst hv
      refine bodyPost_ret (results_st rfl Tryd.underlying32 (by kernel_rfl) _ _ g_r _ rfl rfl R_r.out) rfl ?_
      exact ⟨⟨_, rfl, hcE_none 4 nob 0 st_t⟩, HF.out, (Par.of HP0.out HF.out R_gp.out hq_pP1)⟩
     ·
      have hv := HV.out
      rw [if_neg hk5_t] at hv
      replace HV := Lib.hid hv
      clear hv
      have hq5_t : ((kt_t : Int) == 5) = false := by simp only [beq_eq_false_iff_ne, ne_eq]; omega
      have hn5_t : ((kt_t : Int) != 5) = true := by rw [bne, hq5_t]; rfl
      simp only [run_bind, run_skip, run_must, run_take, Pr.run, next, if_true, if_false, Bool.false_eq_true] at HV
      obtain ⟨d0_t, d1_t, d2_t, d3_t⟩ := z4c R_t.out
      obtain ⟨f0_t, f1_t, f2_t, f3_t⟩ := y4c R_t.out
      go_wp2_with fail
      clear d0_t f0_t d1_t f1_t d2_t f2_t d3_t f3_t
      generalize hn : w16.alloc _ = w23
      generalize hg : w16.heap.size = g_sk
      have HS := fa hn
      have R_sk := nb hn hg
      have L_gp_sk := lb hg R_gp
      have L_r_sk := lb hg R_r
      have L_t_sk := lb hg R_t
      have L_x_sk := lb hg R_x
      have B_sk := bs hg HF
      clear hn hg
      replace R_gp := kn HS R_gp
      replace R_r := kn HS R_r
      replace R_t := kn HS R_t
      replace R_x := kn HS R_x
      replace HF := fn HF HS
      clear HS
      cases hb_sk : seesB (l.getD p zTok) [⟨#[108, 101, 116]⟩] with
      | true =>
       have hb_sk' := hb_sk
       rw [HT_t.out] at hb_sk'
       simp only [hb_sk, hb_sk', Re.andThen, run_bind, run_skip, run_must, run_take, Pr.run, next, if_true, if_false, Bool.false_eq_true] at HV
       refine (sk_any (ts := [⟨#[108, 101, 116]⟩]) (n := 1) (Par.of HP0.out HF.out R_gp.out hq_p) R_sk.out rfl (by omega) hb_sk).mono ?_
       rintro e w24 ⟨rfl, hf, hp⟩
       replace hp : Par w24 gp a c l (p + 1) := hp
       clear R_sk
       have HS := Lib.hid hf
       have RG := Lib.hid hp.blk
       have hq_pP1 := hp.le
       clear hf hp
       replace R_r := kj HS R_r (by omega)
       replace R_t := kj HS R_t (by omega)
       replace R_x := kj HS R_x (by omega)
       replace HF := ft HF HS
       replace R_gp := RG
       clear HS RG
       go_wp2_with fail
       cases hr_e : Pr.run l g.let_ (p + 1) with
       | out =>
        simp only [hr_e, Re.andThen, run_bind, run_skip, run_must, run_take, Pr.run, next, if_true, if_false, Bool.false_eq_true] at HV
        exact absurd HV.out.symm HO.out
       | fail q =>
        simp only [hr_e, Re.andThen, run_bind, run_skip, run_must, run_take, Pr.run, next, if_true, if_false, Bool.false_eq_true] at HV
        refine ((HH.out.let_).bad (Par.of HP0.out HF.out R_gp.out hq_pP1) hr_e).mono ?_
        rintro e w25 ⟨rfl, hf, hp⟩
        have hv := HV.out
        subst hv
        exact ⟨rfl, rfl, HF.out.trans hf (fun _ _ h => h), hp⟩
       | ok x_e q26 =>
        simp only [hr_e, Re.andThen, run_bind, run_skip, run_must, run_take, Pr.run, next, if_true, if_false, Bool.false_eq_true] at HV
        have hsz_e : gp < w24.heap.size := lt_of_block R_gp.out
        obtain ⟨b_e, hB⟩ : ∃ bZ, w24.heap.size = bZ := ⟨_, rfl⟩
        have K_gp_e := lb hB R_gp
        have K_r_e := lb hB R_r
        have K_t_e := lb hB R_t
        have K_x_e := lb hB R_x
        have KB_e := bs hB HF
        clear hsz_e
        refine ((HH.out.let_).good (Par.of HP0.out HF.out R_gp.out hq_pP1) hr_e).mono ?_
        rintro e w27 ⟨⟨cs_e, rfl, hc⟩, hf, hp⟩
        rw [hB] at hc
        clear hB
        obtain ⟨h_e, hH⟩ : ∃ hZ, w27.heap.size = hZ := ⟨_, rfl⟩
        have I_e := im hH hc
        have Z_h_e : h_e ≤ w27.heap.size := Nat.le_of_eq hH.symm
        clear hc hH
        have HS := Lib.hid hf
        have RG := Lib.hid hp.blk
        have hq_q26 := hp.le
        clear hf hp
        replace R_r := kj HS R_r (by omega)
        replace R_t := kj HS R_t (by omega)
        replace R_x := kj HS R_x (by omega)
        replace HF := ft HF HS
        replace R_gp := RG
        clear HS RG
        obtain ⟨k_e, s_e, n_e, u_e, a1_e, m1_e, c1_e, a2_e, m2_e, c2_e, a3_e, m3_e, c3_e, ecs⟩ := hcE I_e.out
        subst ecs
        obtain ⟨d0_r, d1_r, d2_r, d3_r, d4_r, d5_r, d6_r⟩ := z7c R_r.out
        obtain ⟨f0_r, f1_r, f2_r, f3_r, f4_r, f5_r, f6_r⟩ := y7c R_r.out
        go_wp2_with fail
        clear d0_r f0_r d1_r f1_r d2_r f2_r d3_r f3_r d4_r f4_r d5_r f5_r d6_r f6_r
        obtain ⟨w28, hn⟩ : ∃ wZ, setFrom g_r 0 [.int .u8 k_e, .string s_e, .int .i64 n_e, .string u_e, .slice a1_e m1_e c1_e, .slice a2_e m2_e c2_e, .slice a3_e m3_e c3_e] w27 = wZ := ⟨_, rfl⟩
        have R_r' := sf hn R_r rfl
        have HS := sg hn
        have he := hn
        simp only [setFrom, Nat.reduceAdd] at he
        rw [he]
        clear he
        clear hn
        replace R_gp := kj HS R_gp (by omega)
        replace R_t := kj HS R_t (by omega)
        replace R_x := kj HS R_x (by omega)
        replace I_e := ij I_e HS (by omega)
        replace HF := fb HF HS (by omega)
        replace Z_h_e := zt Z_h_e HS
        have R_r := R_r'
        clear R_r' HS
        (try simp only [Exit.inBlock, Exit.then])
        have hv := HV.out
        subst hv
        refine bodyPost_ret (results_st rfl Tryd.underlying32 (by kernel_rfl) _ _ g_r _ rfl rfl R_r.out) rfl ?_
        exact ⟨⟨_, rfl, I_e.out.mono (fun b _ hb => by have := hb.1; omega)⟩, HF.out, (Par.of HP0.out HF.out R_gp.out hq_q26)⟩
      | false =>
       have hb_sk' := hb_sk
       rw [HT_t.out] at hb_sk'
       simp only [hb_sk, hb_sk', Re.andThen, run_bind, run_skip, run_must, run_take, Pr.run, next, if_true, if_false, Bool.false_eq_true] at HV
       refine (sk_any (ts := [⟨#[108, 101, 116]⟩]) (n := 1) (Par.of HP0.out HF.out R_gp.out hq_p) R_sk.out rfl (by omega) hb_sk).mono ?_
       rintro e w29 ⟨rfl, hf, hp⟩
       replace hp : Par w29 gp a c l p := hp
       clear R_sk
       have HS := Lib.hid hf
       have RG := Lib.hid hp.blk
       have hq_p := hp.le
       clear hf hp
       replace R_r := kj HS R_r (by omega)
       replace R_t := kj HS R_t (by omega)
       replace R_x := kj HS R_x (by omega)
       replace HF := ft HF HS
       replace R_gp := RG
       clear HS RG
       go_wp2_with fail
       cases hm_op : seesB (l.getD p zTok) [⟨#[40]⟩] with
       | false =>
        have hm_op' := hm_op
        rw [HT_t.out] at hm_op'
        simp only [hm_op, hm_op', Re.andThen, run_bind, run_skip, run_must, run_take, Pr.run, next, if_true, if_false, Bool.false_eq_true] at HV
        refine (must_bad (Par.of HP0.out HF.out R_gp.out hq_p) hm_op).mono ?_
        rintro e w30 ⟨rfl, hf, hp⟩
        have hv := HV.out
        subst hv
        exact ⟨rfl, rfl, HF.out.trans hf (fun _ _ h => h), hp⟩
       | true =>
        have hm_op' := hm_op
        rw [HT_t.out] at hm_op'
        simp only [hm_op, hm_op', Re.andThen, run_bind, run_skip, run_must, run_take, Pr.run, next, if_true, if_false, Bool.false_eq_true] at HV
        refine (must_good (Par.of HP0.out HF.out R_gp.out hq_p) hm_op).mono ?_
        rintro e w31 ⟨rfl, hf, hp⟩
        have HS := Lib.hid hf
        have RG := Lib.hid hp.blk
        have hq_pP1 := hp.le
        clear hf hp
        replace R_r := kj HS R_r (by omega)
        replace R_t := kj HS R_t (by omega)
        replace R_x := kj HS R_x (by omega)
        replace HF := ft HF HS
        replace R_gp := RG
        clear HS RG
        go_wp2_with fail
        cases hr_e : Pr.run l g.round (p + 1) with
        | out =>
         simp only [hr_e, Re.andThen, run_bind, run_skip, run_must, run_take, Pr.run, next, if_true, if_false, Bool.false_eq_true] at HV
         exact absurd HV.out.symm HO.out
        | fail q =>
         simp only [hr_e, Re.andThen, run_bind, run_skip, run_must, run_take, Pr.run, next, if_true, if_false, Bool.false_eq_true] at HV
         refine ((HH.out.round).bad (Par.of HP0.out HF.out R_gp.out hq_pP1) hr_e).mono ?_
         rintro e w32 ⟨rfl, hf, hp⟩
         have hv := HV.out
         subst hv
         exact ⟨rfl, rfl, HF.out.trans hf (fun _ _ h => h), hp⟩
        | ok x_e q33 =>
         simp only [hr_e, Re.andThen, run_bind, run_skip, run_must, run_take, Pr.run, next, if_true, if_false, Bool.false_eq_true] at HV
         have hsz_e : gp < w31.heap.size := lt_of_block R_gp.out
         obtain ⟨b_e, hB⟩ : ∃ bZ, w31.heap.size = bZ := ⟨_, rfl⟩
         have K_gp_e := lb hB R_gp
         have K_r_e := lb hB R_r
         have K_t_e := lb hB R_t
         have K_x_e := lb hB R_x
         have KB_e := bs hB HF
         clear hsz_e
         refine ((HH.out.round).good (Par.of HP0.out HF.out R_gp.out hq_pP1) hr_e).mono ?_
         rintro e w34 ⟨⟨cs_e, rfl, hc⟩, hf, hp⟩
         rw [hB] at hc
         clear hB
         obtain ⟨h_e, hH⟩ : ∃ hZ, w34.heap.size = hZ := ⟨_, rfl⟩
         have I_e := im hH hc
         have Z_h_e : h_e ≤ w34.heap.size := Nat.le_of_eq hH.symm
         clear hc hH
         have HS := Lib.hid hf
         have RG := Lib.hid hp.blk
         have hq_q33 := hp.le
         clear hf hp
         replace R_r := kj HS R_r (by omega)
         replace R_t := kj HS R_t (by omega)
         replace R_x := kj HS R_x (by omega)
         replace HF := ft HF HS
         replace R_gp := RG
         clear HS RG
         obtain ⟨k_e, s_e, n_e, u_e, a1_e, m1_e, c1_e, a2_e, m2_e, c2_e, a3_e, m3_e, c3_e, ecs⟩ := hcE I_e.out
         subst ecs
         obtain ⟨d0_r, d1_r, d2_r, d3_r, d4_r, d5_r, d6_r⟩ := z7c R_r.out
         obtain ⟨f0_r, f1_r, f2_r, f3_r, f4_r, f5_r, f6_r⟩ := y7c R_r.out
         go_wp2_with fail
         clear d0_r f0_r d1_r f1_r d2_r f2_r d3_r f3_r d4_r f4_r d5_r f5_r d6_r f6_r
         obtain ⟨w35, hn⟩ : ∃ wZ, setFrom g_r 0 [.int .u8 k_e, .string s_e, .int .i64 n_e, .string u_e, .slice a1_e m1_e c1_e, .slice a2_e m2_e c2_e, .slice a3_e m3_e c3_e] w34 = wZ := ⟨_, rfl⟩
         have R_r' := sf hn R_r rfl
         have HS := sg hn
         have he := hn
         simp only [setFrom, Nat.reduceAdd] at he
         rw [he]
         clear he
         clear hn
         replace R_gp := kj HS R_gp (by omega)
         replace R_t := kj HS R_t (by omega)
         replace R_x := kj HS R_x (by omega)
         replace I_e := ij I_e HS (by omega)
         replace HF := fb HF HS (by omega)
         replace Z_h_e := zt Z_h_e HS
         have R_r := R_r'
         clear R_r' HS
         (try simp only [Exit.inBlock, Exit.then])
         have hv := HV.out
         subst hv
         refine bodyPost_ret (results_st rfl Tryd.underlying32 (by kernel_rfl) _ _ g_r _ rfl rfl R_r.out) rfl ?_
         exact ⟨⟨_, rfl, I_e.out.mono (fun b _ hb => by have := hb.1; omega)⟩, HF.out, (Par.of HP0.out HF.out R_gp.out hq_q33)⟩
end Go.Proofs.YtjabhmepafofmaaDoor
