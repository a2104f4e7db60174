/- SyntaxLevels: the law's own tree. -/
import Derived.Test.YtjabhmepafofmaaDoorLLw
set_option linter.unusedVariables false
set_option linter.unusedSimpArgs false
namespace Go.Proofs.YtjabhmepafofmaaDoor
open Go.RowKit

/-- operands, and the operators between them, in memory -/
def NmRow (w : World) (x : Nat) (ps : Ps) (v : Value) : Prop := Hx (fun _ => True) w (.row 1 ((x :: ps.map (·.2)).map fun j => [xb (nmB j)])) v
def OpRow (w : World) (ps : Ps) (v : Value) : Prop := Hx (fun _ => True) w (.row 1 ((ps.map (·.1)).map fun i => [xb (opB i)])) v
def TreeE (x : Nat) (ps : Ps) (w : World) (e : Ending) (w' : World) : Prop := Fr No w w' ∧ ∃ cs, e = .returned (.agg cs.toArray) ∧ Hc (fun b => w.heap.size ≤ b) w' (xE (tree x ps)) cs
theorem nm_at {w : World} {x n c : Nat} {ps : Ps} {a : Option Addr} (h : NmRow w x ps (.slice a n c)) {j y : Nat} (hj : (x :: ps.map (·.2))[j]? = some y) : ∃ g o, a = some ⟨g, o, none⟩ ∧ w.cell? ⟨g, o + j, none⟩ = some (.string (nmB y)) := by
 obtain ⟨g, o, cs, e, _, _, hc, hx⟩ := hx_at h (j := j) (x := [xb (nmB y)]) (by rw [List.getElem?_map, hj]; rfl)
 obtain ⟨_, rfl, h1⟩ := hc_lit hx
 obtain rfl := hc_nil h1
 exact ⟨g, o, e, by have := hc 0 _ rfl; rwa [Nat.mul_one, Nat.add_zero] at this⟩
theorem op_at {w : World} {n c : Nat} {ps : Ps} {a : Option Addr} (h : OpRow w ps (.slice a n c)) {j : Nat} {y : Nat × Nat} (hj : ps[j]? = some y) : ∃ g o, a = some ⟨g, o, none⟩ ∧ w.cell? ⟨g, o + j, none⟩ = some (.string (opB y.1)) := by
 obtain ⟨g, o, cs, e, _, _, hc, hx⟩ := hx_at h (j := j) (x := [xb (opB y.1)]) (by rw [List.getElem?_map, List.getElem?_map, hj]; rfl)
 obtain ⟨_, rfl, h1⟩ := hc_lit hx
 obtain rfl := hc_nil h1
 exact ⟨g, o, e, by have := hc 0 _ rfl; rwa [Nat.mul_one, Nat.add_zero] at this⟩
theorem row_slice {ok : Nat → Prop} {w : World} {k : Nat} {ls : List (List X)} {v : Value} (h : Hx ok w (.row k ls) v) : ∃ a c, v = .slice a ls.length c ∧ ls.length ≤ c ∧ c ≤ maxLen ∧ (a = none → c = 0) := by
 simp only [Hx] at h
 obtain ⟨a, c, e, h1, h2, _⟩ := h
 exact ⟨a, c, e, h2.1, h2.2, fun ha => (h1 ha).1⟩
set_option maxHeartbeats 8000000 in
set_option maxRecDepth 100000 in
theorem tree_any : ∀ (M x : Nat) (ps : Ps) (w : World) (v1 v2 : Value), ps.length < M → ps.length ≤ 40 → (∀ c ∈ ps, c.1 < 9) → NmRow w x ps v1 → OpRow w ps v2 → Calls Tryd.prog 19 #[v1, v2] w (TreeE x ps w)
 | 0, _, _, _, _, _, h, _, _, _, _ => absurd h (Nat.not_lt_zero _)
 | M + 1, x, ps, w, v1, v2, hM, hs, h9, hn, ho => by
  obtain ⟨a1, c1, rfl, hc1, hm1, _⟩ := row_slice hn
  obtain ⟨a2, c2, rfl, hc2, hm2, hz2⟩ := row_slice ho
  simp only [List.length_map, List.length_cons] at hn ho hc1 hc2 ⊢
  unfold maxLen at hm1 hm2
  obtain ⟨g1, o1, rfl, hx0⟩ := nm_at hn (j := 0) (y := x) rfl
  obtain ⟨n, hnn⟩ : ∃ n, ps.length = n := ⟨_, rfl⟩
  rw [hnn] at hM hs hn ho hc1 hc2 ⊢
  have HI : Hid (∀ (x : Nat) (qs : Ps) (w : World) (v1 v2 : Value), qs.length < M → qs.length ≤ 40 → (∀ c ∈ qs, c.1 < 9) → NmRow w x qs v1 → OpRow w qs v2 → Calls Tryd.prog 19 #[v1, v2] w (TreeE x qs w)) := Lib.hid (tree_any M)
  have HN := Lib.hid hn
  have HO := Lib.hid ho
  have HL := Lib.hid hnn
  have H9 := Lib.hid h9
  have HX0 := Lib.hid hx0
  clear hn ho hnn h9 hx0
  have HF : Hid (Fr No w w) := Lib.hid (Fr.refl _ _)
  go_enter Tryd.func19, Tryd.ntmps19
  go_upto_region 1 with fail
  obtain ⟨w6, hn⟩ : ∃ wZ, w.alloc (.cells #[.int .u8 0, .string ⟨#[]⟩, .int .i64 0, .string ⟨#[]⟩, .slice none 0 0, .slice none 0 0, .slice none 0 0] 32) = wZ := ⟨_, rfl⟩
  obtain ⟨g_r, hg⟩ : ∃ gZ, w.heap.size = gZ := ⟨_, rfl⟩
  rw [hn, hg]
  have HS : Hid (Fr No w w6) := Lib.hid (by rw [← hn]; exact Fr.alloc _ _)
  have R_r : Hid (w6.heap[g_r]? = some (.cells #[.int .u8 0, .string ⟨#[]⟩, .int .i64 0, .string ⟨#[]⟩, .slice none 0 0, .slice none 0 0, .slice none 0 0] 32 (0, 0))) := Lib.hid (by rw [← hn, ← hg]; exact new_block _ _)
  have B_r : w.heap.size ≤ g_r := by rw [← hg]; exact HF.out.size
  clear hn hg
  replace HF := Lib.hid (HF.out.then HS.out)
  clear HS
  by_cases h0 : n = 0
  ·
   subst h0
   obtain rfl : ps = [] := List.eq_nil_of_length_eq_zero HL.out
   have HS1 : Hid (∀ w', Fr No w w' → w'.cell? ⟨g1, o1, none⟩ = some (.string (nmB x))) := Lib.hid (fun w' hf => hf.cell (by have h := HX0.out; rwa [Nat.add_zero] at h))
   have k0 := HS1.out _ HF.out
   obtain ⟨d0_r, d1_r, d2_r, d3_r, d4_r, d5_r, d6_r⟩ : w6.cell? ⟨g_r, 0, none⟩ = some (.int .u8 0) ∧ w6.cell? ⟨g_r, 1, none⟩ = some (.string ⟨#[]⟩) ∧ w6.cell? ⟨g_r, 2, none⟩ = some (.int .i64 0) ∧ w6.cell? ⟨g_r, 3, none⟩ = some (.string ⟨#[]⟩) ∧ w6.cell? ⟨g_r, 4, none⟩ = some (.slice none 0 0) ∧ w6.cell? ⟨g_r, 5, none⟩ = some (.slice none 0 0) ∧ w6.cell? ⟨g_r, 6, none⟩ = some (.slice none 0 0) := ⟨cell_of R_r.out 0, cell_of R_r.out 1, cell_of R_r.out 2, cell_of R_r.out 3, cell_of R_r.out 4, cell_of R_r.out 5, cell_of R_r.out 6⟩
   obtain ⟨f0_r, f1_r, f2_r, f3_r, f4_r, f5_r, f6_r⟩ : w6.frozen? ⟨g_r, 0, none⟩ = false ∧ w6.frozen? ⟨g_r, 1, none⟩ = false ∧ w6.frozen? ⟨g_r, 2, none⟩ = false ∧ w6.frozen? ⟨g_r, 3, none⟩ = false ∧ w6.frozen? ⟨g_r, 4, none⟩ = false ∧ w6.frozen? ⟨g_r, 5, none⟩ = false ∧ w6.frozen? ⟨g_r, 6, none⟩ = false := ⟨free_of R_r.out 0, free_of R_r.out 1, free_of R_r.out 2, free_of R_r.out 3, free_of R_r.out 4, free_of R_r.out 5, free_of R_r.out 6⟩
   go_wp2_with fail
   clear k0
   clear d0_r f0_r d1_r f1_r d2_r f2_r d3_r f3_r d4_r f4_r d5_r f5_r d6_r f6_r
   obtain ⟨w7, hn⟩ : ∃ wZ, setFrom g_r 0 [.int .u8 1, .string (nmB x), .int .i64 0, .string ⟨#[]⟩, .slice none 0 0, .slice none 0 0, .slice none 0 0] w6 = wZ := ⟨_, rfl⟩
   have R_r' : Hid (w7.heap[g_r]? = some (.cells #[.int .u8 1, .string (nmB x), .int .i64 0, .string ⟨#[]⟩, .slice none 0 0, .slice none 0 0, .slice none 0 0] 32 (0, 0))) := Lib.hid (by rw [← hn]; exact setFrom_all [.int .u8 1, .string (nmB x), .int .i64 0, .string ⟨#[]⟩, .slice none 0 0, .slice none 0 0, .slice none 0 0] R_r.out rfl)
   have HS : Hid (Fr (Just g_r) w6 w7) := Lib.hid (by rw [← hn]; exact setFrom_fr _ _ _ _)
   rw [show (((((((w6.setCell ⟨g_r, 0, none⟩ (.int .u8 1)).setCell ⟨g_r, 1, none⟩ (.string (nmB x))).setCell ⟨g_r, 2, none⟩ (.int .i64 0)).setCell ⟨g_r, 3, none⟩ (.string ⟨#[]⟩)).setCell ⟨g_r, 4, none⟩ (.slice none 0 0)).setCell ⟨g_r, 5, none⟩ (.slice none 0 0)).setCell ⟨g_r, 6, none⟩ (.slice none 0 0)) = setFrom g_r 0 [.int .u8 1, .string (nmB x), .int .i64 0, .string ⟨#[]⟩, .slice none 0 0, .slice none 0 0, .slice none 0 0] w6 from rfl, hn]
   clear hn
   replace HF := Lib.hid (HF.out.own HS.out (fun i (h : i = g_r) => by omega))
   have R_r := R_r'
   clear R_r' HS
   refine bodyPost_ret (results_st rfl Tryd.underlying32 (by kernel_rfl) _ _ g_r _ rfl rfl R_r.out) rfl ?_
   exact ⟨HF.out, _, rfl, hcE_none 1 (nmB x) 0 nob⟩
  have hb0 : ((n : Int) == 0) = false := by simp only [beq_eq_false_iff_ne, ne_eq]; omega
  obtain ⟨y0, hy0⟩ : ∃ y, ps[0]? = some y := ⟨_, List.getElem?_eq_getElem (by rw [HL.out]; omega)⟩
  obtain ⟨g2, o2, rfl, hq0⟩ := op_at HO.out hy0
  clear hq0 hy0 y0 hz2
  go_wp2_with fail
  clear hb0
  go_loopw [5, 6, 7, 8] (fun kv iv va vb wr => ∃ i : Nat, 1 ≤ i ∧ i ≤ n ∧ iv = .int .i64 (i : Nat) ∧ kv = .int .i64 (cutTo (tl ps) i : Nat) ∧ Hid (Fr No w wr) ∧ Hid (wr.heap[g_r]? = some (.cells #[.int .u8 0, .string ⟨#[]⟩, .int .i64 0, .string ⟨#[]⟩, .slice none 0 0, .slice none 0 0, .slice none 0 0] 32 (0, 0)))) (fun _ i _ _ _ => n - intOf i)
  case atStart => exact ⟨1, Nat.le_refl _, by omega, rfl, by rw [show cutTo (tl ps) 1 = 0 from Nat.le_zero.1 (cutTo_le _ 0)]; rfl, HF, R_r⟩
  case round =>
   clear HF R_r
   obtain ⟨i, hi1, hi, rfl, rfl, HF, R_r⟩ := hrel
   obtain ⟨wL, hwL⟩ : ∃ wL, wL = wr := ⟨wr, rfl⟩
   rw [← hwL] at HF R_r ⊢
   clear hwL wr
   have hkl : cutTo (tl ps) i < i := by
    obtain ⟨j, rfl⟩ : ∃ j, i = j + 1 := ⟨i - 1, by omega⟩
    exact Nat.lt_succ_of_le (cutTo_le _ j)
   obtain ⟨kc, hK⟩ : ∃ kc, cutTo (tl ps) i = kc := ⟨_, rfl⟩
   rw [hK] at hkl ⊢
   have HK := Lib.hid hK
   clear hK
   obtain ⟨yk, hyk⟩ : ∃ y, ps[kc]? = some y := ⟨_, List.getElem?_eq_getElem (by rw [HL.out]; omega)⟩
   obtain ⟨_, _, e, hck⟩ := op_at HO.out hyk
   cases e
   have HYK := Lib.hid hyk
   have HCK := Lib.hid hck
   clear hyk hck
   have hk9 : yk.1 < 9 := H9.out yk (List.mem_of_getElem? HYK.out)
   have HS1 : Hid (∀ w', Fr No w w' → w'.cell? ⟨g2, o2 + kc, none⟩ = some (.string (opB yk.1))) := Lib.hid (fun w' hf => hf.cell HCK.out)
   by_cases hlt : i < n
   ·
    have hd0 : decide (i < n) = true := decide_eq_true hlt
    have hj0 : (0 : Int) ≤ (i : Int) := by omega
    have hj1 : (i : Int) < (n : Int) := by omega
    have hk0 : (0 : Int) ≤ (kc : Int) := by omega
    have hk1 : (kc : Int) < (n : Int) := by omega
    obtain ⟨yi, hyi⟩ : ∃ y, ps[i]? = some y := ⟨_, List.getElem?_eq_getElem (by rw [HL.out]; exact hlt)⟩
    obtain ⟨_, _, e, hci⟩ := op_at HO.out hyi
    cases e
    have HYI := Lib.hid hyi
    have HCI := Lib.hid hci
    clear hyi hci
    have hi9 : yi.1 < 9 := H9.out yi (List.mem_of_getElem? HYI.out)
    have HS2 : Hid (∀ w', Fr No w w' → w'.cell? ⟨g2, o2 + kc, none⟩ = some (.string (opB yk.1)) ∧ w'.cell? ⟨g2, o2 + i, none⟩ = some (.string (opB yi.1))) := Lib.hid (fun w' hf => by
     have q0 := HS1.out w' hf
     exact ⟨q0, hf.cell HCI.out⟩)
    obtain ⟨k0, k1⟩ := HS2.out _ HF.out
    go_wp2_with fail
    refine (tight_any hi9 wL).mono ?_
    rintro e w6 ⟨rfl, hw⟩
    subst hw
    go_wp2_with fail
    refine (tight_any hk9 wL).mono ?_
    rintro e w7 ⟨rfl, hw⟩
    subst hw
    clear k0 k1
    obtain ⟨ti, hti⟩ : ∃ t, tt yi.1 = t := ⟨_, rfl⟩
    obtain ⟨tk, htk⟩ : ∃ t, tt yk.1 = t := ⟨_, rfl⟩
    rw [hti, htk]
    have HT : Hid (cutTo (tl ps) (i + 1) = if ti < tk ∨ (ti = tk ∧ ti ≠ 2) then i else kc) := Lib.hid (by
     rw [cutTo, HK.out, show tl ps i = ti by rw [tl, List.getD_eq_getElem?_getD, HYI.out]; exact hti, show tl ps kc = tk by rw [tl, List.getD_eq_getElem?_getD, HYK.out]; exact htk])
    clear hti htk
    clear hd0
    by_cases hab : ti < tk
    ·
     have hx1 : decide (ti < tk) = true := decide_eq_true hab
     have hx2 : decide ((ti : Int) < (tk : Int)) = true := decide_eq_true (by omega)
     clear hlt
     go_wp2_with fail
     exact ⟨⟨i + 1, by omega, by omega, by go_num, by rw [HT.out, if_pos (.inl hab)], HF, R_r⟩, by simp [intOf]; omega⟩
    have hx1 : decide (ti < tk) = false := decide_eq_false hab
    have hx2 : decide ((ti : Int) < (tk : Int)) = false := decide_eq_false (by omega)
    by_cases hae : ti = tk
    ·
     have hx3 : ((ti : Int) == (tk : Int)) = true := by simp [hae]
     by_cases ha2 : ti = 2
     ·
      have hx4 : ((ti : Int) == 2) = true := by simp [ha2]
      have hx5 : ((ti : Int) != 2) = false := by rw [bne, hx4]; rfl
      have hno : ¬ (ti < tk ∨ (ti = tk ∧ ti ≠ 2)) := by omega
      clear hae ha2 hab hlt
      go_wp2_with fail
      exact ⟨⟨i + 1, by omega, by omega, by go_num, by rw [HT.out, if_neg hno], HF, R_r⟩, by simp [intOf]; omega⟩
     have hx4 : ((ti : Int) == 2) = false := by simp only [beq_eq_false_iff_ne, ne_eq]; omega
     have hx5 : ((ti : Int) != 2) = true := by rw [bne, hx4]; rfl
     have hyes : ti < tk ∨ (ti = tk ∧ ti ≠ 2) := .inr ⟨hae, ha2⟩
     clear hae ha2 hab hlt
     go_wp2_with fail
     exact ⟨⟨i + 1, by omega, by omega, by go_num, by rw [HT.out, if_pos hyes], HF, R_r⟩, by simp [intOf]; omega⟩
    have hx3 : ((ti : Int) == (tk : Int)) = false := by simp only [beq_eq_false_iff_ne, ne_eq]; omega
    have hno : ¬ (ti < tk ∨ (ti = tk ∧ ti ≠ 2)) := by omega
    clear hae hab hlt
    go_wp2_with fail
    exact ⟨⟨i + 1, by omega, by omega, by go_num, by rw [HT.out, if_neg hno], HF, R_r⟩, by simp [intOf]; omega⟩
   have hd0 : decide (i < n) = false := decide_eq_false hlt
   obtain rfl : i = n := by omega
   clear hlt hi hi1
   have HTR : Hid (tree x ps = Gr.mkE 15 (opB yk.1) [tree x (ps.take kc), tree yk.2 (ps.drop (kc + 1))]) := Lib.hid (by
    have hne : ps ≠ [] := by intro e; have h := HL.out; rw [e] at h; simp at h; omega
    rw [tree_cut hne, HL.out, HK.out, List.getD_eq_getElem?_getD, HYK.out]
    rfl)
   have hk0 : (0 : Int) ≤ (kc : Int) := by omega
   have hk1 : (kc : Int) < (i : Int) := by omega
   have hk2 : ((kc : Int) + 1) ≤ (i : Int) := by omega
   go_upto_region 11 with fail
   clear hd0
   have hwr : IntKind.i64.wrap ((kc : Int) + 1) = (kc : Int) + 1 := by rw [IntKind.wrap_i64]; omega
   have hz0 : (0 : Int) ≤ (kc : Int) + 1 := by omega
   have hz1 : (kc : Int) + 1 ≤ (c1 : Int) := by omega
   have hz2 : (kc : Int) + 1 ≤ (i : Int) + 1 := by omega
   have hz3 : ((kc : Int) + 1).toNat = kc + 1 := by omega
   have hz4 : kc ≤ c2 := by omega
   have hz5 : ¬ c1 = kc + 1 := by omega
   have HNA : Hid (∀ u, Fr No w u → NmRow u x (ps.take kc) (.slice (some ⟨g1, o1, none⟩) (kc + 1) c1)) := Lib.hid (fun u hf => by
    have h := hx_sub (HN.out.no hf) (by decide) 0 (kc + 1) (Nat.zero_le _) (by omega) c1 (by omega) (by unfold maxLen; omega) rfl
    rw [Nat.zero_mul, Nat.add_zero, Nat.sub_zero, List.drop_zero, ← List.map_take, List.take_succ_cons, ← List.map_take] at h
    exact h)
   have HOA : Hid (∀ u, Fr No w u → OpRow u (ps.take kc) (.slice (some ⟨g2, o2, none⟩) kc c2)) := Lib.hid (fun u hf => by
    have h := hx_sub (HO.out.no hf) (by decide) 0 kc (Nat.zero_le _) (by omega) c2 (by omega) (by unfold maxLen; omega) rfl
    rw [Nat.zero_mul, Nat.add_zero, Nat.sub_zero, List.drop_zero, ← List.map_take, ← List.map_take] at h
    exact h)
   have HNB : Hid (∀ u, Fr No w u → NmRow u yk.2 (ps.drop (kc + 1)) (.slice (some ⟨g1, o1 + (kc + 1), none⟩) (i - kc) (c1 - (kc + 1)))) := Lib.hid (fun u hf => by
    have h := hx_sub (HN.out.no hf) (by decide) (kc + 1) (i + 1) (by omega) (Nat.le_refl _) (c1 - (kc + 1)) (by omega) (by unfold maxLen; omega) rfl
    rw [Nat.mul_one, List.take_of_length_le (by simp [HL.out]), ← List.map_drop, List.drop_succ_cons, ← List.map_drop, List.drop_eq_getElem_cons (by rw [HL.out]; omega)] at h
    have e : ps[kc]'(by rw [HL.out]; omega) = yk := (List.getElem?_eq_some_iff.1 HYK.out).2
    rw [e, show i + 1 - (kc + 1) = i - kc by omega] at h
    exact h)
   by_cases hce : c2 = kc + 1
   ·
    subst hce
    have hz6 : (kc : Int) ≤ (kc : Int) + 1 := by omega
    have HOB : Hid (∀ u, Fr No w u → OpRow u (ps.drop (kc + 1)) (.slice (some ⟨g2, o2, none⟩) 0 0)) := Lib.hid (fun u hf => by
     rw [show ps.drop (kc + 1) = [] from List.drop_eq_nil_of_le (by rw [HL.out]; omega)]
     simp only [OpRow, Hx, List.map_nil, List.length_nil]
     exact ⟨_, _, rfl, (fun e => by cases e), ⟨Nat.le_refl _, Nat.zero_le _⟩, by simp [Hrow]⟩)
    refine region_e (fun w' => w'.cell? ⟨g2, o2 + kc, none⟩ = some (.string (opB yk.1))) [23] (by kernel_rfl) ?_ (fun hHeld => ?_)
    ·
     exact HS1.out _ (HF.out.then (Fr.drew _))
    obtain ⟨w8, hwd⟩ : ∃ wZ, wZ = wL.drew := ⟨_, rfl⟩
    have HS : Hid (Fr No wL w8) := Lib.hid (by rw [hwd]; exact Fr.drew _)
    rw [← hwd] at hHeld ⊢
    clear hwd
    replace R_r := Lib.hid (HS.out.keeps R_r.out no_one)
    replace HF := Lib.hid (HF.out.then HS.out)
    clear HS
    refine take_op 0 (some 45) (Op.move ( .tmp 1)) 22 ?_ (by kernel_rfl) (by kernel_rfl) (by kernel_rfl) (fun _ _ _ h => h) ?_ (by assumption) ?_
    rotate_left
    ·
     intro w hSw; (try dsimp only at hSw); go_simp; (try (with_reducible rfl))
    try simp only [Act.put, List.setIfInBounds_toArray, List.set_cons_zero, List.set_cons_succ]
    refine take_op 1 (some 46) (Op.move ( .tmp 5)) 3 ?_ (by kernel_rfl) (by kernel_rfl) (by kernel_rfl) (fun _ _ _ h => h) ?_ (by assumption) ?_
    rotate_left
    ·
     intro w hSw; (try dsimp only at hSw); go_simp; (try (with_reducible rfl))
    try simp only [Act.put, List.setIfInBounds_toArray, List.set_cons_zero, List.set_cons_succ]
    refine take_op 2 (some 47) (Op.indexAddr 22 ( .tmp 45) ( .tmp 46)) 0 ?_ (by kernel_rfl) (by kernel_rfl) (by kernel_rfl) (fun _ _ _ h => h) ?_ (by assumption) ?_
    rotate_left
    ·
     intro w hSw; (try dsimp only at hSw); go_simp; (try (with_reducible rfl))
    try simp only [Act.put, List.setIfInBounds_toArray, List.set_cons_zero, List.set_cons_succ]
    refine take_op 3 (some 48) (Op.load 9 ( .tmp 47)) 9 ?_ (by kernel_rfl) (by kernel_rfl) (by kernel_rfl) (fun _ _ _ h => h) ?_ (by assumption) ?_
    rotate_left
    ·
     intro w hSw; (try dsimp only at hSw); go_simp; (try (with_reducible rfl))
    try simp only [Act.put, List.setIfInBounds_toArray, List.set_cons_zero, List.set_cons_succ]
    refine take_op 4 (some 49) (Op.move ( .tmp 0)) 22 ?_ (by kernel_rfl) (by kernel_rfl) (by kernel_rfl) (fun _ _ _ h => h) ?_ (by assumption) ?_
    rotate_left
    ·
     intro w hSw; (try dsimp only at hSw); go_simp; (try (with_reducible rfl))
    try simp only [Act.put, List.setIfInBounds_toArray, List.set_cons_zero, List.set_cons_succ]
    refine take_op 5 (some 50) (Op.move ( .tmp 5)) 3 ?_ (by kernel_rfl) (by kernel_rfl) (by kernel_rfl) (fun _ _ _ h => h) ?_ (by assumption) ?_
    rotate_left
    ·
     intro w hSw; (try dsimp only at hSw); go_simp; (try (with_reducible rfl))
    try simp only [Act.put, List.setIfInBounds_toArray, List.set_cons_zero, List.set_cons_succ]
    refine take_op 6 (some 51) (Op.binOp BinOp.add 3 ( .tmp 50) ( .const (.int .i64 1)) 3) 3 ?_ (by kernel_rfl) (by kernel_rfl) (by kernel_rfl) (fun _ _ _ h => h) ?_ (by assumption) ?_
    rotate_left
    ·
     intro w hSw; (try dsimp only at hSw); go_simp; (try (with_reducible rfl))
    try simp only [Act.put, List.setIfInBounds_toArray, List.set_cons_zero, List.set_cons_succ]
    refine take_op 7 (some 52) (Op.slice 22 ( .tmp 49) none (some ( .tmp 51)) none) 22 ?_ (by kernel_rfl) (by kernel_rfl) (by kernel_rfl) (fun _ _ _ h => h) ?_ (by assumption) ?_
    rotate_left
    ·
     intro w hSw; (try dsimp only at hSw); go_simp; (try (with_reducible rfl))
    try simp only [Act.put, List.setIfInBounds_toArray, List.set_cons_zero, List.set_cons_succ]
    refine take_op 8 (some 53) (Op.move ( .tmp 1)) 22 ?_ (by kernel_rfl) (by kernel_rfl) (by kernel_rfl) (fun _ _ _ h => h) ?_ (by assumption) ?_
    rotate_left
    ·
     intro w hSw; (try dsimp only at hSw); go_simp; (try (with_reducible rfl))
    try simp only [Act.put, List.setIfInBounds_toArray, List.set_cons_zero, List.set_cons_succ]
    refine take_op 9 (some 54) (Op.move ( .tmp 5)) 3 ?_ (by kernel_rfl) (by kernel_rfl) (by kernel_rfl) (fun _ _ _ h => h) ?_ (by assumption) ?_
    rotate_left
    ·
     intro w hSw; (try dsimp only at hSw); go_simp; (try (with_reducible rfl))
    try simp only [Act.put, List.setIfInBounds_toArray, List.set_cons_zero, List.set_cons_succ]
    refine take_op 10 (some 55) (Op.slice 22 ( .tmp 53) none (some ( .tmp 54)) none) 22 ?_ (by kernel_rfl) (by kernel_rfl) (by kernel_rfl) (fun _ _ _ h => h) ?_ (by assumption) ?_
    rotate_left
    ·
     intro w hSw; (try dsimp only at hSw); go_simp; (try (with_reducible rfl))
    try simp only [Act.put, List.setIfInBounds_toArray, List.set_cons_zero, List.set_cons_succ]
    refine take_op 12 (some 57) (Op.move ( .tmp 0)) 22 ?_ (by kernel_rfl) (by kernel_rfl) (by kernel_rfl) (fun _ _ _ h => h) ?_ (by assumption) ?_
    rotate_left
    ·
     intro w hSw; (try dsimp only at hSw); go_simp; (try (with_reducible rfl))
    try simp only [Act.put, List.setIfInBounds_toArray, List.set_cons_zero, List.set_cons_succ]
    refine take_op 13 (some 58) (Op.move ( .tmp 5)) 3 ?_ (by kernel_rfl) (by kernel_rfl) (by kernel_rfl) (fun _ _ _ h => h) ?_ (by assumption) ?_
    rotate_left
    ·
     intro w hSw; (try dsimp only at hSw); go_simp; (try (with_reducible rfl))
    try simp only [Act.put, List.setIfInBounds_toArray, List.set_cons_zero, List.set_cons_succ]
    refine take_op 14 (some 59) (Op.binOp BinOp.add 3 ( .tmp 58) ( .const (.int .i64 1)) 3) 3 ?_ (by kernel_rfl) (by kernel_rfl) (by kernel_rfl) (fun _ _ _ h => h) ?_ (by assumption) ?_
    rotate_left
    ·
     intro w hSw; (try dsimp only at hSw); go_simp; (try (with_reducible rfl))
    try simp only [Act.put, List.setIfInBounds_toArray, List.set_cons_zero, List.set_cons_succ]
    refine take_op 15 (some 60) (Op.slice 22 ( .tmp 57) (some ( .tmp 59)) none none) 22 ?_ (by kernel_rfl) (by kernel_rfl) (by kernel_rfl) (fun _ _ _ h => h) ?_ (by assumption) ?_
    rotate_left
    ·
     intro w hSw; (try dsimp only at hSw); go_simp; (try (with_reducible rfl))
    try simp only [Act.put, List.setIfInBounds_toArray, List.set_cons_zero, List.set_cons_succ]
    refine take_op 16 (some 61) (Op.move ( .tmp 1)) 22 ?_ (by kernel_rfl) (by kernel_rfl) (by kernel_rfl) (fun _ _ _ h => h) ?_ (by assumption) ?_
    rotate_left
    ·
     intro w hSw; (try dsimp only at hSw); go_simp; (try (with_reducible rfl))
    try simp only [Act.put, List.setIfInBounds_toArray, List.set_cons_zero, List.set_cons_succ]
    refine take_op 17 (some 62) (Op.move ( .tmp 5)) 3 ?_ (by kernel_rfl) (by kernel_rfl) (by kernel_rfl) (fun _ _ _ h => h) ?_ (by assumption) ?_
    rotate_left
    ·
     intro w hSw; (try dsimp only at hSw); go_simp; (try (with_reducible rfl))
    try simp only [Act.put, List.setIfInBounds_toArray, List.set_cons_zero, List.set_cons_succ]
    refine take_op 18 (some 63) (Op.binOp BinOp.add 3 ( .tmp 62) ( .const (.int .i64 1)) 3) 3 ?_ (by kernel_rfl) (by kernel_rfl) (by kernel_rfl) (fun _ _ _ h => h) ?_ (by assumption) ?_
    rotate_left
    ·
     intro w hSw; (try dsimp only at hSw); go_simp; (try (with_reducible rfl))
    try simp only [Act.put, List.setIfInBounds_toArray, List.set_cons_zero, List.set_cons_succ]
    refine take_op 19 (some 64) (Op.slice 22 ( .tmp 61) (some ( .tmp 63)) none none) 22 ?_ (by kernel_rfl) (by kernel_rfl) (by kernel_rfl) (fun _ _ _ h => h) ?_ (by assumption) ?_
    rotate_left
    ·
     intro w hSw; (try dsimp only at hSw); go_simp; (try (with_reducible rfl))
    try simp only [Act.put, List.setIfInBounds_toArray, List.set_cons_zero, List.set_cons_succ]
    refine ready_e (rs := [11]) (by kernel_rfl) (by simp) ?_
    refine (do_mid (o := _) rfl (fun K hK => ?_) none_e)
    go_simp
    go_at_call 19
    obtain ⟨h_a, hB⟩ : ∃ bZ, w8.heap.size = bZ := ⟨_, rfl⟩
    have LR_a : g_r < h_a := by rw [← hB]; exact lt_of_block R_r.out
    have LW_a : w.heap.size ≤ h_a := by rw [← hB]; exact HF.out.size
    refine (HI.out x (ps.take kc) _ _ _ (by rw [List.length_take, HL.out]; omega) (by rw [List.length_take, HL.out]; omega) (fun c hc => H9.out c (List.mem_of_mem_take hc)) (HNA.out _ HF.out) (HOA.out _ HF.out)).mono ?_
    rintro e w9 ⟨hf, cs_a, rfl, hc⟩
    rw [hB] at hc
    have HC := Lib.hid hf
    have I_a := Lib.hid hc
    clear hf hc hB
    replace R_r := Lib.hid (HC.out.keeps R_r.out no_one)
    replace HF := Lib.hid (HF.out.then HC.out)
    clear HC
    obtain ⟨k_a, s_a, n_a, u_a, a1_a, m1_a, c1_a, a2_a, m2_a, c2_a, a3_a, m3_a, c3_a, ecs⟩ := hcE I_a.out
    subst ecs
    refine hK.out _ _ ?_ (fun hHeld => ?_)
    ·
     exact HS1.out _ HF.out
    clear hK K
    try dsimp only
    try simp only [Act.put, List.setIfInBounds_toArray, List.set_cons_zero, List.set_cons_succ]
    refine ready_e (rs := [20]) (by kernel_rfl) (by simp) ?_
    refine (do_mid (o := _) rfl (fun K hK => ?_) none_e)
    go_simp
    go_at_call 19
    obtain ⟨h_b, hB⟩ : ∃ bZ, w9.heap.size = bZ := ⟨_, rfl⟩
    have LR_b : g_r < h_b := by rw [← hB]; exact lt_of_block R_r.out
    have LW_b : w.heap.size ≤ h_b := by rw [← hB]; exact HF.out.size
    refine (HI.out yk.2 (ps.drop (kc + 1)) _ _ _ (by rw [List.length_drop, HL.out]; omega) (by rw [List.length_drop, HL.out]; omega) (fun c hc => H9.out c (List.mem_of_mem_drop hc)) (HNB.out _ HF.out) (HOB.out _ HF.out)).mono ?_
    rintro e w10 ⟨hf, cs_b, rfl, hc⟩
    rw [hB] at hc
    have HC := Lib.hid hf
    have I_b := Lib.hid hc
    clear hf hc hB
    replace R_r := Lib.hid (HC.out.keeps R_r.out no_one)
    replace I_a := Lib.hid (I_a.out.fr HC.out (fun _ _ => no_one))
    replace HF := Lib.hid (HF.out.then HC.out)
    clear HC
    obtain ⟨k_b, s_b, n_b, u_b, a1_b, m1_b, c1_b, a2_b, m2_b, c2_b, a3_b, m3_b, c3_b, ecs⟩ := hcE I_b.out
    subst ecs
    refine hK.out _ _ ?_ (fun hHeld => ?_)
    ·
     exact HS1.out _ HF.out
    clear hK K
    try dsimp only
    try simp only [Act.put, List.setIfInBounds_toArray, List.set_cons_zero, List.set_cons_succ]
    refine ready_e (rs := [21]) (by kernel_rfl) (by simp) ?_
    refine (do_mid (o := _) rfl (fun K hK => ?_) none_e)
    go_simp
    obtain ⟨w11, hn⟩ : ∃ wZ, w10.alloc (.cells #[.int .u8 k_a, .string s_a, .int .i64 n_a, .string u_a, .slice a1_a m1_a c1_a, .slice a2_a m2_a c2_a, .slice a3_a m3_a c3_a, .int .u8 k_b, .string s_b, .int .i64 n_b, .string u_b, .slice a1_b m1_b c1_b, .slice a2_b m2_b c2_b, .slice a3_b m3_b c3_b] 32) = wZ := ⟨_, rfl⟩
    obtain ⟨g_arr, hg⟩ : ∃ gZ, w10.heap.size = gZ := ⟨_, rfl⟩
    rw [hn, hg]
    have HS : Hid (Fr No w10 w11) := Lib.hid (by rw [← hn]; exact Fr.alloc _ _)
    have R_arr : Hid (w11.heap[g_arr]? = some (.cells #[.int .u8 k_a, .string s_a, .int .i64 n_a, .string u_a, .slice a1_a m1_a c1_a, .slice a2_a m2_a c2_a, .slice a3_a m3_a c3_a, .int .u8 k_b, .string s_b, .int .i64 n_b, .string u_b, .slice a1_b m1_b c1_b, .slice a2_b m2_b c2_b, .slice a3_b m3_b c3_b] 32 (0, 0))) := Lib.hid (by rw [← hn, ← hg]; exact new_block _ _)
    have L_r_arr : g_r < g_arr := by rw [← hg]; exact lt_of_block R_r.out
    have B_arr : w.heap.size ≤ g_arr := by rw [← hg]; exact HF.out.size
    clear hn hg
    replace R_r := Lib.hid (HS.out.keeps R_r.out no_one)
    replace I_a := Lib.hid (I_a.out.fr HS.out (fun _ _ => no_one))
    replace I_b := Lib.hid (I_b.out.fr HS.out (fun _ _ => no_one))
    replace HF := Lib.hid (HF.out.then HS.out)
    clear HS
    refine hK.out _ _ ?_ (fun hHeld => ?_)
    ·
     exact HS1.out _ HF.out
    clear hK K
    try dsimp only
    try simp only [Act.put, List.setIfInBounds_toArray, List.set_cons_zero, List.set_cons_succ]
    refine take_op 22 (some 67) (Op.build 32 #[(0,  .const (.int .u8 15)), (1,  .tmp 48), (4,  .tmp 66)]) 32 ?_ (by kernel_rfl) (by kernel_rfl) (by kernel_rfl) (fun _ _ _ h => h) ?_ (by assumption) ?_
    rotate_left
    ·
     intro w hSw; (try dsimp only at hSw); go_simp; (try (with_reducible rfl))
    try simp only [Act.put, List.setIfInBounds_toArray, List.set_cons_zero, List.set_cons_succ]
    obtain ⟨d0_r, d1_r, d2_r, d3_r, d4_r, d5_r, d6_r⟩ : w11.cell? ⟨g_r, 0, none⟩ = some (.int .u8 0) ∧ w11.cell? ⟨g_r, 1, none⟩ = some (.string ⟨#[]⟩) ∧ w11.cell? ⟨g_r, 2, none⟩ = some (.int .i64 0) ∧ w11.cell? ⟨g_r, 3, none⟩ = some (.string ⟨#[]⟩) ∧ w11.cell? ⟨g_r, 4, none⟩ = some (.slice none 0 0) ∧ w11.cell? ⟨g_r, 5, none⟩ = some (.slice none 0 0) ∧ w11.cell? ⟨g_r, 6, none⟩ = some (.slice none 0 0) := ⟨cell_of R_r.out 0, cell_of R_r.out 1, cell_of R_r.out 2, cell_of R_r.out 3, cell_of R_r.out 4, cell_of R_r.out 5, cell_of R_r.out 6⟩
    obtain ⟨f0_r, f1_r, f2_r, f3_r, f4_r, f5_r, f6_r⟩ : w11.frozen? ⟨g_r, 0, none⟩ = false ∧ w11.frozen? ⟨g_r, 1, none⟩ = false ∧ w11.frozen? ⟨g_r, 2, none⟩ = false ∧ w11.frozen? ⟨g_r, 3, none⟩ = false ∧ w11.frozen? ⟨g_r, 4, none⟩ = false ∧ w11.frozen? ⟨g_r, 5, none⟩ = false ∧ w11.frozen? ⟨g_r, 6, none⟩ = false := ⟨free_of R_r.out 0, free_of R_r.out 1, free_of R_r.out 2, free_of R_r.out 3, free_of R_r.out 4, free_of R_r.out 5, free_of R_r.out 6⟩
    refine ready_e (rs := [23]) (by kernel_rfl) (by simp) ?_
    refine (do_late (o := _) rfl (by kernel_rfl) (fun K hK => ?_) none_e)
    go_simp
    clear d0_r f0_r d1_r f1_r d2_r f2_r d3_r f3_r d4_r f4_r d5_r f5_r d6_r f6_r
    obtain ⟨w12, hn⟩ : ∃ wZ, setFrom g_r 0 [.int .u8 15, .string (opB yk.1), .int .i64 0, .string ⟨#[]⟩, .slice (some ⟨g_arr, 0, none⟩) 2 2, .slice none 0 0, .slice none 0 0] w11 = wZ := ⟨_, rfl⟩
    have R_r' : Hid (w12.heap[g_r]? = some (.cells #[.int .u8 15, .string (opB yk.1), .int .i64 0, .string ⟨#[]⟩, .slice (some ⟨g_arr, 0, none⟩) 2 2, .slice none 0 0, .slice none 0 0] 32 (0, 0))) := Lib.hid (by rw [← hn]; exact setFrom_all [.int .u8 15, .string (opB yk.1), .int .i64 0, .string ⟨#[]⟩, .slice (some ⟨g_arr, 0, none⟩) 2 2, .slice none 0 0, .slice none 0 0] R_r.out rfl)
    have HS : Hid (Fr (Just g_r) w11 w12) := Lib.hid (by rw [← hn]; exact setFrom_fr _ _ _ _)
    rw [show (((((((w11.setCell ⟨g_r, 0, none⟩ (.int .u8 15)).setCell ⟨g_r, 1, none⟩ (.string (opB yk.1))).setCell ⟨g_r, 2, none⟩ (.int .i64 0)).setCell ⟨g_r, 3, none⟩ (.string ⟨#[]⟩)).setCell ⟨g_r, 4, none⟩ (.slice (some ⟨g_arr, 0, none⟩) 2 2)).setCell ⟨g_r, 5, none⟩ (.slice none 0 0)).setCell ⟨g_r, 6, none⟩ (.slice none 0 0)) = setFrom g_r 0 [.int .u8 15, .string (opB yk.1), .int .i64 0, .string ⟨#[]⟩, .slice (some ⟨g_arr, 0, none⟩) 2 2, .slice none 0 0, .slice none 0 0] w11 from rfl, hn]
    clear hn
    replace R_arr := Lib.hid (HS.out.keeps R_arr.out (fun (h : g_arr = g_r) => by omega))
    replace I_a := Lib.hid (I_a.out.fr HS.out (fun b hb (h : b = g_r) => by have hb : h_a ≤ b := hb; omega))
    replace I_b := Lib.hid (I_b.out.fr HS.out (fun b hb (h : b = g_r) => by have hb : h_b ≤ b := hb; omega))
    replace HF := Lib.hid (HF.out.own HS.out (fun i (h : i = g_r) => by omega))
    have R_r := R_r'
    clear R_r' HS
    refine hK.out _ _ ?_
    clear hK K
    try dsimp only
    try simp only [Act.put, List.setIfInBounds_toArray, List.set_cons_zero, List.set_cons_succ]
    refine done_e (by kernel_rfl) ?_ _
    (try simp only [Exit.inBlock, Exit.then])
    go_wp2_with fail
    (try simp only [Exit.inBlock, Exit.then])
    refine bodyPost_ret (results_st rfl Tryd.underlying32 (by kernel_rfl) _ _ g_r _ rfl rfl R_r.out) rfl ?_
    exact ⟨HF.out, _, rfl, by rw [HTR.out]; exact hcE_kids 15 (opB yk.1) 0 nob (hx_two (c := [.int .u8 k_a, .string s_a, .int .i64 n_a, .string u_a, .slice a1_a m1_a c1_a, .slice a2_a m2_a c2_a, .slice a3_a m3_a c3_a]) (d := [.int .u8 k_b, .string s_b, .int .i64 n_b, .string u_b, .slice a1_b m1_b c1_b, .slice a2_b m2_b c2_b, .slice a3_b m3_b c3_b]) R_arr.out B_arr rfl rfl (by decide) (I_a.out.mono (fun b _ hb => Nat.le_trans LW_a hb)) (I_b.out.mono (fun b _ hb => Nat.le_trans LW_b hb)))⟩
   have HOB : Hid (∀ u, Fr No w u → OpRow u (ps.drop (kc + 1)) (.slice (some ⟨g2, o2 + (kc + 1), none⟩) (i - (kc + 1)) (c2 - (kc + 1)))) := Lib.hid (fun u hf => by
    have h := hx_sub (HO.out.no hf) (by decide) (kc + 1) i (by omega) (Nat.le_refl _) (c2 - (kc + 1)) (by omega) (by unfold maxLen; omega) rfl
    rw [Nat.mul_one, List.take_of_length_le (by simp [HL.out]), ← List.map_drop, ← List.map_drop] at h
    exact h)
   refine region_e (fun w' => w'.cell? ⟨g2, o2 + kc, none⟩ = some (.string (opB yk.1))) [23] (by kernel_rfl) ?_ (fun hHeld => ?_)
   ·
    exact HS1.out _ (HF.out.then (Fr.drew _))
   obtain ⟨w13, hwd⟩ : ∃ wZ, wZ = wL.drew := ⟨_, rfl⟩
   have HS : Hid (Fr No wL w13) := Lib.hid (by rw [hwd]; exact Fr.drew _)
   rw [← hwd] at hHeld ⊢
   clear hwd
   replace R_r := Lib.hid (HS.out.keeps R_r.out no_one)
   replace HF := Lib.hid (HF.out.then HS.out)
   clear HS
   refine take_op 0 (some 45) (Op.move ( .tmp 1)) 22 ?_ (by kernel_rfl) (by kernel_rfl) (by kernel_rfl) (fun _ _ _ h => h) ?_ (by assumption) ?_
   rotate_left
   ·
    intro w hSw; (try dsimp only at hSw); go_simp; (try (with_reducible rfl))
   try simp only [Act.put, List.setIfInBounds_toArray, List.set_cons_zero, List.set_cons_succ]
   refine take_op 1 (some 46) (Op.move ( .tmp 5)) 3 ?_ (by kernel_rfl) (by kernel_rfl) (by kernel_rfl) (fun _ _ _ h => h) ?_ (by assumption) ?_
   rotate_left
   ·
    intro w hSw; (try dsimp only at hSw); go_simp; (try (with_reducible rfl))
   try simp only [Act.put, List.setIfInBounds_toArray, List.set_cons_zero, List.set_cons_succ]
   refine take_op 2 (some 47) (Op.indexAddr 22 ( .tmp 45) ( .tmp 46)) 0 ?_ (by kernel_rfl) (by kernel_rfl) (by kernel_rfl) (fun _ _ _ h => h) ?_ (by assumption) ?_
   rotate_left
   ·
    intro w hSw; (try dsimp only at hSw); go_simp; (try (with_reducible rfl))
   try simp only [Act.put, List.setIfInBounds_toArray, List.set_cons_zero, List.set_cons_succ]
   refine take_op 3 (some 48) (Op.load 9 ( .tmp 47)) 9 ?_ (by kernel_rfl) (by kernel_rfl) (by kernel_rfl) (fun _ _ _ h => h) ?_ (by assumption) ?_
   rotate_left
   ·
    intro w hSw; (try dsimp only at hSw); go_simp; (try (with_reducible rfl))
   try simp only [Act.put, List.setIfInBounds_toArray, List.set_cons_zero, List.set_cons_succ]
   refine take_op 4 (some 49) (Op.move ( .tmp 0)) 22 ?_ (by kernel_rfl) (by kernel_rfl) (by kernel_rfl) (fun _ _ _ h => h) ?_ (by assumption) ?_
   rotate_left
   ·
    intro w hSw; (try dsimp only at hSw); go_simp; (try (with_reducible rfl))
   try simp only [Act.put, List.setIfInBounds_toArray, List.set_cons_zero, List.set_cons_succ]
   refine take_op 5 (some 50) (Op.move ( .tmp 5)) 3 ?_ (by kernel_rfl) (by kernel_rfl) (by kernel_rfl) (fun _ _ _ h => h) ?_ (by assumption) ?_
   rotate_left
   ·
    intro w hSw; (try dsimp only at hSw); go_simp; (try (with_reducible rfl))
   try simp only [Act.put, List.setIfInBounds_toArray, List.set_cons_zero, List.set_cons_succ]
   refine take_op 6 (some 51) (Op.binOp BinOp.add 3 ( .tmp 50) ( .const (.int .i64 1)) 3) 3 ?_ (by kernel_rfl) (by kernel_rfl) (by kernel_rfl) (fun _ _ _ h => h) ?_ (by assumption) ?_
   rotate_left
   ·
    intro w hSw; (try dsimp only at hSw); go_simp; (try (with_reducible rfl))
   try simp only [Act.put, List.setIfInBounds_toArray, List.set_cons_zero, List.set_cons_succ]
   refine take_op 7 (some 52) (Op.slice 22 ( .tmp 49) none (some ( .tmp 51)) none) 22 ?_ (by kernel_rfl) (by kernel_rfl) (by kernel_rfl) (fun _ _ _ h => h) ?_ (by assumption) ?_
   rotate_left
   ·
    intro w hSw; (try dsimp only at hSw); go_simp; (try (with_reducible rfl))
   try simp only [Act.put, List.setIfInBounds_toArray, List.set_cons_zero, List.set_cons_succ]
   refine take_op 8 (some 53) (Op.move ( .tmp 1)) 22 ?_ (by kernel_rfl) (by kernel_rfl) (by kernel_rfl) (fun _ _ _ h => h) ?_ (by assumption) ?_
   rotate_left
   ·
    intro w hSw; (try dsimp only at hSw); go_simp; (try (with_reducible rfl))
   try simp only [Act.put, List.setIfInBounds_toArray, List.set_cons_zero, List.set_cons_succ]
   refine take_op 9 (some 54) (Op.move ( .tmp 5)) 3 ?_ (by kernel_rfl) (by kernel_rfl) (by kernel_rfl) (fun _ _ _ h => h) ?_ (by assumption) ?_
   rotate_left
   ·
    intro w hSw; (try dsimp only at hSw); go_simp; (try (with_reducible rfl))
   try simp only [Act.put, List.setIfInBounds_toArray, List.set_cons_zero, List.set_cons_succ]
   refine take_op 10 (some 55) (Op.slice 22 ( .tmp 53) none (some ( .tmp 54)) none) 22 ?_ (by kernel_rfl) (by kernel_rfl) (by kernel_rfl) (fun _ _ _ h => h) ?_ (by assumption) ?_
   rotate_left
   ·
    intro w hSw; (try dsimp only at hSw); go_simp; (try (with_reducible rfl))
   try simp only [Act.put, List.setIfInBounds_toArray, List.set_cons_zero, List.set_cons_succ]
   refine take_op 12 (some 57) (Op.move ( .tmp 0)) 22 ?_ (by kernel_rfl) (by kernel_rfl) (by kernel_rfl) (fun _ _ _ h => h) ?_ (by assumption) ?_
   rotate_left
   ·
    intro w hSw; (try dsimp only at hSw); go_simp; (try (with_reducible rfl))
   try simp only [Act.put, List.setIfInBounds_toArray, List.set_cons_zero, List.set_cons_succ]
   refine take_op 13 (some 58) (Op.move ( .tmp 5)) 3 ?_ (by kernel_rfl) (by kernel_rfl) (by kernel_rfl) (fun _ _ _ h => h) ?_ (by assumption) ?_
   rotate_left
   ·
    intro w hSw; (try dsimp only at hSw); go_simp; (try (with_reducible rfl))
   try simp only [Act.put, List.setIfInBounds_toArray, List.set_cons_zero, List.set_cons_succ]
   refine take_op 14 (some 59) (Op.binOp BinOp.add 3 ( .tmp 58) ( .const (.int .i64 1)) 3) 3 ?_ (by kernel_rfl) (by kernel_rfl) (by kernel_rfl) (fun _ _ _ h => h) ?_ (by assumption) ?_
   rotate_left
   ·
    intro w hSw; (try dsimp only at hSw); go_simp; (try (with_reducible rfl))
   try simp only [Act.put, List.setIfInBounds_toArray, List.set_cons_zero, List.set_cons_succ]
   refine take_op 15 (some 60) (Op.slice 22 ( .tmp 57) (some ( .tmp 59)) none none) 22 ?_ (by kernel_rfl) (by kernel_rfl) (by kernel_rfl) (fun _ _ _ h => h) ?_ (by assumption) ?_
   rotate_left
   ·
    intro w hSw; (try dsimp only at hSw); go_simp; (try (with_reducible rfl))
   try simp only [Act.put, List.setIfInBounds_toArray, List.set_cons_zero, List.set_cons_succ]
   refine take_op 16 (some 61) (Op.move ( .tmp 1)) 22 ?_ (by kernel_rfl) (by kernel_rfl) (by kernel_rfl) (fun _ _ _ h => h) ?_ (by assumption) ?_
   rotate_left
   ·
    intro w hSw; (try dsimp only at hSw); go_simp; (try (with_reducible rfl))
   try simp only [Act.put, List.setIfInBounds_toArray, List.set_cons_zero, List.set_cons_succ]
   refine take_op 17 (some 62) (Op.move ( .tmp 5)) 3 ?_ (by kernel_rfl) (by kernel_rfl) (by kernel_rfl) (fun _ _ _ h => h) ?_ (by assumption) ?_
   rotate_left
   ·
    intro w hSw; (try dsimp only at hSw); go_simp; (try (with_reducible rfl))
   try simp only [Act.put, List.setIfInBounds_toArray, List.set_cons_zero, List.set_cons_succ]
   refine take_op 18 (some 63) (Op.binOp BinOp.add 3 ( .tmp 62) ( .const (.int .i64 1)) 3) 3 ?_ (by kernel_rfl) (by kernel_rfl) (by kernel_rfl) (fun _ _ _ h => h) ?_ (by assumption) ?_
   rotate_left
   ·
    intro w hSw; (try dsimp only at hSw); go_simp; (try (with_reducible rfl))
   try simp only [Act.put, List.setIfInBounds_toArray, List.set_cons_zero, List.set_cons_succ]
   refine take_op 19 (some 64) (Op.slice 22 ( .tmp 61) (some ( .tmp 63)) none none) 22 ?_ (by kernel_rfl) (by kernel_rfl) (by kernel_rfl) (fun _ _ _ h => h) ?_ (by assumption) ?_
   rotate_left
   ·
    intro w hSw; (try dsimp only at hSw); go_simp; (try (with_reducible rfl))
   try simp only [Act.put, List.setIfInBounds_toArray, List.set_cons_zero, List.set_cons_succ]
   refine ready_e (rs := [11]) (by kernel_rfl) (by simp) ?_
   refine (do_mid (o := _) rfl (fun K hK => ?_) none_e)
   go_simp
   go_at_call 19
   obtain ⟨h_a, hB⟩ : ∃ bZ, w13.heap.size = bZ := ⟨_, rfl⟩
   have LR_a : g_r < h_a := by rw [← hB]; exact lt_of_block R_r.out
   have LW_a : w.heap.size ≤ h_a := by rw [← hB]; exact HF.out.size
   refine (HI.out x (ps.take kc) _ _ _ (by rw [List.length_take, HL.out]; omega) (by rw [List.length_take, HL.out]; omega) (fun c hc => H9.out c (List.mem_of_mem_take hc)) (HNA.out _ HF.out) (HOA.out _ HF.out)).mono ?_
   rintro e w14 ⟨hf, cs_a, rfl, hc⟩
   rw [hB] at hc
   have HC := Lib.hid hf
   have I_a := Lib.hid hc
   clear hf hc hB
   replace R_r := Lib.hid (HC.out.keeps R_r.out no_one)
   replace HF := Lib.hid (HF.out.then HC.out)
   clear HC
   obtain ⟨k_a, s_a, n_a, u_a, a1_a, m1_a, c1_a, a2_a, m2_a, c2_a, a3_a, m3_a, c3_a, ecs⟩ := hcE I_a.out
   subst ecs
   refine hK.out _ _ ?_ (fun hHeld => ?_)
   ·
    exact HS1.out _ HF.out
   clear hK K
   try dsimp only
   try simp only [Act.put, List.setIfInBounds_toArray, List.set_cons_zero, List.set_cons_succ]
   refine ready_e (rs := [20]) (by kernel_rfl) (by simp) ?_
   refine (do_mid (o := _) rfl (fun K hK => ?_) none_e)
   go_simp
   go_at_call 19
   obtain ⟨h_b, hB⟩ : ∃ bZ, w14.heap.size = bZ := ⟨_, rfl⟩
   have LR_b : g_r < h_b := by rw [← hB]; exact lt_of_block R_r.out
   have LW_b : w.heap.size ≤ h_b := by rw [← hB]; exact HF.out.size
   refine (HI.out yk.2 (ps.drop (kc + 1)) _ _ _ (by rw [List.length_drop, HL.out]; omega) (by rw [List.length_drop, HL.out]; omega) (fun c hc => H9.out c (List.mem_of_mem_drop hc)) (HNB.out _ HF.out) (HOB.out _ HF.out)).mono ?_
   rintro e w15 ⟨hf, cs_b, rfl, hc⟩
   rw [hB] at hc
   have HC := Lib.hid hf
   have I_b := Lib.hid hc
   clear hf hc hB
   replace R_r := Lib.hid (HC.out.keeps R_r.out no_one)
   replace I_a := Lib.hid (I_a.out.fr HC.out (fun _ _ => no_one))
   replace HF := Lib.hid (HF.out.then HC.out)
   clear HC
   obtain ⟨k_b, s_b, n_b, u_b, a1_b, m1_b, c1_b, a2_b, m2_b, c2_b, a3_b, m3_b, c3_b, ecs⟩ := hcE I_b.out
   subst ecs
   refine hK.out _ _ ?_ (fun hHeld => ?_)
   ·
    exact HS1.out _ HF.out
   clear hK K
   try dsimp only
   try simp only [Act.put, List.setIfInBounds_toArray, List.set_cons_zero, List.set_cons_succ]
   refine ready_e (rs := [21]) (by kernel_rfl) (by simp) ?_
   refine (do_mid (o := _) rfl (fun K hK => ?_) none_e)
   go_simp
   obtain ⟨w16, hn⟩ : ∃ wZ, w15.alloc (.cells #[.int .u8 k_a, .string s_a, .int .i64 n_a, .string u_a, .slice a1_a m1_a c1_a, .slice a2_a m2_a c2_a, .slice a3_a m3_a c3_a, .int .u8 k_b, .string s_b, .int .i64 n_b, .string u_b, .slice a1_b m1_b c1_b, .slice a2_b m2_b c2_b, .slice a3_b m3_b c3_b] 32) = wZ := ⟨_, rfl⟩
   obtain ⟨g_arr, hg⟩ : ∃ gZ, w15.heap.size = gZ := ⟨_, rfl⟩
   rw [hn, hg]
   have HS : Hid (Fr No w15 w16) := Lib.hid (by rw [← hn]; exact Fr.alloc _ _)
   have R_arr : Hid (w16.heap[g_arr]? = some (.cells #[.int .u8 k_a, .string s_a, .int .i64 n_a, .string u_a, .slice a1_a m1_a c1_a, .slice a2_a m2_a c2_a, .slice a3_a m3_a c3_a, .int .u8 k_b, .string s_b, .int .i64 n_b, .string u_b, .slice a1_b m1_b c1_b, .slice a2_b m2_b c2_b, .slice a3_b m3_b c3_b] 32 (0, 0))) := Lib.hid (by rw [← hn, ← hg]; exact new_block _ _)
   have L_r_arr : g_r < g_arr := by rw [← hg]; exact lt_of_block R_r.out
   have B_arr : w.heap.size ≤ g_arr := by rw [← hg]; exact HF.out.size
   clear hn hg
   replace R_r := Lib.hid (HS.out.keeps R_r.out no_one)
   replace I_a := Lib.hid (I_a.out.fr HS.out (fun _ _ => no_one))
   replace I_b := Lib.hid (I_b.out.fr HS.out (fun _ _ => no_one))
   replace HF := Lib.hid (HF.out.then HS.out)
   clear HS
   refine hK.out _ _ ?_ (fun hHeld => ?_)
   ·
    exact HS1.out _ HF.out
   clear hK K
   try dsimp only
   try simp only [Act.put, List.setIfInBounds_toArray, List.set_cons_zero, List.set_cons_succ]
   refine take_op 22 (some 67) (Op.build 32 #[(0,  .const (.int .u8 15)), (1,  .tmp 48), (4,  .tmp 66)]) 32 ?_ (by kernel_rfl) (by kernel_rfl) (by kernel_rfl) (fun _ _ _ h => h) ?_ (by assumption) ?_
   rotate_left
   ·
    intro w hSw; (try dsimp only at hSw); go_simp; (try (with_reducible rfl))
   try simp only [Act.put, List.setIfInBounds_toArray, List.set_cons_zero, List.set_cons_succ]
   obtain ⟨d0_r, d1_r, d2_r, d3_r, d4_r, d5_r, d6_r⟩ : w16.cell? ⟨g_r, 0, none⟩ = some (.int .u8 0) ∧ w16.cell? ⟨g_r, 1, none⟩ = some (.string ⟨#[]⟩) ∧ w16.cell? ⟨g_r, 2, none⟩ = some (.int .i64 0) ∧ w16.cell? ⟨g_r, 3, none⟩ = some (.string ⟨#[]⟩) ∧ w16.cell? ⟨g_r, 4, none⟩ = some (.slice none 0 0) ∧ w16.cell? ⟨g_r, 5, none⟩ = some (.slice none 0 0) ∧ w16.cell? ⟨g_r, 6, none⟩ = some (.slice none 0 0) := ⟨cell_of R_r.out 0, cell_of R_r.out 1, cell_of R_r.out 2, cell_of R_r.out 3, cell_of R_r.out 4, cell_of R_r.out 5, cell_of R_r.out 6⟩
   obtain ⟨f0_r, f1_r, f2_r, f3_r, f4_r, f5_r, f6_r⟩ : w16.frozen? ⟨g_r, 0, none⟩ = false ∧ w16.frozen? ⟨g_r, 1, none⟩ = false ∧ w16.frozen? ⟨g_r, 2, none⟩ = false ∧ w16.frozen? ⟨g_r, 3, none⟩ = false ∧ w16.frozen? ⟨g_r, 4, none⟩ = false ∧ w16.frozen? ⟨g_r, 5, none⟩ = false ∧ w16.frozen? ⟨g_r, 6, none⟩ = false := ⟨free_of R_r.out 0, free_of R_r.out 1, free_of R_r.out 2, free_of R_r.out 3, free_of R_r.out 4, free_of R_r.out 5, free_of R_r.out 6⟩
   refine ready_e (rs := [23]) (by kernel_rfl) (by simp) ?_
   refine (do_late (o := _) rfl (by kernel_rfl) (fun K hK => ?_) none_e)
   go_simp
   clear d0_r f0_r d1_r f1_r d2_r f2_r d3_r f3_r d4_r f4_r d5_r f5_r d6_r f6_r
   obtain ⟨w17, hn⟩ : ∃ wZ, setFrom g_r 0 [.int .u8 15, .string (opB yk.1), .int .i64 0, .string ⟨#[]⟩, .slice (some ⟨g_arr, 0, none⟩) 2 2, .slice none 0 0, .slice none 0 0] w16 = wZ := ⟨_, rfl⟩
   have R_r' : Hid (w17.heap[g_r]? = some (.cells #[.int .u8 15, .string (opB yk.1), .int .i64 0, .string ⟨#[]⟩, .slice (some ⟨g_arr, 0, none⟩) 2 2, .slice none 0 0, .slice none 0 0] 32 (0, 0))) := Lib.hid (by rw [← hn]; exact setFrom_all [.int .u8 15, .string (opB yk.1), .int .i64 0, .string ⟨#[]⟩, .slice (some ⟨g_arr, 0, none⟩) 2 2, .slice none 0 0, .slice none 0 0] R_r.out rfl)
   have HS : Hid (Fr (Just g_r) w16 w17) := Lib.hid (by rw [← hn]; exact setFrom_fr _ _ _ _)
   rw [show (((((((w16.setCell ⟨g_r, 0, none⟩ (.int .u8 15)).setCell ⟨g_r, 1, none⟩ (.string (opB yk.1))).setCell ⟨g_r, 2, none⟩ (.int .i64 0)).setCell ⟨g_r, 3, none⟩ (.string ⟨#[]⟩)).setCell ⟨g_r, 4, none⟩ (.slice (some ⟨g_arr, 0, none⟩) 2 2)).setCell ⟨g_r, 5, none⟩ (.slice none 0 0)).setCell ⟨g_r, 6, none⟩ (.slice none 0 0)) = setFrom g_r 0 [.int .u8 15, .string (opB yk.1), .int .i64 0, .string ⟨#[]⟩, .slice (some ⟨g_arr, 0, none⟩) 2 2, .slice none 0 0, .slice none 0 0] w16 from rfl, hn]
   clear hn
   replace R_arr := Lib.hid (HS.out.keeps R_arr.out (fun (h : g_arr = g_r) => by omega))
   replace I_a := Lib.hid (I_a.out.fr HS.out (fun b hb (h : b = g_r) => by have hb : h_a ≤ b := hb; omega))
   replace I_b := Lib.hid (I_b.out.fr HS.out (fun b hb (h : b = g_r) => by have hb : h_b ≤ b := hb; omega))
   replace HF := Lib.hid (HF.out.own HS.out (fun i (h : i = g_r) => by omega))
   have R_r := R_r'
   clear R_r' HS
   refine hK.out _ _ ?_
   clear hK K
   try dsimp only
   try simp only [Act.put, List.setIfInBounds_toArray, List.set_cons_zero, List.set_cons_succ]
   refine done_e (by kernel_rfl) ?_ _
   (try simp only [Exit.inBlock, Exit.then])
   go_wp2_with fail
   (try simp only [Exit.inBlock, Exit.then])
   refine bodyPost_ret (results_st rfl Tryd.underlying32 (by kernel_rfl) _ _ g_r _ rfl rfl R_r.out) rfl ?_
   exact ⟨HF.out, _, rfl, by rw [HTR.out]; exact hcE_kids 15 (opB yk.1) 0 nob (hx_two (c := [.int .u8 k_a, .string s_a, .int .i64 n_a, .string u_a, .slice a1_a m1_a c1_a, .slice a2_a m2_a c2_a, .slice a3_a m3_a c3_a]) (d := [.int .u8 k_b, .string s_b, .int .i64 n_b, .string u_b, .slice a1_b m1_b c1_b, .slice a2_b m2_b c2_b, .slice a3_b m3_b c3_b]) R_arr.out B_arr rfl rfl (by decide) (I_a.out.mono (fun b _ hb => Nat.le_trans LW_a hb)) (I_b.out.mono (fun b _ hb => Nat.le_trans LW_b hb)))⟩
end Go.Proofs.YtjabhmepafofmaaDoor
