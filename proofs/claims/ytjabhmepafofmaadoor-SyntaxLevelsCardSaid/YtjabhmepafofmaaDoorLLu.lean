/- SyntaxLevels: the walk. -/
import Derived.Test.YtjabhmepafofmaaDoorLLt
import Derived.Test.YtjabhmepafofmaaDoorG24
set_option linter.unusedVariables false
set_option linter.unusedSimpArgs false
namespace Go.Proofs.YtjabhmepafofmaaDoor
open Go.RowKit

/-- picks in memory -/
def PicksAt (w : World) (a : Option Addr) (l : List Nat) : Prop := ∀ (j k : Nat), l[j]? = some k → k ≤ 255 ∧ ∃ g o, a = some ⟨g, o, none⟩ ∧ w.cell? ⟨g, o + j, none⟩ = some (.int .u8 k)
/-- two rows of one's own that share no block -/
def Apart (u v : Value) : Prop := ∀ b, u.ownBlock = some b → Av v b
theorem Apart.symm {u v : Value} (h : Apart u v) : Apart v u := fun b hb e => h b e hb
theorem Grows.frAv {B : Nat} {w w' : World} {v v' : Value} (h : Grows B w w' v v') : Fr (fun b => ¬ Av v b) w w' := ⟨h.fr.os, h.fr.tape, h.fr.output, h.fr.size, fun b hb hn => (h.av b hb (Classical.not_not.1 hn)).1⟩
theorem Grows.apart {B : Nat} {w w' : World} {v v' u : Value} (h : Grows B w w' v v') (hu : ∀ b, u.ownBlock = some b → b < w.heap.size) (ha : Apart v u) : Apart v' u := fun b hb e => by
 rcases h.own b hb with h1 | h1
 ·
  exact ha b h1 e
 ·
  have := hu b e
  omega
def nmsX (ps : Ps) : List (List X) := (0 :: ps.map (·.2)).map fun j => [xb (nmB j)]
def opsX (ps : Ps) : List (List X) := (ps.map (·.1)).map fun i => [xb (opB i)]
theorem nmsX_snoc (ps : Ps) (c : Nat × Nat) : nmsX (ps ++ [c]) = nmsX ps ++ [[xb (nmB c.2)]] := by simp [nmsX]
theorem opsX_snoc (ps : Ps) (c : Nat × Nat) : opsX (ps ++ [c]) = opsX ps ++ [[xb (opB c.1)]] := by simp [opsX]
theorem grown_keep {B m n : Nat} {w w' : World} {v v' u : Value} {ls : List (List X)} (ho : OutG RX 9 1 No B w u n ls) (h : Grows B w w' v v') (ha : Apart u v) : OutG RX 9 1 No B w' u n ls :=
 ho.keep keptX h.frAv (fun _ h => h.elim) (fun b hb hn => hn (ha b hb))
theorem lvS0_snoc (ps : Ps) (c : Nat × Nat) : (((Sc.mk (lvS0 ps) ++ ⟨#[32]⟩) ++ opB c.1) ++ ⟨#[32]⟩) ++ nmB c.2 = Sc.mk (lvS0 (ps ++ [c])) := by
 rw [show (⟨#[32]⟩ : ByteArray) = Sc.mk [32] from rfl, mk_append, mk_append, mk_append, mk_append]
 simp [lvS0, pS_append, pS]
theorem lvS_end (ps : Ps) : Sc.mk (lvS0 ps) ++ ⟨#[59]⟩ = Sc.mk (lvS ps) := by
 rw [show (⟨#[59]⟩ : ByteArray) = Sc.mk [59] from rfl, mk_append, lvS]
theorem lvS0_len (ps : Ps) : (lvS0 ps).length ≤ 6 * ps.length + 4 := by
 have := pS_len ps
 simp only [lvS0, List.length_append, List.length_cons, List.length_nil]
 omega
theorem lsn_le (l : List Nat) (i : Nat) : lsn l i ≤ i := Nat.le_trans (List.length_filter_le _ _) (by rw [List.length_take]; omega)
theorem opB_size (i : Nat) : (opB i).size ≤ 3 := by rw [opB, Sc.mk_size]; exact opS_len i
theorem nmB_size (i : Nat) : (nmB i).size = 1 := by rw [nmB, Sc.mk_size]; exact nmS_len i
def abc : Array Value := #[.string ⟨#[97]⟩, .string ⟨#[98]⟩, .string ⟨#[99]⟩]
theorem abc_at : ∀ i, i < 3 → abc[i]? = some (.string (nmB (i + 1)))
 | 0, _ => rfl
 | 1, _ => rfl
 | 2, _ => rfl
 | n + 3, h => by omega
set_option maxHeartbeats 8000000 in
set_option maxRecDepth 100000 in
theorem levels_any (l : List Nat) (a : Option Addr) (n cp : Nat) (w : World) (hl : Hid (l.length = n)) (hP : Hid (PicksAt w a l)) (hLV : Hid (LV w)) : Calls Tryd.prog 8 #[.slice a n cp] w (Yes w) := by
 have HLL := hl
 have HPK := hP
 have HLV := hLV
 clear hl hP hLV
 have HF : Hid (Fr No w w) := Lib.hid (Fr.refl _ _)
 go_enter Tryd.func8, Tryd.ntmps8
 by_cases h30 : 30 < n
 ·
  go_wp2_with fail
  refine (works_any _ HLV.out).mono ?_
  rintro e wc ⟨rfl, hf⟩
  have HFC := Lib.hid hf
  clear hf
  go_wp2_with fail
  go_ret
  exact ⟨rfl, HFC.out⟩
 go_wp2_with fail
 obtain ⟨w1, hw1⟩ : ∃ wZ, (w.alloc (.cells #[.string ⟨#[97]⟩, .string ⟨#[98]⟩, .string ⟨#[99]⟩] 9)).alloc (.cells #[.string ⟨#[120]⟩] 9) = wZ := ⟨_, rfl⟩
 obtain ⟨g3, hg3⟩ : ∃ g, w.heap.size = g := ⟨_, rfl⟩
 obtain ⟨g4, hg4⟩ : ∃ g, g3 + 1 = g := ⟨_, rfl⟩
 rw [hw1, hg3, hg4]
 replace HF : Hid (Fr No w w1) := Lib.hid (by rw [← hw1]; exact (Fr.alloc _ _).then (Fr.alloc _ _))
 have R_3 : Hid (w1.heap[g3]? = some (.cells abc 9 (0, 0))) := Lib.hid (by rw [← hw1, ← hg3]; exact (Fr.alloc _ _).keeps (new_block _ _) no_one)
 have R_4 : w1.heap[g4]? = some (.cells #[.string ⟨#[120]⟩] 9 (0, 0)) := by
  have h := new_block (w.alloc (.cells #[.string ⟨#[97]⟩, .string ⟨#[98]⟩, .string ⟨#[99]⟩] 9)) (.cells #[.string ⟨#[120]⟩] 9)
  rw [size_alloc, hw1, hg3, hg4] at h
  exact h
 have O_4 : Hid (OutG RX 9 1 No g3 w1 (.slice (some ⟨g4, 0, none⟩) 1 1) 1 (nmsX (psOf l 0))) := Lib.hid (out_lits (cs := [[.string ⟨#[120]⟩]]) R_4 (by omega) rfl rfl (fun c hc => by rw [List.mem_singleton.1 hc]; rfl) (by omega) (fun j t c hj hc => by
  have hj0 : j < 1 := (List.getElem?_eq_some_iff.1 hj).1
  obtain rfl : j = 0 := by omega
  cases hj
  cases hc
  exact hc_cons (hx_lit _) hc_end))
 have O_5 : Hid (OutG RX 9 1 No g3 w1 (.slice none 0 0) 0 (opsX (psOf l 0))) := Lib.hid (OutG.nil _ _ _)
 have AP : Hid (Apart (.slice (some ⟨g4, 0, none⟩) 1 1) (.slice none 0 0)) := Lib.hid (fun b _ e => by simp [Value.ownBlock] at e)
 have A_43 : Hid (Av (.slice (some ⟨g4, 0, none⟩) 1 1) g3) := Lib.hid (av_ne (by omega))
 have A_53 : Hid (Av (.slice none 0 0) g3) := Lib.hid (fun e => by simp [Value.ownBlock] at e)
 have HG3 : Hid (w.heap.size = g3) := Lib.hid hg3
 clear hw1 R_4 hg4 hg3
 have hn30 : n ≤ 30 := by omega
 clear h30
 go_loopw [4, 5, 6, 7, 8, 9] (fun nv bv lo sv iv ov wr => ∃ j : Nat, j ≤ n ∧ iv = .int .i64 (j : Nat) ∧ lo = .int .i64 (lsn l j : Nat) ∧ sv = .string (Sc.mk (lvS0 (psOf l j))) ∧ ∃ (a4 : Option Addr) (c4 : Nat) (a5 : Option Addr) (c5 : Nat), nv = .slice a4 (j + 1) c4 ∧ bv = .slice a5 j c5 ∧ Hid (OutG RX 9 1 No g3 wr (.slice a4 (j + 1) c4) (j + 1) (nmsX (psOf l j))) ∧ Hid (OutG RX 9 1 No g3 wr (.slice a5 j c5) j (opsX (psOf l j))) ∧ Hid (Apart (.slice a4 (j + 1) c4) (.slice a5 j c5)) ∧ Hid (Av (.slice a4 (j + 1) c4) g3) ∧ Hid (Av (.slice a5 j c5) g3) ∧ Hid (wr.heap[g3]? = some (.cells abc 9 (0, 0))) ∧ Hid (Fr No w wr)) (fun _ _ _ _ iv _ _ => n - intOf iv)
 case atStart => exact ⟨0, Nat.zero_le _, rfl, rfl, rfl, _, _, _, _, rfl, rfl, O_4, O_5, AP, A_43, A_53, R_3, HF⟩
 case round =>
  clear O_4 O_5 AP A_43 A_53 R_3 HF
  obtain ⟨j, hj, rfl, rfl, rfl, a4, c4, a5, c5, rfl, rfl, O_4, O_5, AP, A_43, A_53, R_3, HF⟩ := hrel
  obtain ⟨wL, hwL⟩ : ∃ wL, wL = wr := ⟨wr, rfl⟩
  rw [← hwL] at O_4 O_5 R_3 HF ⊢
  clear hwL wr
  by_cases hlt : j < n
  ·
   have hd0 : decide (j < n) = true := decide_eq_true hlt
   obtain ⟨k, hk⟩ : ∃ k, l[j]? = some k := ⟨_, List.getElem?_eq_getElem (by rw [HLL.out]; exact hlt)⟩
   obtain ⟨hk255, gp, op, ea, hck⟩ := HPK.out j k hk
   subst ea
   have HCK := Lib.hid hck
   have HK := Lib.hid hk
   obtain ⟨km, hkm⟩ : ∃ m, k % 9 = m := ⟨_, rfl⟩
   have hkm9 : km < 9 := by omega
   have HKM := Lib.hid hkm
   have hj0 : (0 : Int) ≤ (j : Int) := by omega
   have hj1 : (j : Int) < (n : Int) := by omega
   have hm0 : (0 : Int) ≤ (km : Int) := by omega
   have hm1 : (km : Int) < 9 := by omega
   have hrem : (k : Int) % 9 = (km : Int) := by omega
   have hconv : IntKind.i64.wrap (k : Int) = (k : Int) := by rw [IntKind.wrap_i64]; omega
   have htm : (k : Int).tmod 9 = (km : Int) := by rw [Int.tmod_eq_emod_of_nonneg (by omega)]; omega
   have hko0 : (0 : Int) ≤ (k : Int) := by omega
   have hko1 : (k : Int) ≤ 255 := by omega
   clear hck hk hkm
   have HS1 : Hid (∀ w', Fr No w w' → w'.cell? ⟨gp, op + j, none⟩ = some (.int .u8 k)) := Lib.hid (fun w' hf => hf.cell HCK.out)
   have k0 := HS1.out _ HF.out
   go_upto_region 11 with fail
   clear k0
   go_cut [9] from 25 to 35 (fun ov wx => ov = .string (opB km) ∧ Hid (Fr No wL wx))
   case first =>
    skip
    have HFL : Hid (Fr No wL wL) := Lib.hid (Fr.refl _ _)
    refine region_e (fun w' => w'.cell? ⟨gp, op + j, none⟩ = some (.int .u8 k)) [10, 11] (by kernel_rfl) ?_ (fun hHeld => ?_)
    ·
     exact HS1.out _ (HF.out.then (Fr.drew _))
    obtain ⟨w6, hwd⟩ : ∃ wZ, wZ = wL.drew := ⟨_, rfl⟩
    have HS : Hid (Fr No wL w6) := Lib.hid (by rw [hwd]; exact Fr.drew _)
    rw [← hwd] at hHeld ⊢
    clear hwd
    replace HF := Lib.hid (HF.out.then HS.out)
    replace HFL := Lib.hid (HFL.out.then HS.out)
    clear HS
    refine take_op 1 (some 26) (Op.move ( .tmp 0)) 52 ?_ (by kernel_rfl) (by kernel_rfl) (by kernel_rfl) (fun _ _ _ h => h) ?_ (by assumption) ?_
    rotate_left
    ·
     intro w hSw; (try dsimp only at hSw); go_simp; (try (with_reducible rfl))
    try simp only [Act.put, List.setIfInBounds_toArray, List.set_cons_zero, List.set_cons_succ]
    refine take_op 2 (some 27) (Op.move ( .tmp 8)) 3 ?_ (by kernel_rfl) (by kernel_rfl) (by kernel_rfl) (fun _ _ _ h => h) ?_ (by assumption) ?_
    rotate_left
    ·
     intro w hSw; (try dsimp only at hSw); go_simp; (try (with_reducible rfl))
    try simp only [Act.put, List.setIfInBounds_toArray, List.set_cons_zero, List.set_cons_succ]
    refine take_op 3 (some 28) (Op.indexAddr 52 ( .tmp 26) ( .tmp 27)) 0 ?_ (by kernel_rfl) (by kernel_rfl) (by kernel_rfl) (fun _ _ _ h => h) ?_ (by assumption) ?_
    rotate_left
    ·
     intro w hSw; (try dsimp only at hSw); go_simp; (try (with_reducible rfl))
    try simp only [Act.put, List.setIfInBounds_toArray, List.set_cons_zero, List.set_cons_succ]
    refine take_op 4 (some 29) (Op.load 5 ( .tmp 28)) 5 ?_ (by kernel_rfl) (by kernel_rfl) (by kernel_rfl) (fun _ _ _ h => h) ?_ (by assumption) ?_
    rotate_left
    ·
     intro w hSw; (try dsimp only at hSw); go_simp; (try (with_reducible rfl))
    try simp only [Act.put, List.setIfInBounds_toArray, List.set_cons_zero, List.set_cons_succ]
    refine take_op 5 (some 30) (Op.convert 5 3 ( .tmp 29)) 3 ?_ (by kernel_rfl) (by kernel_rfl) (by kernel_rfl) (fun _ _ _ h => h) ?_ (by assumption) ?_
    rotate_left
    ·
     intro w hSw; (try dsimp only at hSw); go_simp; (try (with_reducible rfl))
    try simp only [Act.put, List.setIfInBounds_toArray, List.set_cons_zero, List.set_cons_succ]
    refine ready_e (rs := [0]) (by kernel_rfl) (by simp) ?_
    refine (do_mid (o := _) rfl (fun K hK => ?_) none_e)
    go_simp
    go_at_call 16
    refine (ops_any _).mono ?_
    rintro e w7 ⟨hf, gA, rfl, hgA, rA⟩
    have HC := Lib.hid hf
    have R_A := Lib.hid rA
    clear hf rA hgA
    replace HF := Lib.hid (HF.out.then HC.out)
    replace HFL := Lib.hid (HFL.out.then HC.out)
    clear HC
    refine hK.out _ _ ?_ (fun hHeld => ?_)
    ·
     exact HS1.out _ HF.out
    clear hK K
    try dsimp only
    try simp only [Act.put, List.setIfInBounds_toArray, List.set_cons_zero, List.set_cons_succ]
    refine ready_e (rs := [6]) (by kernel_rfl) (by simp) ?_
    refine (do_mid (o := _) rfl (fun K hK => ?_) none_e)
    go_simp
    go_at_call 16
    refine (ops_any _).mono ?_
    rintro e w8 ⟨hf, gB, rfl, _, _⟩
    have HC := Lib.hid hf
    clear hf
    replace R_A := Lib.hid (HC.out.keeps R_A.out no_one)
    replace HF := Lib.hid (HF.out.then HC.out)
    replace HFL := Lib.hid (HFL.out.then HC.out)
    clear HC
    refine hK.out _ _ ?_ (fun hHeld => ?_)
    ·
     exact HS1.out _ HF.out
    clear hK K
    try dsimp only
    try simp only [Act.put, List.setIfInBounds_toArray, List.set_cons_zero, List.set_cons_succ]
    refine take_op 7 (some 32) (Op.call { callee := Callee.builtin Builtin.len, args := #[ .tmp 31], argTypes := #[22] }) 3 ?_ (by kernel_rfl) (by kernel_rfl) (by kernel_rfl) (fun _ _ _ h => h) ?_ (by assumption) ?_
    rotate_left
    ·
     intro w hSw; (try dsimp only at hSw); go_simp; (try (with_reducible rfl))
    try simp only [Act.put, List.setIfInBounds_toArray, List.set_cons_zero, List.set_cons_succ]
    refine take_op 8 (some 33) (Op.binOp BinOp.rem 3 ( .tmp 30) ( .tmp 32) 3) 3 ?_ (by kernel_rfl) (by kernel_rfl) (by kernel_rfl) (fun _ _ _ h => h) ?_ (by assumption) ?_
    rotate_left
    ·
     intro w hSw; (try dsimp only at hSw); go_simp; (try (with_reducible rfl))
    try simp only [Act.put, List.setIfInBounds_toArray, List.set_cons_zero, List.set_cons_succ]
    refine take_op 9 (some 34) (Op.indexAddr 22 ( .tmp 25) ( .tmp 33)) 0 ?_ (by kernel_rfl) (by kernel_rfl) (by kernel_rfl) (fun _ _ _ h => h) ?_ (by assumption) ?_
    rotate_left
    ·
     intro w hSw; (try dsimp only at hSw); go_simp; (try (with_reducible rfl))
    try simp only [Act.put, List.setIfInBounds_toArray, List.set_cons_zero, List.set_cons_succ]
    have dA : w8.cell? ⟨gA, km, none⟩ = some (.string (opB km)) := by rw [cell_of R_A.out]; exact opCells_at km hkm9
    refine ready_e (rs := [10]) (by kernel_rfl) (by simp) ?_
    refine (do_late (o := _) rfl (by kernel_rfl) (fun K hK => ?_) none_e)
    go_simp
    clear dA
    refine hK.out _ _ ?_
    clear hK K
    try dsimp only
    try simp only [Act.put, List.setIfInBounds_toArray, List.set_cons_zero, List.set_cons_succ]
    refine ready_e (rs := [11]) (by kernel_rfl) (by simp) ?_
    refine (do_late (o := _) rfl (by kernel_rfl) (fun K hK => ?_) none_e)
    go_simp
    refine hK.out _ _ ?_
    clear hK K
    try dsimp only
    try simp only [Act.put, List.setIfInBounds_toArray, List.set_cons_zero, List.set_cons_succ]
    refine done_e (by kernel_rfl) ?_ _
    (try simp only [Exit.inBlock, Exit.then])
    go_wp2_with fail
    all_goals
     go_meet
     exact ⟨rfl, HFL⟩
   case rest =>
    obtain ⟨rfl, HFC⟩ := hcut
    replace O_4 := Lib.hid (O_4.out.no keptX HFC.out)
    replace O_5 := Lib.hid (O_5.out.no keptX HFC.out)
    replace R_3 := Lib.hid (HFC.out.keeps R_3.out no_one)
    replace HF := Lib.hid (HF.out.then HFC.out)
    clear HFC
    obtain ⟨wM, hwM⟩ : ∃ wM, wM = wc := ⟨_, rfl⟩
    rw [← hwM] at O_4 O_5 R_3 HF ⊢
    clear hwM wc
    obtain ⟨m, hm⟩ : ∃ m, lsn l j = m := ⟨_, rfl⟩
    have hmj : m ≤ j := by rw [← hm]; exact lsn_le l j
    have HLS : Hid (lsn l (j + 1) = m + if tt km < 2 then 1 else 0) := Lib.hid (by rw [lsn_succ HK.out, hm, HKM.out])
    have HOP : Hid (opAt l j = if tt km < 2 then (if m = 0 then km else 4) else km) := Lib.hid (by
     have hg : l.getD j 0 = k := by rw [List.getD_eq_getElem?_getD, HK.out]; rfl
     simp only [opAt, hg, HKM.out, hm])
    rw [hm]
    clear hm hrem htm hconv
    obtain ⟨ti, hti⟩ : ∃ t, tt km = t := ⟨_, rfl⟩
    go_wp2_with fail
    refine (tight_any hkm9 wM).mono ?_
    rintro e w6 ⟨rfl, hw⟩
    subst hw
    rw [hti] at HLS HOP ⊢
    clear hti
    go_upto_if 38 with fail
    go_cut [6, 9] from 38 to 47 (fun lo ov wx => lo = .int .i64 (lsn l (j + 1) : Nat) ∧ ov = .string (opB (opAt l j)) ∧ Hid (Fr No wM wx))
    case first =>
     by_cases ht2 : ti < 2
     ·
      have hx2 : (ti : Int) < 2 := by omega
      have hw1 : IntKind.i64.wrap ((m : Int) + 1) = (m : Int) + 1 := by rw [IntKind.wrap_i64]; omega
      have hw2 : (m : Int) + 1 - 1 = (m : Int) := by omega
      have hw3 : IntKind.i64.wrap (m : Int) = (m : Int) := by rw [IntKind.wrap_i64]; omega
      by_cases hm0' : m = 0
      ·
       have hls : lsn l (j + 1) = 1 := by rw [HLS.out, if_pos ht2, hm0']
       have hop : opAt l j = km := by rw [HOP.out, if_pos ht2, if_pos hm0']
       subst hm0'
       have HL1 := Lib.hid hls
       have HO1 := Lib.hid hop
       clear hls hop ht2
       go_wp2_with fail
       go_meet
       exact ⟨by rw [HL1.out]; rfl, by rw [HO1.out], Lib.hid (Fr.alloc _ _)⟩
      ·
       have hls : lsn l (j + 1) = m + 1 := by rw [HLS.out, if_pos ht2]
       have hop : opAt l j = 4 := by rw [HOP.out, if_pos ht2, if_neg hm0']
       have HL1 := Lib.hid hls
       have HO1 := Lib.hid hop
       clear hls hop ht2
       by_cases hm1' : m = 1
       ·
        subst hm1'
        clear hw2
        go_wp2_with fail
        go_meet
        exact ⟨by rw [HL1.out]; go_num, by rw [HO1.out]; rfl, Lib.hid (Fr.alloc _ _)⟩
       ·
        have hx3 : (1 : Int) < (m : Int) := by omega
        have hx4 : ¬ (m : Int) < 1 := by omega
        go_wp2_with fail
        go_meet
        exact ⟨by rw [HL1.out]; go_num, by rw [HO1.out]; rfl, Lib.hid (Fr.alloc _ _)⟩
     ·
      have hx2 : ¬ (ti : Int) < 2 := by omega
      have hls : lsn l (j + 1) = m := by rw [HLS.out, if_neg ht2]; rfl
      have hop : opAt l j = km := by rw [HOP.out, if_neg ht2]
      have HL1 := Lib.hid hls
      have HO1 := Lib.hid hop
      clear hls hop ht2
      go_wp2_with fail
      go_meet
      exact ⟨by rw [HL1.out], by rw [HO1.out], Lib.hid (Fr.refl _ _)⟩
    case rest =>
     obtain ⟨rfl, rfl, HFC⟩ := hcut
     replace O_4 := Lib.hid (O_4.out.no keptX HFC.out)
     replace O_5 := Lib.hid (O_5.out.no keptX HFC.out)
     replace R_3 := Lib.hid (HFC.out.keeps R_3.out no_one)
     replace HF := Lib.hid (HF.out.then HFC.out)
     obtain ⟨wN, hwN⟩ : ∃ wN, wN = wc := ⟨_, rfl⟩
     rw [← hwN] at O_4 O_5 R_3 HF ⊢
     clear hwN HFC HLS HOP wc
     obtain ⟨oi, hoi⟩ : ∃ o, opAt l j = o := ⟨_, rfl⟩
     obtain ⟨kr, hkr⟩ : ∃ r, k / 16 % 3 = r := ⟨_, rfl⟩
     have HPS : Hid (psOf l (j + 1) = psOf l j ++ [(oi, kr + 1)]) := Lib.hid (by
      have hg : l.getD j 0 = k := by rw [List.getD_eq_getElem?_getD, HK.out]; rfl
      rw [psOf_succ, pairAt, hoi, hg, hkr])
     have hkr3 : kr < 3 := by omega
     rw [hoi]
     clear hoi
     go_upto_region 15 with fail
     go_upto_region 16 with (at_builtin; obtain ⟨wA, hA⟩ : ∃ wZ, wN.alloc (.cells #[.string (opB oi)] 9) = wZ := ⟨_, rfl⟩; rw [hA]; refine wpList_push keptX elemS rfl _ _ 22 rfl Tryd.underlying22 No g3 (.slice a5 j c5) j (opsX (psOf l j)) rfl (by rw [← hA]; exact O_5.out.no keptX (Fr.alloc _ _)) wN.heap.size [.string (opB oi)] 9 rfl (by rw [← hA]; exact new_block _ _) (by simp [Value.oneCell']) rfl [xb (opB oi)] (hc_cons (hx_lit _) hc_end) (by unfold maxLen; omega) (by omega) (by rw [← hA, ← HG3.out]; exact Nat.le_trans HF.out.size (Fr.alloc _ _).size) ?_; intro a8 c8 w8 HON HGN)
     have HFA : Hid (Fr No wN wA) := Lib.hid (by rw [← hA]; exact Fr.alloc _ _)
     clear hA O_5
     replace O_4 := Lib.hid (O_4.out.no keptX HFA.out)
     replace R_3 := Lib.hid (HFA.out.keeps R_3.out no_one)
     replace HF := Lib.hid (HF.out.then HFA.out)
     have O_4' := Lib.hid (grown_keep (m := j) O_4.out HGN.out AP.out)
     have AP' := Lib.hid (HGN.out.apart (fun b hb => (O_4.out.block hb).2) AP.out.symm).symm
     have A_53' := Lib.hid (HGN.out.avs R_3.out A_53.out)
     have R_3' := Lib.hid (HGN.out.keeps R_3.out A_53.out)
     have HF' : Hid (Fr No w w8) := Lib.hid (HF.out.own HGN.out.fr (fun i hi => by have hi : g3 ≤ i := hi; rw [HG3.out]; exact hi))
     have O_5 := HON
     clear HFA HF R_3 A_53 AP O_4 HON HGN wA
     have d3 : w8.cell? ⟨g3, kr, none⟩ = some (.string (nmB (kr + 1))) := by rw [cell_of R_3'.out]; exact abc_at kr hkr3
     have dk := HS1.out _ HF'.out
     obtain ⟨kq, hkq⟩ : ∃ q, k / 16 = q := ⟨_, rfl⟩
     rw [hkq] at hkr
     have q1 : (k : Int).tdiv 16 = (kq : Int) := by rw [Int.tdiv_eq_ediv_of_nonneg (by omega)]; omega
     have q2 : (k : Int) / 16 = (kq : Int) := by omega
     have q3 : IntKind.u8.wrap (kq : Int) = (kq : Int) := by rw [IntKind.wrap_u8]; omega
     have q4 : IntKind.i64.wrap (kq : Int) = (kq : Int) := by rw [IntKind.wrap_i64]; omega
     have q5 : (kq : Int).tmod 3 = (kr : Int) := by rw [Int.tmod_eq_emod_of_nonneg (by omega)]; omega
     have q6 : (kq : Int) % 3 = (kr : Int) := by omega
     have q7 : (0 : Int) ≤ (kr : Int) := by omega
     have q8 : (kr : Int) < 3 := by omega
     clear hkq hkr
     go_upto_region 17 with (at_builtin; obtain ⟨wA, hA⟩ : ∃ wZ, w8.alloc (.cells #[.string (nmB (kr + 1))] 9) = wZ := ⟨_, rfl⟩; rw [hA]; refine wpList_push keptX elemS rfl _ _ 22 rfl Tryd.underlying22 No g3 (.slice a4 (j + 1) c4) (j + 1) (nmsX (psOf l j)) rfl (by rw [← hA]; exact O_4'.out.no keptX (Fr.alloc _ _)) w8.heap.size [.string (nmB (kr + 1))] 9 rfl (by rw [← hA]; exact new_block _ _) (by simp [Value.oneCell']) rfl [xb (nmB (kr + 1))] (hc_cons (hx_lit _) hc_end) (by unfold maxLen; omega) (by omega) (by rw [← hA, ← HG3.out]; exact Nat.le_trans HF'.out.size (Fr.alloc _ _).size) ?_; intro a9 c9 w9 HON HGN)
     have HFA : Hid (Fr No w8 wA) := Lib.hid (by rw [← hA]; exact Fr.alloc _ _)
     clear hA O_4' d3 dk q1 q2 q3 q4 q5 q6
     replace O_5 := Lib.hid (O_5.out.no keptX HFA.out)
     replace R_3' := Lib.hid (HFA.out.keeps R_3'.out no_one)
     replace HF' := Lib.hid (HF'.out.then HFA.out)
     have O_5' := Lib.hid (grown_keep (m := j) O_5.out HGN.out AP'.out.symm)
     have AP := Lib.hid (HGN.out.apart (fun b hb => (O_5.out.block hb).2) AP'.out)
     have A_43' := Lib.hid (HGN.out.avs R_3'.out A_43.out)
     have R_3 := Lib.hid (HGN.out.keeps R_3'.out A_43.out)
     have HF : Hid (Fr No w w9) := Lib.hid (HF'.out.own HGN.out.fr (fun i hi => by have hi : g3 ≤ i := hi; rw [HG3.out]; exact hi))
     have O_4 := HON
     clear HFA HF' R_3' A_43 AP' O_5 HON HGN wA
     have O_4n : Hid (OutG RX 9 1 No g3 w9 (.slice a9 (j + 1 + 1) c9) (j + 1 + 1) (nmsX (psOf l (j + 1)))) := Lib.hid (by rw [HPS.out, nmsX_snoc]; exact O_4.out)
     have O_5n : Hid (OutG RX 9 1 No g3 w9 (.slice a8 (j + 1) c8) (j + 1) (opsX (psOf l (j + 1)))) := Lib.hid (by rw [HPS.out, opsX_snoc]; exact O_5'.out)
     obtain ⟨g9, c9c, e9, _, _, hc9, hx9, _⟩ := O_4.out.at_ (j := j + 1) (t := [xb (nmB (kr + 1))]) (by
      have hl0 : (nmsX (psOf l j)).length = j + 1 := by simp [nmsX, psOf_len]
      rw [List.getElem?_append_right (by omega), hl0]
      simp)
     subst e9
     have d9 : w9.cell? ⟨g9, j + 1, none⟩ = some (.string (nmB (kr + 1))) := by
      obtain ⟨_, e, h⟩ := hc_lit hx9
      have := hc9 0 (.string (nmB (kr + 1))) (by rw [e]; rfl)
      rwa [Nat.mul_one, Nat.add_zero] at this
     clear hc9 hx9 O_4 O_5'
     have hsz : (Sc.mk (lvS0 (psOf l j))).size ≤ 200 := by
      rw [Sc.mk_size]
      have := lvS0_len (psOf l j)
      rw [psOf_len] at this
      omega
     have ho3 := opB_size oi
     have hn1 := nmB_size (kr + 1)
     obtain ⟨S, hS⟩ : ∃ S, Sc.mk (lvS0 (psOf l j)) = S := ⟨_, rfl⟩
     obtain ⟨O, hO⟩ : ∃ O, opB oi = O := ⟨_, rfl⟩
     obtain ⟨M, hM⟩ : ∃ M, nmB (kr + 1) = M := ⟨_, rfl⟩
     have HSV : Hid ((((S ++ ⟨#[32]⟩) ++ O) ++ ⟨#[32]⟩) ++ M = Sc.mk (lvS0 (psOf l (j + 1)))) := Lib.hid (by rw [← hS, ← hO, ← hM, HPS.out]; exact lvS0_snoc (psOf l j) (oi, kr + 1))
     rw [hS] at hsz ⊢
     rw [hO] at ho3 ⊢
     rw [hM] at hn1 d9
     clear hS hO hM
     have z1 : ¬ 9223372036854775807 < S.size + 1 := by omega
     have z2 : ¬ 9223372036854775807 < S.size + 1 + O.size := by omega
     have z3 : ¬ 9223372036854775807 < S.size + 1 + O.size + 1 := by omega
     have z4 : ¬ 9223372036854775807 < S.size + 1 + O.size + 1 + M.size := by omega
     have z5 : (0 : Int) ≤ (j : Int) + 1 := by omega
     clear hsz ho3 hn1
     go_wp2_with fail
     exact ⟨⟨j + 1, by omega, by go_num, rfl, by rw [HSV.out], _, _, _, _, rfl, rfl, O_4n, O_5n, AP, A_43', A_53', R_3, HF⟩, by simp [intOf]; omega⟩
  ·
   have hd0 : decide (j < n) = false := decide_eq_false hlt
   obtain rfl : j = n := by omega
   clear hlt hj AP A_43 A_53 R_3
   obtain ⟨hr, hlen⟩ := lv_all (psOf l j) (psOf_good (by rw [HLL.out]; exact Nat.le_refl _)) (by rw [psOf_len]; omega)
   have hdp := lv_depth (psOf l j) (by rw [psOf_len]; omega)
   have hsl := lvS_len (psOf l j)
   have hkl := psOf_len l j
   have h9 := fun c hc => ((psOf_good (l := l) (n := j) (by rw [HLL.out]; exact Nat.le_refl _)).1 c hc).2
   obtain ⟨ps, hps⟩ : ∃ ps, psOf l j = ps := ⟨_, rfl⟩
   rw [hps] at hr hlen hdp hsl hkl h9 O_4 O_5 ⊢
   clear hps
   have HT := fun (s : ByteArray) (he : s = Sc.mk (lvS ps)) (u : World) => (tokens_any (lvS ps) s (Lib.hid he) _ (Lib.hid rfl) (by omega) u)
   have HP := fun (a : Option Addr) (c : Nat) (u : World) (hu : LV u) (ht : TokAt u a (toks (lvS ps))) => by
    have := parse_any (a := a) (c := c) (l := toks (lvS ps)) (w := u) (2 * ps.length + 11) 2 (fun gp hg => ⟨ht.row gp hg, hu gp hg⟩) (by omega) (by rw [hr]; intro e; cases e)
    rw [hr] at this
    exact this
   obtain ⟨L, hL⟩ : ∃ L, (toks (lvS ps)).length = L := ⟨_, rfl⟩
   rw [hL] at HT HP
   have HT := Lib.hid HT
   have HP := Lib.hid HP
   have HDP := Lib.hid hdp
   have HKL := Lib.hid hkl
   have H9 := Lib.hid h9
   have HN4 : Hid (NmRow wL 0 ps (.slice a4 (j + 1) c4)) := Lib.hid (hx_of_out O_4.out (by decide) (fun _ _ _ => trivial) (fun _ _ _ => trivial))
   have HN5 : Hid (OpRow wL ps (.slice a5 j c5)) := Lib.hid (hx_of_out O_5.out (by decide) (fun _ _ _ => trivial) (fun _ _ _ => trivial))
   have hsz : (Sc.mk (lvS0 ps)).size ≤ 200 := by
    rw [Sc.mk_size]
    have := lvS0_len ps
    omega
   have g1 : ¬ 9223372036854775807 < (Sc.mk (lvS0 ps)).size + 1 := by omega
   clear hr hlen hL hdp hkl h9 hsl O_4 O_5 hsz
   go_wp2_with fail
   clear g1 hd0
   refine (HT.out _ (lvS_end ps) _).mono ?_
   rintro e w2 ⟨hf, a1, c1', rfl, ho⟩
   have HF2 := Lib.hid (HF.out.then hf)
   have HFL2 := Lib.hid hf
   have HT2 := Lib.hid ho.at_
   clear hf ho
   go_wp2_with fail
   refine (HP.out a1 c1' w2 (HLV.out.no HF2.out) HT2.out).mono ?_
   intro e w3 h
   simp only [ParseR, List.map_cons, List.map_nil] at h
   obtain ⟨hf, h⟩ := h
   rw [if_neg (Int.not_lt.2 HDP.out)] at h
   obtain ⟨v, rfl, hx⟩ := h
   have HF3 := Lib.hid (HF2.out.then hf)
   have HFL3 := Lib.hid (HFL2.out.then hf)
   replace HN4 := Lib.hid (HN4.out.no HFL3.out)
   replace HN5 := Lib.hid (HN5.out.no HFL3.out)
   clear hf HT2 HF2 HFL2 HFL3 HF HDP HP HT
   obtain ⟨av, cv, rfl⟩ := hx_slice hx
   simp only [List.length_cons, List.length_nil, Nat.zero_add, List.map_cons, List.map_nil] at hx ⊢
   obtain ⟨g, off, cc, eav, _, hl1, hc1, hx1⟩ := hx_at hx (j := 0) rfl
   subst eav
   obtain ⟨b1, q1, b2, q2, b3, q3, ct, ce, rfl, _, _, _, hct, hce⟩ := hcD_parts hx1
   have HCE := Lib.hid hce
   obtain ⟨kz, sz, nz, bz, mz, cpz, rfl⟩ := hcT hct
   obtain ⟨ke, se, ne, ue, b4, m4, q4, b5, m5, q5, b6, m6, q6, rfl⟩ := hcE hce
   have HF : Hid (Fr No w3 w3) := Lib.hid (Fr.refl _ _)
   clear hct hce hx hx1 hl1
   have HS5 : Hid (∀ w', Fr No w3 w' → w'.cell? ⟨g, off, none⟩ = some (.int .u8 6) ∧ w'.cell? ⟨g, off + 9, none⟩ = some (.int .u8 ke) ∧ w'.cell? ⟨g, off + 9 + 1, none⟩ = some (.string se) ∧ w'.cell? ⟨g, off + 9 + 2, none⟩ = some (.int .i64 ne) ∧ w'.cell? ⟨g, off + 9 + 3, none⟩ = some (.string ue) ∧ w'.cell? ⟨g, off + 9 + 4, none⟩ = some (.slice b4 m4 q4) ∧ w'.cell? ⟨g, off + 9 + 5, none⟩ = some (.slice b5 m5 q5) ∧ w'.cell? ⟨g, off + 9 + 6, none⟩ = some (.slice b6 m6 q6)) := Lib.hid (fun w' hf => ⟨hf.cell (by have h := hc1 0 _ rfl; simpa using h), hf.cell (by have h := hc1 9 _ rfl; rwa [Nat.zero_mul, Nat.add_zero] at h), hf.cell (by have h := hc1 10 _ rfl; rwa [Nat.zero_mul, Nat.add_zero, show off + 10 = off + 9 + 1 by omega] at h), hf.cell (by have h := hc1 11 _ rfl; rwa [Nat.zero_mul, Nat.add_zero, show off + 11 = off + 9 + 2 by omega] at h), hf.cell (by have h := hc1 12 _ rfl; rwa [Nat.zero_mul, Nat.add_zero, show off + 12 = off + 9 + 3 by omega] at h), hf.cell (by have h := hc1 13 _ rfl; rwa [Nat.zero_mul, Nat.add_zero, show off + 13 = off + 9 + 4 by omega] at h), hf.cell (by have h := hc1 14 _ rfl; rwa [Nat.zero_mul, Nat.add_zero, show off + 14 = off + 9 + 5 by omega] at h), hf.cell (by have h := hc1 15 _ rfl; rwa [Nat.zero_mul, Nat.add_zero, show off + 15 = off + 9 + 6 by omega] at h)⟩)
   clear hc1
   go_upto_region 19 with fail
   refine region_e (fun w' => w'.cell? ⟨g, off, none⟩ = some (.int .u8 6) ∧ w'.cell? ⟨g, off + 9, none⟩ = some (.int .u8 ke) ∧ w'.cell? ⟨g, off + 9 + 1, none⟩ = some (.string se) ∧ w'.cell? ⟨g, off + 9 + 2, none⟩ = some (.int .i64 ne) ∧ w'.cell? ⟨g, off + 9 + 3, none⟩ = some (.string ue) ∧ w'.cell? ⟨g, off + 9 + 4, none⟩ = some (.slice b4 m4 q4) ∧ w'.cell? ⟨g, off + 9 + 5, none⟩ = some (.slice b5 m5 q5) ∧ w'.cell? ⟨g, off + 9 + 6, none⟩ = some (.slice b6 m6 q6)) [] (by kernel_rfl) ?_ (fun hHeld => ?_)
   ·
    exact HS5.out _ (HF.out.then (Fr.drew _))
   obtain ⟨w9, hwd⟩ : ∃ wZ, wZ = w3.drew := ⟨_, rfl⟩
   have HS : Hid (Fr No w3 w9) := Lib.hid (by rw [hwd]; exact Fr.drew _)
   rw [← hwd] at hHeld ⊢
   clear hwd
   replace HF := Lib.hid (HF.out.then HS.out)
   clear HS
   refine take_op 0 (some 85) (Op.move ( .tmp 12)) 24 ?_ (by kernel_rfl) (by kernel_rfl) (by kernel_rfl) (fun _ _ _ h => h) ?_ (by assumption) ?_
   rotate_left
   ·
    intro w hSw; (try dsimp only at hSw); go_simp; (try (with_reducible rfl))
   try simp only [Act.put, List.setIfInBounds_toArray, List.set_cons_zero, List.set_cons_succ]
   refine take_op 1 (some 86) (Op.binOp BinOp.eql 24 ( .tmp 85) ( .const (.int .i64 0)) 24) 4 ?_ (by kernel_rfl) (by kernel_rfl) (by kernel_rfl) (fun _ _ _ h => h) ?_ (by assumption) ?_
   rotate_left
   ·
    intro w hSw; (try dsimp only at hSw); go_simp; (try (with_reducible rfl))
   try simp only [Act.put, List.setIfInBounds_toArray, List.set_cons_zero, List.set_cons_succ]
   refine take_op 2 (some 87) (Op.move ( .tmp 86)) 4 ?_ (by kernel_rfl) (by kernel_rfl) (by kernel_rfl) (fun _ _ _ h => h) ?_ (by assumption) ?_
   rotate_left
   ·
    intro w hSw; (try dsimp only at hSw); go_simp; (try (with_reducible rfl))
   try simp only [Act.put, List.setIfInBounds_toArray, List.set_cons_zero, List.set_cons_succ]
   refine take_op 3 (some 88) (Op.move ( .tmp 10)) 23 ?_ (by kernel_rfl) (by kernel_rfl) (by kernel_rfl) (fun _ _ _ h => h) ?_ (by assumption) ?_
   rotate_left
   ·
    intro w hSw; (try dsimp only at hSw); go_simp; (try (with_reducible rfl))
   try simp only [Act.put, List.setIfInBounds_toArray, List.set_cons_zero, List.set_cons_succ]
   refine take_op 4 (some 89) (Op.call { callee := Callee.builtin Builtin.len, args := #[ .tmp 88], argTypes := #[23] }) 3 ?_ (by kernel_rfl) (by kernel_rfl) (by kernel_rfl) (fun _ _ _ h => h) ?_ (by assumption) ?_
   rotate_left
   ·
    intro w hSw; (try dsimp only at hSw); go_simp; (try (with_reducible rfl))
   try simp only [Act.put, List.setIfInBounds_toArray, List.set_cons_zero, List.set_cons_succ]
   refine take_op 5 (some 90) (Op.binOp BinOp.eql 3 ( .tmp 89) ( .const (.int .i64 1)) 3) 4 ?_ (by kernel_rfl) (by kernel_rfl) (by kernel_rfl) (fun _ _ _ h => h) ?_ (by assumption) ?_
   rotate_left
   ·
    intro w hSw; (try dsimp only at hSw); go_simp; (try (with_reducible rfl))
   try simp only [Act.put, List.setIfInBounds_toArray, List.set_cons_zero, List.set_cons_succ]
   refine take_op 6 (some 91) (Op.pick ( .tmp 87) ( .tmp 90) ( .const (Value.bool false))) 4 ?_ (by kernel_rfl) (by kernel_rfl) (by kernel_rfl) (fun _ _ _ h => h) ?_ (by assumption) ?_
   rotate_left
   ·
    intro w hSw; (try dsimp only at hSw); go_simp; (try (with_reducible rfl))
   try simp only [Act.put, List.setIfInBounds_toArray, List.set_cons_zero, List.set_cons_succ]
   refine take_op 7 (some 92) (Op.move ( .tmp 91)) 4 ?_ (by kernel_rfl) (by kernel_rfl) (by kernel_rfl) (fun _ _ _ h => h) ?_ (by assumption) ?_
   rotate_left
   ·
    intro w hSw; (try dsimp only at hSw); go_simp; (try (with_reducible rfl))
   try simp only [Act.put, List.setIfInBounds_toArray, List.set_cons_zero, List.set_cons_succ]
   refine take_op 8 (some 93) (Op.move ( .tmp 10)) 23 ?_ (by kernel_rfl) (by kernel_rfl) (by kernel_rfl) (fun _ _ _ h => h) ?_ (by assumption) ?_
   rotate_left
   ·
    intro w hSw; (try dsimp only at hSw); go_simp; (try (with_reducible rfl))
   try simp only [Act.put, List.setIfInBounds_toArray, List.set_cons_zero, List.set_cons_succ]
   refine take_op 9 (some 94) (Op.indexAddr 23 ( .tmp 93) ( .const (.int .i64 0))) 0 ?_ (by kernel_rfl) (by kernel_rfl) (by kernel_rfl) (fun _ _ _ h => h) ?_ (by assumption) ?_
   rotate_left
   ·
    intro w hSw; (try dsimp only at hSw); go_simp; (try (with_reducible rfl))
   try simp only [Act.put, List.setIfInBounds_toArray, List.set_cons_zero, List.set_cons_succ]
   refine take_op 10 (some 95) (Op.fieldAddr 39 ( .tmp 94) 0) 0 ?_ (by kernel_rfl) (by kernel_rfl) (by kernel_rfl) (fun _ _ _ h => h) ?_ (by assumption) ?_
   rotate_left
   ·
    intro w hSw; (try dsimp only at hSw); go_simp; (try (with_reducible rfl))
   try simp only [Act.put, List.setIfInBounds_toArray, List.set_cons_zero, List.set_cons_succ]
   refine take_op 11 (some 96) (Op.load 5 ( .tmp 95)) 5 ?_ (by kernel_rfl) (by kernel_rfl) (by kernel_rfl) (fun _ _ _ h => h) ?_ (by assumption) ?_
   rotate_left
   ·
    intro w hSw; (try dsimp only at hSw); go_simp; (try (with_reducible rfl))
   try simp only [Act.put, List.setIfInBounds_toArray, List.set_cons_zero, List.set_cons_succ]
   refine take_op 12 (some 97) (Op.binOp BinOp.eql 5 ( .tmp 96) ( .const (.int .u8 6)) 5) 4 ?_ (by kernel_rfl) (by kernel_rfl) (by kernel_rfl) (fun _ _ _ h => h) ?_ (by assumption) ?_
   rotate_left
   ·
    intro w hSw; (try dsimp only at hSw); go_simp; (try (with_reducible rfl))
   try simp only [Act.put, List.setIfInBounds_toArray, List.set_cons_zero, List.set_cons_succ]
   refine take_op 13 (some 98) (Op.pick ( .tmp 92) ( .tmp 97) ( .const (Value.bool false))) 4 ?_ (by kernel_rfl) (by kernel_rfl) (by kernel_rfl) (fun _ _ _ h => h) ?_ (by assumption) ?_
   rotate_left
   ·
    intro w hSw; (try dsimp only at hSw); go_simp; (try (with_reducible rfl))
   try simp only [Act.put, List.setIfInBounds_toArray, List.set_cons_zero, List.set_cons_succ]
   refine take_op 14 (some 99) (Op.move ( .tmp 98)) 4 ?_ (by kernel_rfl) (by kernel_rfl) (by kernel_rfl) (fun _ _ _ h => h) ?_ (by assumption) ?_
   rotate_left
   ·
    intro w hSw; (try dsimp only at hSw); go_simp; (try (with_reducible rfl))
   try simp only [Act.put, List.setIfInBounds_toArray, List.set_cons_zero, List.set_cons_succ]
   refine take_op 15 (some 100) (Op.move ( .tmp 10)) 23 ?_ (by kernel_rfl) (by kernel_rfl) (by kernel_rfl) (fun _ _ _ h => h) ?_ (by assumption) ?_
   rotate_left
   ·
    intro w hSw; (try dsimp only at hSw); go_simp; (try (with_reducible rfl))
   try simp only [Act.put, List.setIfInBounds_toArray, List.set_cons_zero, List.set_cons_succ]
   refine take_op 16 (some 101) (Op.indexAddr 23 ( .tmp 100) ( .const (.int .i64 0))) 0 ?_ (by kernel_rfl) (by kernel_rfl) (by kernel_rfl) (fun _ _ _ h => h) ?_ (by assumption) ?_
   rotate_left
   ·
    intro w hSw; (try dsimp only at hSw); go_simp; (try (with_reducible rfl))
   try simp only [Act.put, List.setIfInBounds_toArray, List.set_cons_zero, List.set_cons_succ]
   refine take_op 17 (some 102) (Op.fieldAddr 39 ( .tmp 101) 6) 0 ?_ (by kernel_rfl) (by kernel_rfl) (by kernel_rfl) (fun _ _ _ h => h) ?_ (by assumption) ?_
   rotate_left
   ·
    intro w hSw; (try dsimp only at hSw); go_simp; (try (with_reducible rfl))
   try simp only [Act.put, List.setIfInBounds_toArray, List.set_cons_zero, List.set_cons_succ]
   refine take_op 18 (some 103) (Op.load 32 ( .tmp 102)) 32 ?_ (by kernel_rfl) (by kernel_rfl) (by kernel_rfl) (fun _ _ _ h => h) ?_ (by assumption) ?_
   rotate_left
   ·
    intro w hSw; (try dsimp only at hSw); go_simp; (try (with_reducible rfl))
   try simp only [Act.put, List.setIfInBounds_toArray, List.set_cons_zero, List.set_cons_succ]
   refine take_op 19 (some 104) (Op.move ( .tmp 4)) 22 ?_ (by kernel_rfl) (by kernel_rfl) (by kernel_rfl) (fun _ _ _ h => h) ?_ (by assumption) ?_
   rotate_left
   ·
    intro w hSw; (try dsimp only at hSw); go_simp; (try (with_reducible rfl))
   try simp only [Act.put, List.setIfInBounds_toArray, List.set_cons_zero, List.set_cons_succ]
   refine take_op 20 (some 105) (Op.move ( .tmp 5)) 22 ?_ (by kernel_rfl) (by kernel_rfl) (by kernel_rfl) (fun _ _ _ h => h) ?_ (by assumption) ?_
   rotate_left
   ·
    intro w hSw; (try dsimp only at hSw); go_simp; (try (with_reducible rfl))
   try simp only [Act.put, List.setIfInBounds_toArray, List.set_cons_zero, List.set_cons_succ]
   refine ready_e (rs := [21]) (by kernel_rfl) (by simp) ?_
   refine (do_mid (o := _) rfl (fun K hK => ?_) none_e)
   go_simp
   go_at_call 19
   refine (tree_any 41 0 ps _ _ _ (by rw [HKL.out]; omega) (by rw [HKL.out]; omega) H9.out (HN4.out.no HF.out) (HN5.out.no HF.out)).mono ?_
   rintro e w10 ⟨hf, cs, rfl, hc⟩
   have HC := Lib.hid hf
   have HCT := Lib.hid hc
   clear hf hc
   replace HF := Lib.hid (HF.out.then HC.out)
   clear HC
   refine hK.out _ _ ?_ (fun hHeld => ?_)
   ·
    exact HS5.out _ HF.out
   clear hK K
   try dsimp only
   try simp only [Act.put, List.setIfInBounds_toArray, List.set_cons_zero, List.set_cons_succ]
   refine ready_e (rs := [22]) (by kernel_rfl) (by simp) ?_
   refine (do_mid (o := _) rfl (fun K hK => ?_) none_e)
   go_simp
   go_at_call 18
   refine (same_exp (tree 0 ps) _ _ _ _ _ (HCE.out.no HF.out) HCT.out).mono ?_
   rintro e w11 ⟨rfl, hf⟩
   have HC := Lib.hid hf
   clear hf HCT
   replace HF := Lib.hid (HF.out.then HC.out)
   clear HC
   refine hK.out _ _ ?_ (fun hHeld => ?_)
   ·
    exact HS5.out _ HF.out
   clear hK K
   try dsimp only
   try simp only [Act.put, List.setIfInBounds_toArray, List.set_cons_zero, List.set_cons_succ]
   refine take_op 23 (some 108) (Op.pick ( .tmp 99) ( .tmp 107) ( .const (Value.bool false))) 4 ?_ (by kernel_rfl) (by kernel_rfl) (by kernel_rfl) (fun _ _ _ h => h) ?_ (by assumption) ?_
   rotate_left
   ·
    intro w hSw; (try dsimp only at hSw); go_simp; (try (with_reducible rfl))
   try simp only [Act.put, List.setIfInBounds_toArray, List.set_cons_zero, List.set_cons_succ]
   refine take_op 24 (some 109) (Op.move ( .tmp 108)) 4 ?_ (by kernel_rfl) (by kernel_rfl) (by kernel_rfl) (fun _ _ _ h => h) ?_ (by assumption) ?_
   rotate_left
   ·
    intro w hSw; (try dsimp only at hSw); go_simp; (try (with_reducible rfl))
   try simp only [Act.put, List.setIfInBounds_toArray, List.set_cons_zero, List.set_cons_succ]
   refine ready_e (rs := [25]) (by kernel_rfl) (by simp) ?_
   refine (do_mid (o := _) rfl (fun K hK => ?_) none_e)
   go_simp
   go_at_call 11
   refine (works_any _ (HLV.out.no (HF3.out.then HF.out))).mono ?_
   rintro e w12 ⟨rfl, hf⟩
   have HC := Lib.hid hf
   clear hf
   replace HF := Lib.hid (HF.out.then HC.out)
   clear HC
   refine hK.out _ _ ?_ (fun hHeld => ?_)
   ·
    exact HS5.out _ HF.out
   clear hK K
   try dsimp only
   try simp only [Act.put, List.setIfInBounds_toArray, List.set_cons_zero, List.set_cons_succ]
   refine take_op 26 (some 111) (Op.pick ( .tmp 109) ( .tmp 110) ( .const (Value.bool false))) 4 ?_ (by kernel_rfl) (by kernel_rfl) (by kernel_rfl) (fun _ _ _ h => h) ?_ (by assumption) ?_
   rotate_left
   ·
    intro w hSw; (try dsimp only at hSw); go_simp; (try (with_reducible rfl))
   try simp only [Act.put, List.setIfInBounds_toArray, List.set_cons_zero, List.set_cons_succ]
   refine take_op 27 (some 2) (Op.assign ( .tmp 111)) 4 ?_ (by kernel_rfl) (by kernel_rfl) (by kernel_rfl) (fun _ _ _ h => h) ?_ (by assumption) ?_
   rotate_left
   ·
    intro w hSw; (try dsimp only at hSw); go_simp; (try (with_reducible rfl))
   try simp only [Act.put, List.setIfInBounds_toArray, List.set_cons_zero, List.set_cons_succ]
   refine done_e (by kernel_rfl) ?_ _
   (try simp only [Exit.inBlock, Exit.then])
   go_wp2_with fail
   go_ret
   exact ⟨rfl, HF3.out.then HF.out⟩
end Go.Proofs.YtjabhmepafofmaaDoor
