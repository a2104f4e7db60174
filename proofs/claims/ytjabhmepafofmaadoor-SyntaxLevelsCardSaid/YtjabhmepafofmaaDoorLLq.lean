/- SyntaxLevels: the source, its tokens, its program, and what is picked. -/
import Derived.Test.YtjabhmepafofmaaDoorLLp
set_option linter.unusedVariables false
set_option linter.unusedSimpArgs false
namespace Go.Proofs.YtjabhmepafofmaaDoor
open Go.RowKit

def pS : Ps → List UInt8
 | [] => []
 | c :: r => 32 :: (opS c.1 ++ 32 :: (nmS c.2 ++ pS r))
theorem pS_append : ∀ a b : Ps, pS (a ++ b) = pS a ++ pS b
 | [], _ => rfl
 | c :: a, b => by simp [pS, pS_append a b]
def lvS0 (ps : Ps) : List UInt8 := [100, 111, 32, 120] ++ pS ps
def lvS (ps : Ps) : List UInt8 := lvS0 ps ++ [59]
def lvK (ps : Ps) : List Key := (6, [100, 111]) :: kNm 0 :: (psK ps ++ [(7, [59])])
theorem scans_nm {d : UInt8} {l : List UInt8} {K : List Key} (hd : Sc.part d = false) (h : Scans (d :: l) K) : ∀ j, Scans (nmS j ++ d :: l) (kNm j :: K)
 | 0 => scans_x hd h
 | 1 => by
  have hw : (97 :: d :: l).takeWhile Sc.part = [97] := by
   rw [List.takeWhile_cons_of_pos (by decide), List.takeWhile_cons_of_neg (by simp [hd])]
  refine scans_tok (t := ⟨1, [97], 0, 0⟩) (n := 1) rfl ?_ rfl h
  show Sc.nameT (97 :: d :: l) = _
  simp only [Sc.nameT, hw]
  rfl
 | 2 => by
  have hw : (98 :: d :: l).takeWhile Sc.part = [98] := by
   rw [List.takeWhile_cons_of_pos (by decide), List.takeWhile_cons_of_neg (by simp [hd])]
  refine scans_tok (t := ⟨1, [98], 0, 0⟩) (n := 1) rfl ?_ rfl h
  show Sc.nameT (98 :: d :: l) = _
  simp only [Sc.nameT, hw]
  rfl
 | j + 3 => by
  have hw : (99 :: d :: l).takeWhile Sc.part = [99] := by
   rw [List.takeWhile_cons_of_pos (by decide), List.takeWhile_cons_of_neg (by simp [hd])]
  refine scans_tok (t := ⟨1, [99], 0, 0⟩) (n := 1) rfl ?_ rfl h
  show Sc.nameT (99 :: d :: l) = _
  simp only [Sc.nameT, hw]
  rfl
theorem scans_op {l : List UInt8} {K : List Key} (h : Scans (32 :: l) K) : ∀ i, Scans (opS i ++ 32 :: l) (kOp i :: K)
 | 0 => scans_tok (t := ⟨7, [58, 61], 0, 0⟩) (n := 2) rfl rfl rfl h
 | 1 => scans_tok (t := ⟨7, [61], 0, 0⟩) (n := 1) rfl rfl rfl h
 | 2 => scans_tok (t := ⟨7, [60], 0, 0⟩) (n := 1) rfl rfl rfl h
 | 3 => scans_tok (t := ⟨7, [94], 0, 0⟩) (n := 1) rfl rfl rfl h
 | 4 => scans_tok (t := ⟨7, [43], 0, 0⟩) (n := 1) rfl rfl rfl h
 | 5 => scans_tok (t := ⟨7, [45], 0, 0⟩) (n := 1) rfl rfl rfl h
 | 6 => scans_tok (t := ⟨7, [42], 0, 0⟩) (n := 1) rfl rfl rfl h
 | 7 => by
  have hw : (100 :: 105 :: 118 :: 32 :: l).takeWhile Sc.part = [100, 105, 118] := by
   rw [List.takeWhile_cons_of_pos (by decide), List.takeWhile_cons_of_pos (by decide), List.takeWhile_cons_of_pos (by decide), List.takeWhile_cons_of_neg (by decide)]
  refine scans_tok (t := ⟨6, [100, 105, 118], 0, 0⟩) (n := 3) rfl ?_ rfl h
  show Sc.nameT (100 :: 105 :: 118 :: 32 :: l) = _
  simp only [Sc.nameT, hw]
  rfl
 | j + 8 => by
  have hw : (109 :: 111 :: 100 :: 32 :: l).takeWhile Sc.part = [109, 111, 100] := by
   rw [List.takeWhile_cons_of_pos (by decide), List.takeWhile_cons_of_pos (by decide), List.takeWhile_cons_of_pos (by decide), List.takeWhile_cons_of_neg (by decide)]
  refine scans_tok (t := ⟨6, [109, 111, 100], 0, 0⟩) (n := 3) rfl ?_ rfl h
  show Sc.nameT (109 :: 111 :: 100 :: 32 :: l) = _
  simp only [Sc.nameT, hw]
  rfl
theorem pS_head : ∀ r : Ps, ∃ d m, pS r ++ [59] = d :: m ∧ Sc.part d = false
 | [] => ⟨59, [], rfl, by decide⟩
 | c :: r => ⟨32, _, rfl, by decide⟩
theorem scans_pS : ∀ ps : Ps, Scans (pS ps ++ [59]) (psK ps ++ [(7, [59])])
 | [] => scans_semi scans_nil
 | c :: r => by
  have ih := scans_pS r
  obtain ⟨d, m, e, hd⟩ := pS_head r
  rw [e] at ih
  have h := scans_blank (scans_op (scans_blank (scans_nm hd ih c.2)) c.1)
  rw [← e] at h
  simpa [pS, psK] using h
theorem lv_scans (ps : Ps) : Scans (lvS ps) (lvK ps) := by
 obtain ⟨d, m, e, hd⟩ := pS_head ps
 have h := scans_pS ps
 rw [e] at h
 have h2 := scans_do (scans_blank (scans_nm hd h 0))
 rw [← e] at h2
 exact h2
theorem opS_len : ∀ i, (opS i).length ≤ 3
 | 0 => by decide
 | 1 => by decide
 | 2 => by decide
 | 3 => by decide
 | 4 => by decide
 | 5 => by decide
 | 6 => by decide
 | 7 => by decide
 | _ + 8 => Nat.le_refl _
theorem nmS_len : ∀ i, (nmS i).length = 1
 | 0 => rfl
 | 1 => rfl
 | 2 => rfl
 | _ + 3 => rfl
theorem pS_len : ∀ ps : Ps, (pS ps).length ≤ 6 * ps.length
 | [] => Nat.le_refl _
 | c :: r => by
  have := pS_len r
  have := opS_len c.1
  simp only [pS, List.length_cons, List.length_append, nmS_len]
  omega
theorem lvS_len (ps : Ps) : (lvS ps).length ≤ 6 * ps.length + 5 := by
 have := pS_len ps
 simp only [lvS, lvS0, List.length_append, List.length_cons, List.length_nil]
 omega
theorem lvK_len (ps : Ps) : (lvK ps).length = 2 * ps.length + 3 := by
 simp only [lvK, List.length_cons, List.length_append, psK_len, List.length_nil]
section
variable {l : List Tok}
theorem exp_of {N p q : Nat} {e : E} {t k : Tok} (h0 : ((gram N).level 0).run l p = .ok e q) (hk : l.getD p zTok = k) (hp : Plain k) (ht : l.getD q zTok = t) (hs : Stop t) : (gram (N + 1)).exp.run l p = .ok e q := by
 show ((gram N).pExp N).run l p = _
 unfold Gr.pExp
 rw [run_skip_no hk hp.1, if_neg (by simp), run_skip_no hk hp.2.1, if_neg (by simp), run_skip_no hk hp.2.2.1, if_neg (by simp), run_skip_no hk hp.2.2.2, if_neg (by simp), run_then h0, run_skip_no ht hs.2.2, if_neg (by simp)]
 rfl
def lvD (ps : Ps) : D := .mk 6 nob [] [] [] zT (tree 0 ps)
theorem lv_run (ps : Ps) (hg : Good 0 ps) (h : l.map keyT = (lvK ps).map keyM) : progR l (gram (2 * ps.length + 11)) 2 [] 0 = .ok [lvD ps] (2 * ps.length + 3) := by
 have hl : l.length = 2 * ps.length + 3 := by
  have := congrArg List.length h
  simpa [lvK_len] using this
 have h0 : (l.map keyT).drop 0 = keyM (6, [100, 111]) :: (kNm 0 :: (psK ps ++ [(7, [59])])).map keyM := by rw [h]; rfl
 obtain ⟨⟨a0, c0, e0⟩, h1⟩ := at_key (k := (6, [100, 111])) h0
 obtain ⟨⟨a1, c1, e1⟩, h2⟩ := at_key (k := kNm 0) (r := psK ps ++ [(7, [59])]) h1
 have h3 := drop_psK ps h2
 obtain ⟨⟨a3, c3, e3⟩, _⟩ := at_key (k := (7, [59])) (r := []) h3
 have e3' : l.getD (0 + 1 + 2 * ps.length + 1) zTok = ⟨7, Sc.mk [59], a3, c3⟩ := by
  rw [show 0 + 1 + 2 * ps.length + 1 = 0 + 1 + 1 + 2 * ps.length by omega]
  exact e3
 have hrun : LRun l 0 (2 * ps.length + 9) 0 ps (0 + 1) := level_run _ 0 ps 0 (0 + 1) (2 * ps.length + 9) [(7, [59])] (by omega) (Nat.lt_succ_self _) hg h1 ⟨_, e3', stopL_of stop_semi⟩ (by omega)
 have hx := exp_of hrun e1 (plain_key (n := a1) (c := c1) (.inr (.inr rfl))).1 e3' stop_semi
 have hd : ((gram (2 * ps.length + 11)).dec true).run l 0 = .ok (lvD ps) (0 + 1 + 2 * ps.length + 1) := by
  show ((gram (2 * ps.length + 10)).pDec (2 * ps.length + 10) true).run l 0 = _
  unfold Gr.pDec
  rw [run_skip_no e0 (by kernel_rfl), if_neg (by simp), run_skip_no e0 (by kernel_rfl), if_neg (by simp), run_skip_yes e0 (by kernel_rfl), if_pos rfl, run_then hx]
  rfl
 have hm : (must ⟨#[59]⟩).run l (0 + 1 + 2 * ps.length + 1) = .ok () (2 * ps.length + 3) := by
  have := run_must2 (k := .ret) e3' (x := ⟨#[59]⟩) (by kernel_rfl)
  rw [run_bind] at this
  cases hv : (must ⟨#[59]⟩).run l (0 + 1 + 2 * ps.length + 1) with
  | ok a q =>
   rw [hv] at this
   have h5 : Re.ok a q = .ok () (0 + 1 + 2 * ps.length + 1 + 1) := this
   rw [h5]
   congr 1
   omega
  | fail q => rw [hv] at this; cases this
  | out => rw [hv] at this; cases this
 unfold progR
 rw [if_pos (by omega), hd]
 simp only [Re.andThen]
 rw [hm]
 simp only [progR]
 rw [if_neg (by omega)]
 rfl
end
theorem nE_tr : ∀ (n x : Nat) (ps : Ps), nE (tr n x ps) ≤ 2 * ps.length + 1
 | 0, _, _ => by simp only [tr, zE, nE, nEs, nRs, nDs]; omega
 | n + 1, x, ps => by
  simp only [tr]
  by_cases h : ps = []
  ·
   rw [if_pos h]
   simp only [Gr.mkE, nE, nEs, nRs, nDs]
   omega
  ·
   have hk := cut_lt h
   have h1 := nE_tr n x (ps.take (cutTo (tl ps) ps.length))
   have h2 := nE_tr n (ps.getD (cutTo (tl ps) ps.length) (0, 0)).2 (ps.drop (cutTo (tl ps) ps.length + 1))
   rw [if_neg h]
   simp only [Gr.mkE, nE, nEs, nRs, nDs]
   rw [List.length_take] at h1
   rw [List.length_drop] at h2
   omega
theorem lv_depth (ps : Ps) (h : ps.length ≤ 40) : ¬ 100 < dProg [lvD ps] := by
 have h1 := nE_tr (ps.length + 1) 0 ps
 have h2 : nD (lvD ps) ≤ 90 := by
  simp only [lvD, nD, nCs, nFs, zT, nT, nTs]
  have : nE (tree 0 ps) ≤ 2 * ps.length + 1 := h1
  omega
 have h3 := dD_le (lvD ps) (by show nD (lvD ps) < 4611686018427387904; omega)
 simp only [dProg, List.map_cons, List.map_nil, mx]
 omega
theorem lv_all (ps : Ps) (hg : Good 0 ps) (hl : ps.length ≤ 40) : progR (toks (lvS ps)) (gram (2 * ps.length + 11)) 2 [] 0 = .ok [lvD ps] (2 * ps.length + 3) ∧ (toks (lvS ps)).length = 2 * ps.length + 3 := by
 have hk := toks_keys (lv_scans ps) (by have := lvS_len ps; omega)
 refine ⟨lv_run ps hg hk, ?_⟩
 have := congrArg List.length hk
 simpa [lvK_len] using this

/-! what is picked -/
def lsn (l : List Nat) (i : Nat) : Nat := ((l.take i).filter fun k => decide (tt (k % 9) < 2)).length
def opAt (l : List Nat) (i : Nat) : Nat := if tt (l.getD i 0 % 9) < 2 then (if lsn l i = 0 then l.getD i 0 % 9 else 4) else l.getD i 0 % 9
def pairAt (l : List Nat) (i : Nat) : Nat × Nat := (opAt l i, l.getD i 0 / 16 % 3 + 1)
def psOf (l : List Nat) (n : Nat) : Ps := (List.range n).map (pairAt l)
theorem psOf_succ (l : List Nat) (n : Nat) : psOf l (n + 1) = psOf l n ++ [pairAt l n] := by simp [psOf, List.range_succ]
theorem psOf_len (l : List Nat) (n : Nat) : (psOf l n).length = n := by simp [psOf]
theorem lsn_succ {l : List Nat} {i k : Nat} (h : l[i]? = some k) : lsn l (i + 1) = lsn l i + if tt (k % 9) < 2 then 1 else 0 := by
 obtain ⟨hi, e⟩ := List.getElem?_eq_some_iff.1 h
 rw [lsn, List.take_succ_eq_append_getElem hi, List.filter_append, List.length_append, e]
 by_cases hk : tt (k % 9) < 2 <;> simp [hk, lsn]
theorem lsn_mono {l : List Nat} {i : Nat} : ∀ d, lsn l i ≤ lsn l (i + d)
 | 0 => Nat.le_refl _
 | d + 1 => by
  have h1 := lsn_mono (l := l) (i := i) d
  cases h : l[i + d]? with
  | some k =>
   have := lsn_succ h
   rw [show i + (d + 1) = i + d + 1 by omega]
   omega
  | none =>
   have h2 : l.length ≤ i + d := by simpa using h
   rw [show lsn l (i + (d + 1)) = lsn l (i + d) by rw [lsn, lsn, List.take_of_length_le (by omega), List.take_of_length_le (by omega)]]
   exact h1
theorem opAt_lt (l : List Nat) (i : Nat) : opAt l i < 9 := by
 unfold opAt
 split
 ·
  split <;> omega
 ·
  omega
theorem psOf_good {l : List Nat} {n : Nat} (hn : n ≤ l.length) : Good 0 (psOf l n) := by
 refine ⟨fun c hc => ?_, ?_⟩
 ·
  obtain ⟨i, _, rfl⟩ := List.mem_map.1 hc
  exact ⟨Nat.zero_le _, opAt_lt l i⟩
 ·
  refine List.pairwise_map.2 ?_
  refine (List.pairwise_lt_range (n := n)).imp_of_mem fun {i j} hi hj hij h => ?_
  have hi := List.mem_range.1 hi
  obtain ⟨k, hk⟩ : ∃ k, l[i]? = some k := ⟨_, List.getElem?_eq_getElem (by omega)⟩
  have hgd : l.getD i 0 = k := by rw [List.getD_eq_getElem?_getD, hk]; rfl
  have hloose : tt (k % 9) < 2 := by
   simp only [pairAt, opAt, hgd] at h
   by_cases hx : tt (k % 9) < 2
   ·
    exact hx
   ·
    rw [if_neg hx] at h
    exact h
  have h1 := lsn_succ hk
  rw [if_pos hloose] at h1
  have h2 := lsn_mono (l := l) (i := i + 1) (j - (i + 1))
  rw [show i + 1 + (j - (i + 1)) = j by omega] at h2
  simp only [pairAt, opAt]
  split
  ·
   rw [if_neg (by omega)]
   decide
  ·
   omega
end Go.Proofs.YtjabhmepafofmaaDoor
