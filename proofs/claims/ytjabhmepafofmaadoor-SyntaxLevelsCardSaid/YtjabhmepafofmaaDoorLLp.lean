/- SyntaxLevels: operators in a row, and the tree that is cut at the loosest one. -/
import Derived.Test.YtjabhmepafofmaaDoorLDn
import Derived.Test.YtjabhmepafofmaaDoorLRn
set_option linter.unusedVariables false
set_option linter.unusedSimpArgs false
namespace Go.Proofs.YtjabhmepafofmaaDoor
open Go.RowKit

/-- the operators by number -/
def opS : Nat → List UInt8
 | 0 => [58, 61]
 | 1 => [61]
 | 2 => [60]
 | 3 => [94]
 | 4 => [43]
 | 5 => [45]
 | 6 => [42]
 | 7 => [100, 105, 118]
 | _ => [109, 111, 100]
def opK : Nat → Nat
 | 0 => 7
 | 1 => 7
 | 2 => 7
 | 3 => 7
 | 4 => 7
 | 5 => 7
 | 6 => 7
 | _ => 6
def tt : Nat → Nat
 | 0 => 0
 | 1 => 1
 | 2 => 1
 | 3 => 2
 | 4 => 3
 | 5 => 3
 | _ => 4
def nmS : Nat → List UInt8
 | 0 => [120]
 | 1 => [97]
 | 2 => [98]
 | _ => [99]
theorem tt_le : ∀ i, tt i ≤ 4
 | 0 => by decide
 | 1 => by decide
 | 2 => by decide
 | 3 => by decide
 | 4 => by decide
 | 5 => by decide
 | _ + 6 => Nat.le_refl _
abbrev Ps := List (Nat × Nat)
def kOp (i : Nat) : Key := (opK i, opS i)
def kNm (j : Nat) : Key := (1, nmS j)
def psK : Ps → List Key
 | [] => []
 | c :: r => kOp c.1 :: kNm c.2 :: psK r
theorem psK_append : ∀ a b : Ps, psK (a ++ b) = psK a ++ psK b
 | [], _ => rfl
 | c :: a, b => by simp [psK, psK_append a b]
theorem psK_len : ∀ a : Ps, (psK a).length = 2 * a.length
 | [] => rfl
 | c :: a => by simp only [psK, List.length_cons, psK_len a]; omega

/-! the cut -/
def cutTo (f : Nat → Nat) : Nat → Nat
 | 0 => 0
 | i + 1 => if f i < f (cutTo f i) ∨ (f i = f (cutTo f i) ∧ f i ≠ 2) then i else cutTo f i
theorem cutTo_le (f : Nat → Nat) : ∀ i, cutTo f (i + 1) ≤ i
 | 0 => by simp only [cutTo]; split <;> omega
 | i + 1 => by
  have := cutTo_le f i
  rw [cutTo]
  split <;> omega
theorem cut_here {f : Nat → Nat} {p : Nat} (h : ∀ i, i < p → f p ≤ f i ∧ (f p = 2 → f p < f i)) : cutTo f (p + 1) = p := by
 rw [cutTo]
 cases p with
 | zero => simp [cutTo]
 | succ p =>
  have h1 := cutTo_le f p
  have h2 := h (cutTo f (p + 1)) (by omega)
  rw [if_pos (by omega)]
theorem cut_at {f : Nat → Nat} {p : Nat} (h : ∀ i, i < p → f p ≤ f i ∧ (f p = 2 → f p < f i)) : ∀ d, (∀ i, p < i → i < p + 1 + d → f p ≤ f i ∧ (f p ≠ 2 → f p < f i)) → cutTo f (p + 1 + d) = p
 | 0, _ => cut_here h
 | d + 1, h2 => by
  have ih := cut_at h d fun i h3 h4 => h2 i h3 (by omega)
  have h5 := h2 (p + 1 + d) (by omega) (by omega)
  rw [show p + 1 + (d + 1) = p + 1 + d + 1 by omega, cutTo, ih, if_neg (by omega)]
def tl (ps : Ps) (i : Nat) : Nat := tt (ps.getD i (0, 0)).1
def tr : Nat → Nat → Ps → E
 | 0, _, _ => zE
 | n + 1, x, ps => if ps = [] then Gr.mkE 1 (Sc.mk (nmS x)) [] else Gr.mkE 15 (Sc.mk (opS (ps.getD (cutTo (tl ps) ps.length) (0, 0)).1)) [tr n x (ps.take (cutTo (tl ps) ps.length)), tr n (ps.getD (cutTo (tl ps) ps.length) (0, 0)).2 (ps.drop (cutTo (tl ps) ps.length + 1))]
theorem cut_lt {ps : Ps} (h : ps ≠ []) : cutTo (tl ps) ps.length < ps.length := by
 cases ps with
 | nil => exact absurd rfl h
 | cons c r =>
  have := cutTo_le (tl (c :: r)) r.length
  simp only [List.length_cons]
  omega
theorem tr_fuel : ∀ (n m x : Nat) (ps : Ps), ps.length < n → ps.length < m → tr n x ps = tr m x ps
 | 0, _, _, _, h, _ => absurd h (Nat.not_lt_zero _)
 | _ + 1, 0, _, _, _, h => absurd h (Nat.not_lt_zero _)
 | n + 1, m + 1, x, ps, h, h2 => by
  simp only [tr]
  by_cases he : ps = []
  ·
   rw [if_pos he, if_pos he]
  ·
   have := cut_lt he
   rw [if_neg he, if_neg he, tr_fuel n m x _ (by simp; omega) (by simp; omega), tr_fuel n m _ _ (by simp; omega) (by simp; omega)]
/-- the tree of an operand, and operators with operands behind them -/
def tree (x : Nat) (ps : Ps) : E := tr (ps.length + 1) x ps
theorem tree_nil (x : Nat) : tree x [] = Gr.mkE 1 (Sc.mk (nmS x)) [] := rfl
theorem tree_cut {x : Nat} {ps : Ps} (h : ps ≠ []) : tree x ps = Gr.mkE 15 (Sc.mk (opS (ps.getD (cutTo (tl ps) ps.length) (0, 0)).1)) [tree x (ps.take (cutTo (tl ps) ps.length)), tree (ps.getD (cutTo (tl ps) ps.length) (0, 0)).2 (ps.drop (cutTo (tl ps) ps.length + 1))] := by
 have hk := cut_lt h
 unfold tree
 rw [tr, if_neg h, tr_fuel ps.length _ x (ps.take _) (by simp; omega) (Nat.lt_succ_self _), tr_fuel ps.length _ _ (ps.drop _) (by simp; omega) (Nat.lt_succ_self _)]
theorem tl_mid {a b : Ps} {o : Nat × Nat} : tl (a ++ o :: b) a.length = tt o.1 := by simp [tl]
theorem tree_at {x : Nat} {a b : Ps} {o : Nat × Nat} (ha : ∀ c ∈ a, tt o.1 ≤ tt c.1 ∧ (tt o.1 = 2 → tt o.1 < tt c.1)) (hb : ∀ c ∈ b, tt o.1 ≤ tt c.1 ∧ (tt o.1 ≠ 2 → tt o.1 < tt c.1)) :
  tree x (a ++ o :: b) = Gr.mkE 15 (Sc.mk (opS o.1)) [tree x a, tree o.2 b] := by
 have hcut : cutTo (tl (a ++ o :: b)) (a ++ o :: b).length = a.length := by
  rw [show (a ++ o :: b).length = a.length + 1 + b.length by simp; omega]
  refine cut_at (fun i hi => ?_) _ (fun i hi hi2 => ?_)
  ·
   rw [tl_mid]
   obtain ⟨c, hc⟩ : ∃ c, a[i]? = some c := ⟨_, List.getElem?_eq_getElem hi⟩
   have e : tl (a ++ o :: b) i = tt c.1 := by simp [tl, List.getD_eq_getElem?_getD, List.getElem?_append_left hi, hc]
   rw [e]
   exact ha c (List.mem_of_getElem? hc)
  ·
   rw [tl_mid]
   obtain ⟨j, rfl⟩ : ∃ j, i = a.length + 1 + j := ⟨i - (a.length + 1), by omega⟩
   obtain ⟨c, hc⟩ : ∃ c, b[j]? = some c := ⟨_, List.getElem?_eq_getElem (by omega)⟩
   have e : tl (a ++ o :: b) (a.length + 1 + j) = tt c.1 := by
    simp only [tl, List.getD_eq_getElem?_getD]
    rw [List.getElem?_append_right (by omega), show a.length + 1 + j - a.length = j + 1 by omega, List.getElem?_cons_succ, hc]
    rfl
   rw [e]
   exact hb c (List.mem_of_getElem? hc)
 have hg : (a ++ o :: b).getD a.length (0, 0) = o := by simp
 rw [tree_cut (by simp), hcut, hg]
 simp

/-! how it is read -/
def StopL (lv : Nat) (t : Tok) : Prop := (∀ v, lv ≤ v → v < 5 → seesB t (Gr.ops v) = false) ∧ Gr.startsB t = false
theorem stopL_of {t : Tok} (h : Stop t) : StopL 0 t := ⟨fun v _ hv => h.1 v hv, h.2.1⟩
theorem sees_op {n c : Int} : ∀ (i lv : Nat), i < 9 → lv < 5 → seesB ⟨opK i, Sc.mk (opS i), n, c⟩ (Gr.ops lv) = decide (tt i = lv) := by
 intro i lv hi hlv
 have hi : i = 0 ∨ i = 1 ∨ i = 2 ∨ i = 3 ∨ i = 4 ∨ i = 5 ∨ i = 6 ∨ i = 7 ∨ i = 8 := by omega
 have hlv : lv = 0 ∨ lv = 1 ∨ lv = 2 ∨ lv = 3 ∨ lv = 4 := by omega
 rcases hi with rfl | rfl | rfl | rfl | rfl | rfl | rfl | rfl | rfl <;> rcases hlv with rfl | rfl | rfl | rfl | rfl <;> (show _ = _; kernel_rfl)
theorem starts_op {n c : Int} : ∀ (i : Nat), i < 9 → Gr.startsB ⟨opK i, Sc.mk (opS i), n, c⟩ = false := by
 intro i hi
 have hi : i = 0 ∨ i = 1 ∨ i = 2 ∨ i = 3 ∨ i = 4 ∨ i = 5 ∨ i = 6 ∨ i = 7 ∨ i = 8 := by omega
 rcases hi with rfl | rfl | rfl | rfl | rfl | rfl | rfl | rfl | rfl <;> (show _ = _; kernel_rfl)
theorem stop_op {n c : Int} {i lv : Nat} (hi : i < 9) (h : tt i < lv) : StopL lv ⟨opK i, Sc.mk (opS i), n, c⟩ :=
 ⟨fun v h1 h2 => by rw [sees_op i v hi h2]; exact decide_eq_false (by omega), starts_op i hi⟩
section
variable {l : List Tok}
theorem drop_psK {K : List Key} : ∀ (a : Ps) {q : Nat}, (l.map keyT).drop q = (psK a ++ K).map keyM → (l.map keyT).drop (q + 2 * a.length) = K.map keyM
 | [], q, h => by simpa [psK] using h
 | c :: a, q, h => by
  obtain ⟨_, h1⟩ := at_key (k := kOp c.1) (r := kNm c.2 :: (psK a ++ K)) (by simpa [psK] using h)
  obtain ⟨_, h2⟩ := at_key (k := kNm c.2) (r := psK a ++ K) (by simpa using h1)
  have := drop_psK a h2
  rw [show q + 2 * (c :: a).length = q + 1 + 1 + 2 * a.length by simp; omega]
  exact this
/-- what stands behind is no operator of this level, nor a tighter one -/
theorem next_stop {q lv : Nat} {K : List Key} {r : Ps} (hk : (l.map keyT).drop q = (psK r ++ K).map keyM) (hr : ∀ c ∈ r, c.1 < 9) (hh : ∀ c, r[0]? = some c → tt c.1 = lv) (he : ∃ t, l.getD (q + 2 * r.length) zTok = t ∧ StopL lv t) : ∃ t, l.getD q zTok = t ∧ StopL (lv + 1) t := by
 cases r with
 | nil =>
  obtain ⟨t, h1, h2⟩ := he
  exact ⟨t, by simpa using h1, fun v hv => h2.1 v (by omega), h2.2⟩
 | cons c r =>
  obtain ⟨⟨n, k, e⟩, _⟩ := at_key (k := kOp c.1) (r := kNm c.2 :: (psK r ++ K)) (by simpa [psK] using hk)
  exact ⟨_, e, stop_op (hr c (List.mem_cons_self ..)) (by rw [hh c rfl]; omega)⟩
theorem level_of {N lv p q : Nat} {e : E} {k : Gr} (hk : k = gram N) (hlv : lv < 5) (h : (k.level (lv + 1)).run l p = .ok e q) : ((gram (N + 1)).level lv).run l p = (k.opsL lv N e).run l q := by
 subst hk
 show ((gram N).pLevel N lv).run l p = _
 unfold Gr.pLevel
 rw [if_neg (by omega), run_then h]
theorem ops_stop {g : Gr} {lv m q : Nat} {e : E} (h : seesB (l.getD q zTok) (Gr.ops lv) = false) : (g.opsL lv (m + 1) e).run l q = .ok e q := by
 unfold Gr.opsL
 rw [run_next, if_neg (by rw [h]; decide)]
 rfl
theorem ops_go {g : Gr} {lv m q q2 : Nat} {e e2 : E} {k : Nat} {s : ByteArray} {n c : Int} (ht : l.getD q zTok = ⟨k, s, n, c⟩) (h : seesB ⟨k, s, n, c⟩ (Gr.ops lv) = true) (h2 : (g.level (if Gr.rows lv = 1 then lv else lv + 1)).run l (q + 1) = .ok e2 q2) :
  (g.opsL lv (m + 1) e).run l q = if Gr.rows lv = 2 then (g.opsL lv m (Gr.mkE 15 s [e, e2])).run l q2 else .ok (Gr.mkE 15 s [e, e2]) q2 := by
 rw [Gr.opsL, run_next, ht, if_pos h]
 show ((g.level (if Gr.rows lv = 1 then lv else lv + 1)).bind _).run l (q + 1) = _
 rw [run_then h2]
 split
 ·
  rfl
 ·
  rfl
/-- the run of a level over operators that are as tight, or tighter -/
def LRun (l : List Tok) (lv N : Nat) (x : Nat) (ps : Ps) (p : Nat) : Prop := ((gram N).level lv).run l p = .ok (tree x ps) (p + 2 * ps.length + 1)
def Good (lv : Nat) (ps : Ps) : Prop := (∀ c ∈ ps, lv ≤ tt c.1 ∧ c.1 < 9) ∧ ps.Pairwise fun c d => tt c.1 < 2 → 2 ≤ tt d.1
/-- behind the first tighter ones -/
theorem split_tt (lv : Nat) : ∀ ps : Ps, (∀ c ∈ ps, lv ≤ tt c.1) → ∃ a r, ps = a ++ r ∧ (∀ c ∈ a, lv < tt c.1) ∧ ∀ c, r[0]? = some c → tt c.1 = lv
 | [], _ => ⟨[], [], rfl, fun c h => by simp at h, fun c h => by simp at h⟩
 | d :: ps, h => by
  by_cases hd : lv < tt d.1
  ·
   obtain ⟨a, r, e, h1, h2⟩ := split_tt lv ps fun c hc => h c (List.mem_cons_of_mem _ hc)
   refine ⟨d :: a, r, by rw [e]; rfl, fun c hc => ?_, h2⟩
   rcases List.mem_cons.1 hc with rfl | hc
   ·
    exact hd
   ·
    exact h1 c hc
  ·
   exact ⟨[], d :: ps, rfl, fun c hc => by simp at hc, fun c hc => by
    simp only [List.getElem?_cons_zero, Option.some.injEq] at hc
    subst hc
    have := h d (List.mem_cons_self ..)
    omega⟩
theorem rows_left {lv : Nat} (h : lv = 3 ∨ lv = 4) : Gr.rows lv = 2 := by rcases h with rfl | rfl <;> rfl
theorem rows_right : Gr.rows 2 = 1 := rfl
theorem rows_never {lv : Nat} (h : lv = 0 ∨ lv = 1) : Gr.rows lv = 0 := by rcases h with rfl | rfl <;> rfl
/-- operators that stand in rows to the left -/
theorem left_run {lv N x : Nat} {K : List Key} (hlv : lv = 3 ∨ lv = 4) : ∀ (m : Nat) (a r : Ps) (q : Nat), r.length < m → (∀ c ∈ a, lv ≤ tt c.1) → (∀ c ∈ r, lv ≤ tt c.1 ∧ c.1 < 9) → (∀ c, r[0]? = some c → tt c.1 = lv) →
  (l.map keyT).drop q = (psK r ++ K).map keyM → (∃ t, l.getD (q + 2 * r.length) zTok = t ∧ StopL lv t) →
  (∀ (b : Ps) (y q : Nat) (K : List Key), b.length < r.length → (∀ c ∈ b, lv + 1 ≤ tt c.1 ∧ c.1 < 9) → (l.map keyT).drop q = (kNm y :: (psK b ++ K)).map keyM → (∃ t, l.getD (q + 2 * b.length + 1) zTok = t ∧ StopL (lv + 1) t) → LRun l (lv + 1) N y b q) →
  ((gram N).opsL lv m (tree x a)).run l q = .ok (tree x (a ++ r)) (q + 2 * r.length)
 | 0, _, _, _, h, _, _, _, _, _, _ => absurd h (Nat.not_lt_zero _)
 | m + 1, a, [], q, _, _, _, _, _, he, _ => by
  obtain ⟨t, h1, h2⟩ := he
  rw [ops_stop (by rw [show q = q + 2 * ([] : Ps).length by simp, h1]; exact h2.1 lv (Nat.le_refl _) (by omega))]
  simp
 | m + 1, a, c :: r, q, hm, ha, hr, hh, hk, he, hih => by
  obtain ⟨⟨n, k, e⟩, h1⟩ := at_key (k := kOp c.1) (r := kNm c.2 :: (psK r ++ K)) (by simpa [psK] using hk)
  have hc := hr c (List.mem_cons_self ..)
  have htc := hh c rfl
  obtain ⟨b, r2, rfl, hb, hh2⟩ := split_tt lv r fun d hd => (hr d (List.mem_cons_of_mem _ hd)).1
  have h2 := (at_key (k := kNm c.2) (r := psK (b ++ r2) ++ K) (by simpa using h1)).2
  rw [psK_append, List.append_assoc] at h1 h2
  have h3 := drop_psK b h2
  have hen : ∃ t, l.getD (q + 1 + 1 + 2 * b.length + 2 * r2.length) zTok = t ∧ StopL lv t := by
   obtain ⟨t, h4, h5⟩ := he
   exact ⟨t, by rw [← h4]; congr 1; simp; omega, h5⟩
  have hst := next_stop h3 (fun d hd => (hr d (by simp [hd])).2) hh2 hen
  have hrun := hih b c.2 (q + 1) (psK r2 ++ K) (by simp; omega) (fun d hd => ⟨hb d hd, (hr d (by simp [hd])).2⟩) (by simpa using h1) (by rw [show q + 1 + 2 * b.length + 1 = q + 1 + 1 + 2 * b.length by omega]; exact hst)
  have hgo := ops_go (g := gram N) (m := m) (e := tree x a) (q := q) e (by rw [show (kOp c.1).1 = opK c.1 from rfl, show (kOp c.1).2 = opS c.1 from rfl, sees_op c.1 lv hc.2 (by omega)]; exact decide_eq_true htc) (by rw [rows_left hlv, if_neg (by decide)]; exact hrun)
  rw [hgo, rows_left hlv, if_pos rfl]
  have htree : Gr.mkE 15 (Sc.mk (kOp c.1).2) [tree x a, tree c.2 b] = tree x (a ++ c :: b) := (tree_at (fun d hd => ⟨by rw [htc]; exact ha d hd, fun h => by omega⟩) (fun d hd => ⟨by rw [htc]; exact Nat.le_of_lt (hb d hd), fun _ => by rw [htc]; exact hb d hd⟩)).symm
  rw [htree, left_run hlv m (a ++ c :: b) r2 (q + 1 + 2 * b.length + 1) (by simp at hm; omega) (fun d hd => by
   rcases List.mem_append.1 hd with hd | hd
   ·
    exact ha d hd
   ·
    rcases List.mem_cons.1 hd with rfl | hd
    ·
     exact hc.1
    ·
     exact Nat.le_of_lt (hb d hd)) (fun d hd => hr d (by simp [hd])) hh2 (by rw [show q + 1 + 2 * b.length + 1 = q + 1 + 1 + 2 * b.length by omega]; exact h3) (by rw [show q + 1 + 2 * b.length + 1 = q + 1 + 1 + 2 * b.length by omega]; exact hen) (fun b' y q' K' hl => hih b' y q' K' (by simp; omega))]
  simp only [List.append_assoc, List.cons_append, List.length_cons, List.length_append]
  rw [show q + 1 + 2 * b.length + 1 + 2 * r2.length = q + 2 * (b.length + r2.length + 1) by omega]
theorem level_run : ∀ (M lv : Nat) (ps : Ps) (x p N : Nat) (K : List Key), lv ≤ 5 → ps.length * 6 + (5 - lv) < M → Good lv ps → (l.map keyT).drop p = (kNm x :: (psK ps ++ K)).map keyM → (∃ t, l.getD (p + 2 * ps.length + 1) zTok = t ∧ StopL lv t) → 4 + (5 - lv) + 2 * ps.length ≤ N → LRun l lv N x ps p
 | 0, _, _, _, _, _, _, _, h, _, _, _, _ => absurd h (Nat.not_lt_zero _)
 | M + 1, lv, ps, x, p, N, K, hlv, hM, hg, hk, he, hN => by
  by_cases h5 : lv = 5
  ·
   subst h5
   have hps : ps = [] := by
    cases ps with
    | nil => rfl
    | cons c r =>
     have h1 := (hg.1 c (List.mem_cons_self ..)).1
     have h2 := tt_le c.1
     omega
   subst hps
   obtain ⟨N, rfl⟩ : ∃ k, N = k + 4 := ⟨N - 4, by simp at hN; omega⟩
   obtain ⟨⟨n, c, e⟩, _⟩ := at_key (k := kNm x) (r := K) (by simpa [psK] using hk)
   have hp := pre_var (N := N) e
   obtain ⟨t, h1, h2⟩ := he
   have hc : (gram (N + 3)).calls.run l p = .ok (tree x []) (p + 1) := by
    show ((gram (N + 2)).pCalls (N + 2)).run l p = _
    unfold Gr.pCalls
    rw [run_then hp]
    show ((if Gr.startsB (l.getD (p + 1) zTok) = true then _ else _ : Pr E)).run l (p + 1) = _
    have h1' : l.getD (p + 1) zTok = t := by simpa using h1
    rw [h1', if_neg (by simp [h2.2])]
    rfl
   exact hc
  ·
   have hl5 : lv < 5 := by omega
   obtain ⟨N, rfl⟩ : ∃ k, N = k + 1 := ⟨N - 1, by omega⟩
   obtain ⟨a, r, rfl, ha, hh⟩ := split_tt lv ps fun c hc => (hg.1 c hc).1
   rw [psK_append, List.append_assoc] at hk
   simp only [List.length_append] at hM he hN
   have h1 := (at_key (k := kNm x) (r := psK a ++ (psK r ++ K)) (by simpa using hk)).2
   have h2 := drop_psK a h1
   have hpw := List.pairwise_append.1 hg.2
   have hr9 : ∀ c ∈ r, c.1 < 9 := fun c hc => (hg.1 c (List.mem_append_right _ hc)).2
   have hen : ∃ t, l.getD (p + 1 + 2 * a.length + 2 * r.length) zTok = t ∧ StopL lv t := by
    obtain ⟨t, h4, h5⟩ := he
    exact ⟨t, by rw [← h4]; congr 1; omega, h5⟩
   have hst := next_stop h2 hr9 hh hen
   have hfirst : LRun l (lv + 1) N x a p := level_run M (lv + 1) a x p N (psK r ++ K) (by omega) (by omega) ⟨fun c hc => ⟨ha c hc, (hg.1 c (List.mem_append_left _ hc)).2⟩, hpw.1⟩ hk (by rw [show p + 2 * a.length + 1 = p + 1 + 2 * a.length by omega]; exact hst) (by omega)
   unfold LRun
   rw [level_of rfl hl5 hfirst]
   by_cases h34 : lv = 3 ∨ lv = 4
   ·
    rw [left_run (x := x) (K := K) h34 N a r (p + 2 * a.length + 1) (by omega) (fun c hc => Nat.le_of_lt (ha c hc)) (fun c hc => hg.1 c (List.mem_append_right _ hc)) hh (by rw [show p + 2 * a.length + 1 = p + 1 + 2 * a.length by omega]; exact h2) (by rw [show p + 2 * a.length + 1 = p + 1 + 2 * a.length by omega]; exact hen) (fun b y q K' hb hb2 hk2 he2 => level_run M (lv + 1) b y q N K' (by omega) (by omega) ⟨hb2, by
     refine List.pairwise_of_forall_mem_list fun c hc d hd h => ?_
     have := (hb2 c hc).1
     omega⟩ hk2 he2 (by omega))]
    rw [List.length_append, show p + 2 * a.length + 1 + 2 * r.length = p + 2 * (a.length + r.length) + 1 by omega]
   ·
    obtain ⟨N, rfl⟩ : ∃ k, N = k + 1 := ⟨N - 1, by omega⟩
    cases r with
    | nil =>
     obtain ⟨t, h4, h5⟩ := hen
     rw [ops_stop (by rw [show p + 2 * a.length + 1 = p + 1 + 2 * a.length + 2 * ([] : Ps).length by simp; omega, h4]; exact h5.1 lv (Nat.le_refl _) hl5)]
     simp
    | cons c r =>
     obtain ⟨⟨n, k, e⟩, h6⟩ := at_key (k := kOp c.1) (r := kNm c.2 :: (psK r ++ K)) (by simpa [psK] using h2)
     have htc := hh c rfl
     have hc9 := hr9 c (List.mem_cons_self ..)
     have hpr := List.pairwise_cons.1 hpw.2.1
     have hsee : seesB ⟨(kOp c.1).1, Sc.mk (kOp c.1).2, n, k⟩ (Gr.ops lv) = true := by
      rw [show (kOp c.1).1 = opK c.1 from rfl, show (kOp c.1).2 = opS c.1 from rfl, sees_op c.1 lv hc9 hl5]
      exact decide_eq_true htc
     have hen2 : ∃ t, l.getD (p + 1 + 2 * a.length + 1 + 2 * r.length + 1) zTok = t ∧ StopL lv t := by
      obtain ⟨t, h4, h5⟩ := hen
      exact ⟨t, by rw [← h4]; congr 1; simp; omega, h5⟩
     simp only [List.length_cons] at hM hN
     by_cases hl2 : lv = 2
     ·
      subst hl2
      have hrun := level_run M 2 r c.2 (p + 1 + 2 * a.length + 1) (N + 1) K (by omega) (by omega) ⟨fun d hd => hg.1 d (by simp [hd]), hpr.2⟩ (by simpa using h6) hen2 (by omega)
      have hgo := ops_go (g := gram (N + 1)) (m := N) (e := tree x a) (q := p + 1 + 2 * a.length) e hsee (by rw [rows_right, if_pos rfl]; exact hrun)
      rw [show p + 2 * a.length + 1 = p + 1 + 2 * a.length by omega, hgo, rows_right, if_neg (by decide)]
      have htree : Gr.mkE 15 (Sc.mk (kOp c.1).2) [tree x a, tree c.2 r] = tree x (a ++ c :: r) := (tree_at (fun d hd => ⟨by rw [htc]; exact Nat.le_of_lt (ha d hd), fun _ => by rw [htc]; exact ha d hd⟩) (fun d hd => ⟨by rw [htc]; exact (hg.1 d (by simp [hd])).1, fun h => absurd htc h⟩)).symm
      rw [htree]
      congr 1
      simp
      omega
     ·
      have h01 : lv = 0 ∨ lv = 1 := by omega
      have hr2 : ∀ d ∈ r, lv + 1 ≤ tt d.1 := fun d hd => by
       have := hpr.1 d hd (by omega)
       omega
      have hrun := level_run M (lv + 1) r c.2 (p + 1 + 2 * a.length + 1) (N + 1) K (by omega) (by omega) ⟨fun d hd => ⟨hr2 d hd, (hg.1 d (by simp [hd])).2⟩, hpr.2⟩ (by simpa using h6) (by
       obtain ⟨t, h4, h5⟩ := hen2
       exact ⟨t, h4, fun v hv => h5.1 v (by omega), h5.2⟩) (by omega)
      have hgo := ops_go (g := gram (N + 1)) (m := N) (e := tree x a) (q := p + 1 + 2 * a.length) e hsee (by rw [rows_never h01, if_neg (by decide)]; exact hrun)
      rw [show p + 2 * a.length + 1 = p + 1 + 2 * a.length by omega, hgo, rows_never h01, if_neg (by decide)]
      have htree : Gr.mkE 15 (Sc.mk (kOp c.1).2) [tree x a, tree c.2 r] = tree x (a ++ c :: r) := (tree_at (fun d hd => ⟨by rw [htc]; exact Nat.le_of_lt (ha d hd), fun _ => by rw [htc]; exact ha d hd⟩) (fun d hd => ⟨by rw [htc]; exact Nat.le_of_lt (hr2 d hd), fun _ => by rw [htc]; exact hr2 d hd⟩)).symm
      rw [htree]
      congr 1
      simp
      omega
end
end Go.Proofs.YtjabhmepafofmaaDoor
