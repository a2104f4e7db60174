/- Nb, Wo -/
import Derived.Test.YtjabhmepafofmaaGreatDoorH34
import Derived.Test.YtjabhmepafofmaaGreatDoorG06
import Derived.Test.YtjabhmepafofmaaGreatDoorH20
import Derived.Test.YtjabhmepafofmaaGreatDoorG05
import Derived.Test.YtjabhmepafofmaaGreatDoorH23
set_option linter.unusedVariables false
set_option linter.unusedSimpArgs false
namespace Go.Proofs.YtjabhmepafofmaaGreatDoor
open Go.RowKit
/-- where it gives something, that is so -/
structure Bw (l : List Tok) {α : Type} (m : Pr α) (p : Nat) (Q : α → Nat → Prop) : Prop where
  out : ∀ t q, m.run l p = .ok t q → Q t q
section
variable {α β : Type} {l : List Tok} {p : Nat} {Q : β → Nat → Prop}
theorem Bw.ret {t : β} (h : Q t p) : Bw l (.ret t) p Q := ⟨fun t q e => by cases e; exact h⟩
theorem Bw.fail : Bw l (Pr.fail : Pr β) p Q := ⟨fun t q e => by cases e⟩
theorem Bw.outs : Bw l (Pr.out : Pr β) p Q := ⟨fun t q e => by cases e⟩
theorem Bw.adv {m : Pr β} (h : Bw l m (p + 1) Q) : Bw l (.adv m) p Q := ⟨h.out⟩
theorem Bw.bind {m : Pr α} {k : α → Pr β} {R : α → Nat → Prop} (h : Bw l m p R) (hk : ∀ x q, R x q → Bw l (k x) q Q) : Bw l (m.bind k) p Q := ⟨fun t q e => by
  rw [run_bind] at e
  cases hr : m.run l p with
  | out => rw [hr] at e; cases e
  | fail q => rw [hr] at e; cases e
  | ok x r => rw [hr] at e; exact (hk x r (h.out x r hr)).out t q e⟩
theorem Bw.mono {m : Pr β} {R : β → Nat → Prop} (h : Bw l m p R) (hk : ∀ x q, R x q → Q x q) : Bw l m p Q := ⟨fun t q e => hk t q (h.out t q e)⟩
theorem Bw.ifs {c : Prop} [Decidable c] {m m2 : Pr β} (h1 : Bw l m p Q) (h2 : Bw l m2 p Q) : Bw l (if c then m else m2) p Q := by
  split
  · exact h1
  · exact h2
theorem Bw.sk {ts : List ByteArray} {k : Bool → Pr β} (h1 : Bw l (k true) (p + 1) Q) (h2 : Bw l (k false) p Q) : Bw l ((skip ts).bind k) p Q := ⟨fun t q e => by
  simp only [skip, Pr.bind, Pr.run] at e
  cases hs : seesB (l.getD p zTok) ts with
  | false => rw [hs] at e; exact h2.out t q e
  | true => rw [hs] at e; exact h1.out t q e⟩
theorem Bw.mu {s : ByteArray} {k : Unit → Pr β} (h1 : Bw l (k ()) (p + 1) Q) : Bw l ((must s).bind k) p Q := ⟨fun t q e => by
  simp only [must, Pr.bind, Pr.run] at e
  cases hs : seesB (l.getD p zTok) [s] with
  | false => rw [hs] at e; cases e
  | true => rw [hs] at e; exact h1.out t q e⟩
theorem Bw.tk {n : Nat} {k : ByteArray → Pr β} (h1 : ∀ s, Bw l (k s) (p + 1) Q) : Bw l ((take n).bind k) p Q := ⟨fun t q e => by
  simp only [take, Pr.bind, Pr.run] at e
  by_cases hs : (l.getD p zTok).kind = n
  · rw [if_pos hs] at e; exact (h1 _).out t q e
  · rw [if_neg hs] at e; cases e⟩
theorem Bw.nx {k : Tok → Pr β} (h : ∀ t, Bw l (k t) p Q) : Bw l (next.bind k) p Q := ⟨fun t q e => (h _).out t q e⟩
theorem Bw.ski {ts : List ByteArray} {m m2 : Pr β} (h1 : Bw l m (p + 1) Q) (h2 : Bw l m2 p Q) : Bw l ((skip ts).bind fun b => if b = true then m else m2) p Q := Bw.sk h1 h2
/-- a sum over a row: a sign stands ahead of each element but the first -/
theorem Bw.mo {f : α → Nat} {fs : List α → Nat} (hn : ∀ a x, fs (a ++ [x]) ≤ fs a + f x + 4) {s : ByteArray} {one : Pr α} (h : ∀ q, Bw l one q (fun t r => f t + 4 * q ≤ 4 * r)) : ∀ (n : Nat) (acc : List α) (p : Nat), Bw l (more s one n acc) p (fun t q => fs t + 4 * p ≤ fs acc + 4 * q)
  | 0, _, _ => .outs
  | n + 1, acc, p => by
    refine Bw.sk (Bw.bind (h _) fun x q hx => (Bw.mo hn h n (acc ++ [x]) q).mono fun t r ht => ?_) (Bw.ret (by omega))
    have := hn acc x
    omega
theorem Bw.sm {f : α → Nat} {fs : List α → Nat} (c : Nat) (hn : ∀ a x, fs (a ++ [x]) ≤ fs a + f x + 4) (h0 : ∀ x, fs [x] ≤ f x) {s : ByteArray} {one : Pr α} (h : ∀ q, Bw l one q (fun t r => f t + c + 4 * q ≤ 4 * r)) (n : Nat) : Bw l (some_ n s one) p (fun t q => fs t + c + 4 * p ≤ 4 * q) := by
  refine Bw.bind (h _) fun x q hx => (Bw.mo hn (fun q => (h q).mono fun t r h => by omega) n [x] q).mono fun t r ht => ?_
  have := h0 x
  omega
end
theorem nTs_snoc : ∀ (a : List T) (x : T), nTs (a ++ [x]) = nTs a + nT x
  | [], x => by simp only [List.nil_append, nTs]; omega
  | t :: r, x => by simp only [List.cons_append, nTs, nTs_snoc r x]; omega
theorem nEs_snoc : ∀ (a : List E) (x : E), nEs (a ++ [x]) = nEs a + nE x
  | [], x => by simp only [List.nil_append, nEs]; omega
  | t :: r, x => by simp only [List.cons_append, nEs, nEs_snoc r x]; omega
theorem nRs_snoc : ∀ (a : List R) (x : R), nRs (a ++ [x]) = nRs a + nR x
  | [], x => by simp only [List.nil_append, nRs]; omega
  | t :: r, x => by simp only [List.cons_append, nRs, nRs_snoc r x]; omega
theorem nFs_snoc : ∀ (a : List F) (x : F), nFs (a ++ [x]) = nFs a + nF x
  | [], x => by simp only [List.nil_append, nFs]; omega
  | t :: r, x => by simp only [List.cons_append, nFs, nFs_snoc r x]; omega
theorem nCs_snoc : ∀ (a : List C) (x : C), nCs (a ++ [x]) = nCs a + nT x.ty
  | [], x => by simp only [List.nil_append, nCs]; omega
  | t :: r, x => by simp only [List.cons_append, nCs, nCs_snoc r x]; omega
theorem nDs_snoc : ∀ (a : List D) (x : D), nDs (a ++ [x]) = nDs a + nD x
  | [], x => by simp only [List.nil_append, nDs]; omega
  | t :: r, x => by simp only [List.cons_append, nDs, nDs_snoc r x]; omega
def nTl (l : List T) : Nat := nTs l + (l.length - 1)
theorem nTl_snoc (a : List T) (x : T) : nTl (a ++ [x]) ≤ nTl a + nT x + 4 := by
  simp only [nTl, nTs_snoc, List.length_append, List.length_singleton]
  omega
theorem nTl_one (x : T) : nTl [x] ≤ nT x := by
  simp only [nTl, nTs, List.length_singleton]
  omega
theorem nEs_le (a : List E) (x : E) : nEs (a ++ [x]) ≤ nEs a + nE x + 4 := by rw [nEs_snoc]; omega
theorem nEs_one (x : E) : nEs [x] ≤ nE x := by simp only [nEs]; omega
theorem nRs_le (a : List R) (x : R) : nRs (a ++ [x]) ≤ nRs a + nR x + 4 := by rw [nRs_snoc]; omega
theorem nRs_one (x : R) : nRs [x] ≤ nR x := by simp only [nRs]; omega
theorem nFs_le (a : List F) (x : F) : nFs (a ++ [x]) ≤ nFs a + nF x + 4 := by rw [nFs_snoc]; omega
theorem nFs_one (x : F) : nFs [x] ≤ nF x := by simp only [nFs]; omega
def nC (c : C) : Nat := nT c.ty
theorem nCs_le (a : List C) (x : C) : nCs (a ++ [x]) ≤ nCs a + nC x + 4 := by rw [nCs_snoc]; unfold nC; omega
theorem nCs_one (x : C) : nCs [x] ≤ nC x := by simp only [nCs, nC]; omega
/-- no more parts than there is room for -/
abbrev Bd (l : List Tok) {α : Type} (f : α → Nat) (m : Pr α) : Prop := ∀ p, Bw l m p fun t q => f t + 1 + 4 * p ≤ 4 * q
structure Bds (l : List Tok) (g : Gr) : Prop where
  ty : Bd l nT g.ty
  row : Bd l nT g.row
  post : Bd l nT g.post
  tyAtom : Bd l nT g.tyAtom
  exp : Bd l nE g.exp
  rule : Bd l nR g.rule
  level : ∀ n, Bd l nE (g.level n)
  calls : Bd l nE g.calls
  prefix_ : Bd l nE g.prefix_
  atom : Bd l nE g.atom
  round : Bd l nE g.round
  let_ : Bd l nE g.let_
  pat : Bd l nT g.pat
  patAtom : Bd l nT g.patAtom
  patRound : Bd l nT g.patRound
  dec : ∀ b, Bd l nD (g.dec b)
  con : Bd l nC g.con
  fun_ : Bd l nF g.fun_
  vars : ∀ p, Bw l g.vars p fun _ q => p ≤ q
theorem nE_mk (k : Nat) (s : ByteArray) (l : List E) : nE (Gr.mkE k s l) = 1 + nEs l := by simp only [Gr.mkE, nE, nRs, nDs]; omega
theorem nEs_seq : ∀ (l : List E) (e : E), nE (Gr.seqE l e) = l.length + nEs l + nE e
  | [], e => by simp only [Gr.seqE, nEs, List.length_nil]; omega
  | x :: r, e => by simp only [Gr.seqE, nE_mk, nEs, nEs_seq r e, List.length_cons]; omega
theorem nEs_seqs (e : E) (l : List E) : nE (Gr.seqs (e :: l)) = l.length + nEs (e :: l) := by
  rw [Gr.seqs, nEs_seq, List.length_dropLast, List.length_cons]
  have h := nEs_snoc (e :: l).dropLast ((e :: l).getLastD zE)
  rw [show (e :: l).dropLast ++ [(e :: l).getLastD zE] = e :: l from by
    rw [List.getLastD_eq_getLast?, List.getLast?_eq_some_getLast (List.cons_ne_nil e l), Option.getD_some, List.dropLast_concat_getLast]] at h
  omega
/-- and as many again as there are elements -/
def nEl (l : List E) : Nat := l.length + nEs l
theorem nEl_snoc (a : List E) (x : E) : nEl (a ++ [x]) = nEl a + (nE x + 1) := by
  simp only [nEl, nEs_snoc, List.length_append, List.length_singleton]
  omega
theorem nEl_le (a : List E) (x : E) : nEl (a ++ [x]) ≤ nEl a + (nE x + 1) + 4 := by rw [nEl_snoc]; omega
theorem nEl_one (x : E) : nEl [x] ≤ nE x + 1 := by simp only [nEl, nEs, List.length_singleton]; omega
theorem names_bd {l : List Tok} : ∀ (n : Nat) (t : T) (p : Nat), Bw l (Gr.names n t) p fun u q => nT u + 4 * p ≤ nT t + 4 * q
  | 0, _, _ => .outs
  | n + 1, t, p => by
    refine Bw.nx fun k => Bw.ifs (Bw.tk fun s => (names_bd n _ _).mono fun u q h => ?_) (Bw.ret (by omega))
    simp only [nT, nTs] at h
    omega
theorem argsL_bd {l : List Tok} : ∀ (n : Nat) (t : List ByteArray) (p : Nat), Bw l (Gr.argsL n t) p fun _ q => p ≤ q
  | 0, _, _ => .outs
  | n + 1, t, p => Bw.nx fun k => Bw.ifs (Bw.tk fun s => (argsL_bd n _ _).mono fun u q h => by omega) (Bw.ret (Nat.le_refl _))
theorem takes_bd {l : List Tok} {k : Nat} {s : ByteArray} : ∀ (n : Nat) (t : List ByteArray) (p : Nat), Bw l (more s (take k) n t) p fun _ q => p ≤ q
  | 0, _, _ => .outs
  | n + 1, t, p => Bw.sk (Bw.tk fun s => (takes_bd n _ _).mono fun u q h => by omega) (Bw.ret (Nat.le_refl _))
section
variable {l : List Tok} {g : Gr}
theorem opsL_bd (h : Bds l g) (lv : Nat) : ∀ (n : Nat) (t : E) (p : Nat), Bw l (g.opsL lv n t) p fun u q => nE u + 4 * p ≤ nE t + 4 * q
  | 0, _, _ => .outs
  | n + 1, t, p => by
    refine Bw.nx fun k => Bw.ifs (Bw.adv (Bw.bind (h.level _ _) fun x q hx => Bw.ifs ((opsL_bd h lv n _ _).mono fun u r hu => ?_) (Bw.ret ?_))) (Bw.ret (by omega))
    · simp only [nE_mk, nEs] at hu
      omega
    · simp only [nE_mk, nEs]
      omega
theorem callsL_bd (h : Bds l g) : ∀ (n : Nat) (t : E) (p : Nat), Bw l (g.callsL n t) p fun u q => nE u + 4 * p ≤ nE t + 4 * q
  | 0, _, _ => .outs
  | n + 1, t, p => by
    refine Bw.nx fun k => Bw.ifs (Bw.bind (h.prefix_ _) fun x q hx => (callsL_bd h n _ _).mono fun u r hu => ?_) (Bw.ret (by omega))
    simp only [nE_mk, nEs] at hu
    omega
theorem decsL_bd (h : Bds l g) : ∀ (n : Nat) (t : List D) (p : Nat), Bw l (g.decsL n t) p fun u q => nDs u + 4 * p ≤ nDs t + 4 * q
  | 0, _, _ => .outs
  | n + 1, t, p => by
    refine Bw.bind (h.dec _ _) fun x q hx => Bw.mu (Bw.sk (Bw.ret ?_) ((decsL_bd h n _ _).mono fun u r hu => ?_))
    · rw [nDs_snoc]
      omega
    · rw [nDs_snoc] at hu
      omega
theorem ty_bd (h : Bds l g) : Bd l nT g.pTy := fun p => by
  refine Bw.bind (h.row _) fun x q hx => Bw.sk (Bw.bind (h.ty _) fun y r hy => Bw.ret ?_) (Bw.ret hx)
  simp only [nT, nTs]
  omega
theorem row_bd (h : Bds l g) (n : Nat) : Bd l nT (g.pRow n) := fun p => by
  refine Bw.bind (Bw.sm 1 nTl_snoc nTl_one h.post n) fun x q hx => ?_
  rcases x with _ | ⟨y, _ | ⟨z, r⟩⟩
  all_goals
    refine Bw.ret ?_
    simp only [nTl, nTs, nT, List.length_cons, List.length_nil] at hx ⊢
    omega
theorem post_bd (h : Bds l g) (n : Nat) : Bd l nT (g.pPost n) := fun p => by
  refine Bw.bind (h.tyAtom _) fun x q hx => (names_bd n x q).mono fun t r ht => ?_
  omega
theorem tyAtom_bd (h : Bds l g) (n : Nat) : Bd l nT (g.pTyAtom n) := fun p => by
  refine Bw.nx fun k => Bw.ifs (Bw.tk fun s => Bw.ret ?_) (Bw.ifs (Bw.tk fun s => Bw.ret ?_) (Bw.mu (Bw.bind (Bw.sm 1 nTl_snoc nTl_one h.ty n) fun x q hx => Bw.mu ?_)))
  · simp only [nT, nTs]
    omega
  · simp only [nT, nTs]
    omega
  · split
    · refine Bw.ret ?_
      simp only [nTl, nTs, List.length_singleton] at hx
      omega
    · refine Bw.tk fun s => Bw.ret ?_
      unfold nTl at hx
      simp only [nT]
      omega
theorem rule_bd (h : Bds l g) : Bd l nR g.pRule := fun p => by
  refine Bw.bind (h.pat _) fun x q hx => Bw.mu (Bw.bind (h.exp _) fun y r hy => Bw.ret ?_)
  simp only [nR]
  omega
theorem exp_bd (h : Bds l g) (n : Nat) : Bd l nE (g.pExp n) := fun p => by
  refine Bw.sk (Bw.tk fun s => Bw.mu (Bw.bind (h.exp _) fun x q hx => Bw.ret ?_))
    (Bw.sk (Bw.bind (h.exp _) fun x q hx => Bw.mu (Bw.bind (Bw.sm 1 nRs_le nRs_one h.rule n) fun y r hy => Bw.ret ?_))
    (Bw.sk (Bw.bind (h.exp _) fun x q hx => Bw.mu (Bw.bind (h.exp _) fun y r hy => Bw.mu (Bw.bind (h.exp _) fun z u hz => Bw.ret ?_)))
    (Bw.sk (Bw.bind (h.exp _) fun x q hx => Bw.ret ?_)
    (Bw.bind (h.level _ _) fun x q hx => Bw.sk (Bw.bind (Bw.sm 1 nRs_le nRs_one h.rule n) fun y r hy => Bw.ret ?_) (Bw.ret hx)))))
  all_goals
    (try simp only [nE_mk, nEs, nE, nDs])
    omega
theorem level_bd (h : Bds l g) (n lv : Nat) : Bd l nE (g.pLevel n lv) := fun p => by
  refine Bw.ifs (h.calls p) (Bw.bind (h.level _ _) fun x q hx => (opsL_bd h lv n x q).mono fun t r ht => ?_)
  omega
theorem calls_bd (h : Bds l g) (n : Nat) : Bd l nE (g.pCalls n) := fun p => by
  refine Bw.bind (h.prefix_ _) fun x q hx => (callsL_bd h n x q).mono fun t r ht => ?_
  omega
theorem prefix_bd (h : Bds l g) : Bd l nE g.pPrefix := fun p => by
  refine Bw.nx fun k => Bw.sk (Bw.bind (h.prefix_ _) fun x q hx => Bw.ret ?_) (h.atom p)
  simp only [nE_mk, nEs]
  omega
theorem atom_bd (h : Bds l g) : Bd l nE g.pAtom := fun p => by
  refine Bw.nx fun k => Bw.ifs (Bw.adv (Bw.ret ?_)) (Bw.ifs (Bw.adv (Bw.ret ?_)) (Bw.ifs (Bw.adv (Bw.ret ?_)) (Bw.ifs (Bw.adv (Bw.ret ?_)) (Bw.sk ((h.let_ _).mono fun t q ht => ?_) (Bw.mu ((h.round _).mono fun t q ht => ?_))))))
  all_goals
    (try simp only [nE_mk, nEs, nE, nDs, nRs])
    omega
theorem round_bd (h : Bds l g) (n : Nat) : Bd l nE (g.pRound n) := fun p => by
  refine Bw.sk (Bw.ret ?_) (Bw.bind (h.exp _) fun x q hx => Bw.sk (Bw.bind (Bw.sm 1 nEs_le nEs_one h.exp n) fun y r hy => Bw.mu (Bw.ret ?_))
    (Bw.sk (Bw.bind (Bw.sm (f := fun x => nE x + 1) 0 nEl_le nEl_one h.exp n) fun y r hy => Bw.mu (Bw.ret ?_)) (Bw.mu (Bw.ret ?_))))
  · simp only [nE_mk, nEs]
    omega
  · simp only [nE_mk, nEs]
    omega
  · rw [nEs_seqs]
    simp only [nEs]
    unfold nEl at hy
    omega
  · rw [nEs_seqs]
    simp only [nEs, List.length_nil]
    omega
theorem let_bd (h : Bds l g) (n : Nat) : Bd l nE (g.pLet n) := fun p => by
  refine Bw.bind (decsL_bd h n [] p) fun x q hx => Bw.bind (h.exp _) fun y r hy => Bw.mu (Bw.ret ?_)
  simp only [nDs] at hx
  simp only [nE, nEs, nRs]
  omega
theorem pat_bd (h : Bds l g) : Bd l nT g.pPat := fun p => by
  refine Bw.nx fun k => Bw.ifs (Bw.tk fun s => Bw.nx fun k2 => Bw.ifs (Bw.bind (h.patAtom _) fun x q hx => Bw.ret ?_) (Bw.ret ?_)) (h.patAtom p)
  all_goals
    simp only [nT, nTs]
    omega
theorem patAtom_bd (h : Bds l g) : Bd l nT g.pPatAtom := fun p => by
  refine Bw.nx fun k => Bw.ifs (Bw.adv (Bw.ret ?_)) (Bw.ifs (Bw.adv (Bw.ret ?_)) (Bw.ifs (Bw.adv (Bw.ret ?_)) (Bw.ifs (Bw.adv (Bw.ret ?_)) (Bw.sk (Bw.nx fun k2 => Bw.tk fun s => Bw.ret ?_) (Bw.mu ((h.patRound _).mono fun t q ht => ?_))))))
  all_goals
    (try simp only [nT, nTs])
    omega
theorem patRound_bd (h : Bds l g) (n : Nat) : Bd l nT (g.pPatRound n) := fun p => by
  refine Bw.sk (Bw.ret ?_) (Bw.bind (Bw.sm 1 nTl_snoc nTl_one h.pat n) fun x q hx => Bw.mu ?_)
  · simp only [nT, nTs]
    omega
  · split
    · refine Bw.ret ?_
      simp only [nTl, nTs, List.length_singleton] at hx
      omega
    · refine Bw.ret ?_
      unfold nTl at hx
      simp only [nT]
      omega
theorem con_bd (h : Bds l g) : Bd l nC g.pCon := fun p => by
  refine Bw.tk fun s => Bw.sk (Bw.bind (h.ty _) fun x q hx => Bw.ret ?_) (Bw.ret ?_)
  · show nT x + _ + _ ≤ _
    omega
  · show nT zT + _ + _ ≤ _
    simp only [zT, nT, nTs]
    omega
theorem fun_bd (h : Bds l g) (n : Nat) : Bd l nF (g.pFun n) := fun p => by
  refine Bw.tk fun s => Bw.tk fun s2 => Bw.bind (argsL_bd n _ _) fun x q hx => Bw.mu (Bw.bind (h.exp _) fun y r hy => Bw.ret ?_)
  simp only [nF]
  omega
theorem dec_bd (h : Bds l g) (n : Nat) (b : Bool) : Bd l nD (g.pDec n b) := fun p => by
  refine Bw.ski (Bw.tk fun s => Bw.mu (Bw.bind (h.exp _) fun x q hx => Bw.ret ?_))
    (Bw.ski (Bw.bind (Bw.sm 1 nFs_le nFs_one h.fun_ n) fun x q hx => Bw.ret ?_)
    (Bw.ski (Bw.bind (h.exp _) fun x q hx => Bw.ret ?_)
    (Bw.ifs Bw.fail
    (Bw.ski (Bw.bind (h.vars _) fun v q hq => Bw.tk fun s => Bw.mu (Bw.bind (Bw.sm 1 nCs_le nCs_one h.con n) fun x q hx => Bw.ret ?_))
    (Bw.ski (Bw.bind (h.con _) fun x q hx => Bw.ret ?_)
    (Bw.ski (Bw.tk fun s => Bw.mu (Bw.bind (h.ty _) fun x q hx => Bw.mu (Bw.bind (h.exp _) fun y r hy => Bw.ret ?_)))
    Bw.fail))))))
  all_goals
    (try simp only [nC] at hx)
    simp only [nD, nFs, nCs, zT, zE, nT, nTs, nE, nEs, nRs, nDs]
    omega
end
theorem vars_bd {l : List Tok} (n : Nat) (p : Nat) : Bw l (Gr.pVars n) p fun _ q => p ≤ q := by
  refine Bw.sk (Bw.bind (R := fun _ q => p + 1 ≤ q) (Bw.tk fun s => (takes_bd n [s] _).mono fun u q h => by omega) fun x q hx => Bw.mu (Bw.ret ?_)) (Bw.nx fun k => Bw.ifs (Bw.tk fun s => Bw.ret ?_) (Bw.ret ?_))
  all_goals omega
theorem bds (l : List Tok) : ∀ n : Nat, Bds l (gram n)
  | 0 => ⟨fun _ => .outs, fun _ => .outs, fun _ => .outs, fun _ => .outs, fun _ => .outs, fun _ => .outs, fun _ _ => .outs, fun _ => .outs, fun _ => .outs, fun _ => .outs, fun _ => .outs, fun _ => .outs, fun _ => .outs, fun _ => .outs, fun _ => .outs, fun _ _ => .outs, fun _ => .outs, fun _ => .outs, fun _ => .outs⟩
  | n + 1 =>
    have h := bds l n
    ⟨ty_bd h, row_bd h n, post_bd h n, tyAtom_bd h n, exp_bd h n, rule_bd h, level_bd h n, calls_bd h n, prefix_bd h, atom_bd h, round_bd h n, let_bd h n, pat_bd h, patAtom_bd h, patRound_bd h n, dec_bd h n, con_bd h, fun_bd h n, vars_bd n⟩
/-- so has the program -/
theorem prog_bd {l : List Tok} {n : Nat} : ∀ (k : Nat) (acc : List D) (p : Nat) (ds : List D) (q : Nat), progR l (gram n) k acc p = .ok ds q → p ≤ l.length → q ≤ l.length ∧ nDs ds + 4 * p ≤ nDs acc + 4 * q
  | 0, acc, p, ds, q, h, hp => by cases h
  | k + 1, acc, p, ds, q, h, hp => by
    unfold progR at h
    by_cases hl : p < l.length
    · rw [if_pos hl] at h
      cases hd : ((gram n).dec true).run l p with
      | out => rw [hd] at h; cases h
      | fail r => rw [hd] at h; cases h
      | ok d r =>
        rw [hd] at h
        have h1 := ((bds l n).dec true p).out d r hd
        have h : ((must ⟨#[59]⟩).run l r).andThen _ = _ := h
        simp only [must, Pr.run] at h
        cases hs : seesB (l.getD r zTok) [⟨#[59]⟩] with
        | false => rw [hs] at h; cases h
        | true =>
          rw [hs] at h
          have h2 := prog_bd k (acc ++ [d]) (r + 1) ds q h (lt_of_sees hs)
          rw [nDs_snoc] at h2
          exact ⟨h2.1, by omega⟩
    · rw [if_neg hl] at h
      cases h
      exact ⟨hp, Nat.le_refl _⟩
end Go.Proofs.YtjabhmepafofmaaGreatDoor
namespace Go.Proofs.YtjabhmepafofmaaGreatDoor
open Go.RowKit
def src1 : List UInt8 := [118, 97, 108, 32, 120, 32, 61, 32, 49, 32, 45, 32, 50, 32, 45, 32, 102, 32, 33, 120, 59, 32, 100, 111, 32, 40, 120, 59, 32, 40, 41, 41, 59]
def src2 : List UInt8 := [100, 111, 32, 49, 32, 60, 32, 50, 32, 60, 32, 51, 59]
def wT1 : List Tok := [⟨6, ⟨#[118, 97, 108]⟩, 0, 0⟩, ⟨1, ⟨#[120]⟩, 0, 4⟩, ⟨7, ⟨#[61]⟩, 0, 6⟩, ⟨4, ⟨#[]⟩, 1, 8⟩, ⟨7, ⟨#[45]⟩, 0, 10⟩, ⟨4, ⟨#[]⟩, 2, 12⟩, ⟨7, ⟨#[45]⟩, 0, 14⟩, ⟨1, ⟨#[102]⟩, 0, 16⟩, ⟨7, ⟨#[33]⟩, 0, 18⟩, ⟨1, ⟨#[120]⟩, 0, 19⟩, ⟨7, ⟨#[59]⟩, 0, 20⟩, ⟨6, ⟨#[100, 111]⟩, 0, 22⟩, ⟨7, ⟨#[40]⟩, 0, 25⟩, ⟨1, ⟨#[120]⟩, 0, 26⟩, ⟨7, ⟨#[59]⟩, 0, 27⟩, ⟨7, ⟨#[40]⟩, 0, 29⟩, ⟨7, ⟨#[41]⟩, 0, 30⟩, ⟨7, ⟨#[41]⟩, 0, 31⟩, ⟨7, ⟨#[59]⟩, 0, 32⟩]
def wT2 : List Tok := [⟨6, ⟨#[100, 111]⟩, 0, 0⟩, ⟨4, ⟨#[]⟩, 1, 3⟩, ⟨7, ⟨#[60]⟩, 0, 5⟩, ⟨4, ⟨#[]⟩, 2, 7⟩, ⟨7, ⟨#[60]⟩, 0, 9⟩, ⟨4, ⟨#[]⟩, 3, 11⟩, ⟨7, ⟨#[59]⟩, 0, 12⟩]
def wE0 : E := (.mk 15 ⟨#[45]⟩ 0 ⟨#[]⟩ [(.mk 3 ⟨#[]⟩ 1 ⟨#[]⟩ [] [] []), (.mk 3 ⟨#[]⟩ 2 ⟨#[]⟩ [] [] [])] [] [])
def wE1 : E := (.mk 8 ⟨#[]⟩ 0 ⟨#[]⟩ [(.mk 1 ⟨#[102]⟩ 0 ⟨#[]⟩ [] [] []), (.mk 15 ⟨#[33]⟩ 0 ⟨#[]⟩ [(.mk 1 ⟨#[120]⟩ 0 ⟨#[]⟩ [] [] [])] [] [])] [] [])
def wE3 : E := (.mk 14 ⟨#[]⟩ 0 ⟨#[]⟩ [(.mk 1 ⟨#[120]⟩ 0 ⟨#[]⟩ [] [] []), (.mk 5 ⟨#[]⟩ 0 ⟨#[]⟩ [] [] [])] [] [])
def wD1 : D := .mk 3 ⟨#[120]⟩ [] [] [] (.mk 0 ⟨#[]⟩ 0 []) (.mk 15 ⟨#[45]⟩ 0 ⟨#[]⟩ [wE0, wE1] [] [])
def wD2 : D := .mk 6 ⟨#[]⟩ [] [] [] (.mk 0 ⟨#[]⟩ 0 []) wE3
theorem toks1 : toks src1 = wT1 := by kernel_rfl
theorem toks2 : toks src2 = wT2 := by kernel_rfl
theorem parse1 : progR wT1 (gram 30) 4 [] 0 = .ok [wD1, wD2] 19 := by kernel_rfl
theorem parse2 : progR wT2 (gram 30) 4 [] 0 = .fail 4 := by kernel_rfl
theorem depth1 : dProg [wD1, wD2] = 5 := by kernel_rfl
set_option maxHeartbeats 4000000 in
set_option maxRecDepth 100000 in
theorem works_any (w : World) (hl : LV w) : Calls Tryz.prog 4 #[] w (Yes w) := by
 have HL := Lib.hid hl
 have H1 : Hid (∀ s : ByteArray, s = Sc.mk src1 → ∀ w, Calls Tryz.prog 9 #[.string s] w fun e w' => Fr No w w' ∧ ∃ a c, e = .returned (.slice a wT1.length c) ∧ OwnToks w.heap.size w' a wT1) := Lib.hid (fun s hs w => by rw [← toks1]; exact tokens_any src1 s (Lib.hid hs) _ (Lib.hid rfl) (by decide) w)
 have H2 : Hid (∀ s : ByteArray, s = Sc.mk src2 → ∀ w, Calls Tryz.prog 9 #[.string s] w fun e w' => Fr No w w' ∧ ∃ a c, e = .returned (.slice a wT2.length c) ∧ OwnToks w.heap.size w' a wT2) := Lib.hid (fun s hs w => by rw [← toks2]; exact tokens_any src2 s (Lib.hid hs) _ (Lib.hid rfl) (by decide) w)
 have P1 : Hid (∀ (a : Option Addr) (c B : Nat) (u : World), LV u → OwnToks B u a wT1 → Calls Tryz.prog 6 #[.slice a wT1.length c] u (ParseR u (.ok [wD1, wD2] 19))) := Lib.hid (fun a c B u hu ho => by rw [← parse1]; exact parse_any 30 4 (fun gp hg => ⟨ho.row gp hg, hu gp hg⟩) (by decide) (by rw [parse1]; exact fun e => by cases e))
 have P2 : Hid (∀ (a : Option Addr) (c B : Nat) (u : World), LV u → OwnToks B u a wT2 → Calls Tryz.prog 6 #[.slice a wT2.length c] u (ParseR u (.fail 4))) := Lib.hid (fun a c B u hu ho => by rw [← parse2]; exact parse_any 30 4 (fun gp hg => ⟨ho.row gp hg, hu gp hg⟩) (by decide) (by rw [parse2]; exact fun e => by cases e))
 generalize wT1.length = n1 at H1 P1
 generalize wT2.length = n2 at H2 P2
 clear hl
 go_enter Tryz.func4, Tryz.ntmps4
 go_wp2_with fail
 refine (H1.out _ rfl _).mono ?_
 rintro e w1 ⟨hf, a1, c1, rfl, ho⟩
 have HF1 := Lib.hid hf
 have HO1 := Lib.hid ho
 clear hf ho
 go_wp2_with fail
 refine (P1.out a1 c1 _ w1 (HL.out.no HF1.out) HO1.out).mono ?_
 intro e w2 h
 simp only [ParseR] at h
 obtain ⟨hf, h⟩ := h
 rw [depth1, if_neg (by decide)] at h
 obtain ⟨v, rfl, hx⟩ := h
 obtain ⟨av, cv, rfl⟩ := hx_slice hx
 have hx : Hx (fun b => w1.heap.size ≤ b) w2 (.row 16 [xD wD1, xD wD2]) (.slice av 2 cv) := hx
 have HX := Lib.hid hx
 have HF2 : Hid (Fr No w w2) := Lib.hid (HF1.out.then hf)
 simp only [List.map_cons, List.map_nil, List.length_cons, List.length_nil, Nat.reduceAdd, Nat.zero_add]
 clear hf hx
 go_wp2_with fail
 refine (H2.out _ rfl _).mono ?_
 rintro e w3 ⟨hf, a2, c2, rfl, ho⟩
 have HF3 : Hid (Fr No w2 w3) := Lib.hid hf
 have HO3 := Lib.hid ho
 clear hf ho
 go_wp2_with fail
 refine (P2.out a2 c2 _ w3 (HL.out.no (HF2.out.then HF3.out)) HO3.out).mono ?_
 intro e w4 h
 simp only [ParseR] at h
 obtain ⟨rfl, hf⟩ := h
 have HF4 : Hid (Fr No w2 w4) := Lib.hid (HF3.out.then hf)
 clear hf
 go_wp2_with fail
 refine (depth_any (l := [wD1, wD2]) (HX.out.no HF4.out)).mono ?_
 rw [depth1]
 rintro e w5 ⟨rfl, hf⟩
 have HF5 : Hid (Fr No w2 w5) := Lib.hid (HF4.out.then hf)
 clear hf
 obtain ⟨g, off, cc, eav, _, hl1, hc1, hx1⟩ := hx_at HX.out (j := 0) rfl
 subst eav
 obtain ⟨_, _, _, _, _, _, ct, ce, rfl, _, _, _, hct, hce⟩ := hcD_parts hx1
 obtain ⟨k, s, n, b, m, cp, rfl⟩ := hcT hct
 obtain ⟨b1, q1, b2, q2, b3, q3, rfl, hk, _, _⟩ := hcE_parts hce
 have hk : Hx (fun b => w1.heap.size ≤ b) w2 (.row 7 [xE wE0, xE wE1]) (.slice b1 2 q1) := hk
 have HS : Hid (∀ u, Fr No w2 u → u.cell? ⟨g, off + 9, none⟩ = some (.int .u8 15) ∧ u.cell? ⟨g, off + 9 + 1, none⟩ = some (.string ⟨#[45]⟩) ∧ u.cell? ⟨g, off + 9 + 2, none⟩ = some (.int .i64 0) ∧ u.cell? ⟨g, off + 9 + 3, none⟩ = some (.string ⟨#[]⟩) ∧ u.cell? ⟨g, off + 9 + 4, none⟩ = some (.slice b1 2 q1) ∧ u.cell? ⟨g, off + 9 + 5, none⟩ = some (.slice b2 0 q2) ∧ u.cell? ⟨g, off + 9 + 6, none⟩ = some (.slice b3 0 q3)) := Lib.hid (fun u hf => ⟨hf.cell (by have h := hc1 9 _ rfl; rw [show off + 0 * 16 + 9 = off + 9 by omega] at h; exact h), hf.cell (by have h := hc1 10 _ rfl; rw [show off + 0 * 16 + 10 = off + 9 + 1 by omega] at h; exact h), hf.cell (by have h := hc1 11 _ rfl; rw [show off + 0 * 16 + 11 = off + 9 + 2 by omega] at h; exact h), hf.cell (by have h := hc1 12 _ rfl; rw [show off + 0 * 16 + 12 = off + 9 + 3 by omega] at h; exact h), hf.cell (by have h := hc1 13 _ rfl; rw [show off + 0 * 16 + 13 = off + 9 + 4 by omega] at h; exact h), hf.cell (by have h := hc1 14 _ rfl; rw [show off + 0 * 16 + 14 = off + 9 + 5 by omega] at h; exact h), hf.cell (by have h := hc1 15 _ rfl; rw [show off + 0 * 16 + 15 = off + 9 + 6 by omega] at h; exact h)⟩)
 obtain ⟨g1, off1, cc1, eb1, _, _, hk0, hx0⟩ := hx_at hk (j := 0) rfl
 subst eb1
 obtain ⟨g2, off2, cc2, eb2, _, _, hk1, hx2⟩ := hx_at hk (j := 1) rfl
 simp only [Option.some.injEq, Addr.mk.injEq, and_true] at eb2
 obtain ⟨rfl, rfl⟩ := eb2
 obtain ⟨_, _, _, _, _, _, rfl, _, _, _⟩ := hcE_parts hx0
 obtain ⟨_, _, _, _, _, _, rfl, _, _, _⟩ := hcE_parts hx2
 obtain ⟨g3, off3, cc3, eb3, _, _, hc2, hx3⟩ := hx_at HX.out (j := 1) rfl
 simp only [Option.some.injEq, Addr.mk.injEq, and_true] at eb3
 obtain ⟨rfl, rfl⟩ := eb3
 obtain ⟨_, _, _, _, _, _, ct3, ce3, rfl, _, _, _, hct3, hce3⟩ := hcD_parts hx3
 obtain ⟨k3, s3, n3, b3', m3, cp3, rfl⟩ := hcT hct3
 obtain ⟨_, _, _, _, _, _, rfl, _, _, _⟩ := hcE_parts hce3
 have HT : Hid (∀ u, Fr No w2 u → u.cell? ⟨g1, off1, none⟩ = some (.int .u8 15) ∧ u.cell? ⟨g1, off1 + 7, none⟩ = some (.int .u8 8) ∧ u.cell? ⟨g, off + 16 + 9, none⟩ = some (.int .u8 14)) := Lib.hid (fun u hf => ⟨hf.cell (by have h := hk0 0 _ rfl; rw [show off1 + 0 * 7 + 0 = off1 by omega] at h; exact h),
  hf.cell (by have h := hk1 0 _ rfl; rw [show off1 + 1 * 7 + 0 = off1 + 7 by omega] at h; exact h), hf.cell (by have h := hc2 9 _ rfl; rw [show off + 1 * 16 + 9 = off + 16 + 9 by omega] at h; exact h)⟩)
 clear hx0 hx2 hx3 hk hc1 hx1 hct hce hk0 hk1 hc2 hct3 hce3 hl1
 obtain ⟨d0, d1, d2, d3, d4, d5, d6⟩ := HS.out w5 HF5.out
 go_upto_region 6 with fail
 clear d0 d1 d2 d3 d4 d5 d6
 obtain ⟨w6, hw6⟩ : ∃ w6, w5.alloc (.cells #[.int .u8 15, .string ⟨#[45]⟩, .int .i64 0, .string ⟨#[]⟩, .slice (some ⟨g1, off1, none⟩) 2 q1, .slice b2 0 q2, .slice b3 0 q3] 44) = w6 := ⟨_, rfl⟩
 obtain ⟨g7, hg7⟩ : ∃ g7, w5.heap.size = g7 := ⟨_, rfl⟩
 have hb : w6.heap[g7]? = some (.cells #[.int .u8 15, .string ⟨#[45]⟩, .int .i64 0, .string ⟨#[]⟩, .slice (some ⟨g1, off1, none⟩) 2 q1, .slice b2 0 q2, .slice b3 0 q3] 44 (0, 0)) := by rw [← hw6, ← hg7]; exact new_block _ _
 have HF6 : Hid (Fr No w2 w6) := Lib.hid (by rw [← hw6]; exact HF5.out.then (Fr.alloc _ _))
 rw [hw6, hg7]
 clear hw6 hg7
 obtain ⟨e0, e1, e2⟩ := HT.out w6 HF6.out
 obtain ⟨x0, x1, x2, x3, x4, x5, x6⟩ : w6.cell? ⟨g7, 0, none⟩ = some (.int .u8 15) ∧ w6.cell? ⟨g7, 1, none⟩ = some (.string ⟨#[45]⟩) ∧ w6.cell? ⟨g7, 2, none⟩ = some (.int .i64 0) ∧ w6.cell? ⟨g7, 3, none⟩ = some (.string ⟨#[]⟩) ∧ w6.cell? ⟨g7, 4, none⟩ = some (.slice (some ⟨g1, off1, none⟩) 2 q1) ∧ w6.cell? ⟨g7, 5, none⟩ = some (.slice b2 0 q2) ∧ w6.cell? ⟨g7, 6, none⟩ = some (.slice b3 0 q3) := ⟨cell_of hb 0, cell_of hb 1, cell_of hb 2, cell_of hb 3, cell_of hb 4, cell_of hb 5, cell_of hb 6⟩
 clear hb
 go_wp2_with fail
 go_ret
 exact ⟨rfl, HF2.out.then HF6.out⟩
end Go.Proofs.YtjabhmepafofmaaGreatDoor
