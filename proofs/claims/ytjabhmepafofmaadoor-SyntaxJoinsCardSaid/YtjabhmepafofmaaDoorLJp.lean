/- SyntaxJoins: the plain law: programs one behind the other; where tokens stand says nothing. -/
import Derived.Test.YtjabhmepafofmaaDoorG24
set_option linter.unusedVariables false
set_option linter.unusedSimpArgs false
namespace Go.Proofs.YtjabhmepafofmaaDoor
open Go.RowKit

/-- a token as it is elsewhere -/
def at0 (p : Int) (t : Tok) : Tok := ⟨t.kind, t.text, t.num, p⟩
/-- a parser that does not ask where a token stands -/
def NP {α : Type} : Pr α → Prop
  | .ret _ => True
  | .fail => True
  | .out => True
  | .look f => ∀ t, NP (f t) ∧ ∀ p, f (at0 p t) = f t
  | .adv m => NP m
/-- so many places further on -/
def Re.up {α : Type} (k : Nat) : Re α → Re α
  | .ok a q => .ok a (k + q)
  | .fail q => .fail (k + q)
  | .out => .out
theorem run_moved {l l2 : List Tok} {k : Nat} (h : ∀ i, ∃ p, l2.getD (k + i) zTok = at0 p (l.getD i zTok)) {α : Type} : ∀ (m : Pr α) (p : Nat), NP m → m.run l2 (k + p) = (m.run l p).up k
  | .ret a, p, _ => rfl
  | .fail, p, _ => rfl
  | .out, p, _ => rfl
  | .look f, p, hn => by
    obtain ⟨x, e⟩ := h p
    have e1 : (Pr.look f).run l2 (k + p) = (f (l2.getD (k + p) zTok)).run l2 (k + p) := rfl
    have hn : NP (f (l.getD p zTok)) ∧ ∀ x, f (at0 x (l.getD p zTok)) = f (l.getD p zTok) := hn _
    rw [e1, e, hn.2 x]
    exact run_moved h (f (l.getD p zTok)) p hn.1
  | .adv m, p, hn => run_moved h m (p + 1) hn
section
variable {α β : Type}
theorem np_bind : ∀ (m : Pr α) {k : α → Pr β}, NP m → (∀ a, NP (k a)) → NP (m.bind k)
  | .ret a, k, _, h => h a
  | .fail, k, _, _ => trivial
  | .out, k, _, _ => trivial
  | .look f, k, hm, h => fun t => by
    have hm : NP (f t) ∧ ∀ p, f (at0 p t) = f t := hm t
    exact ⟨np_bind (f t) hm.1 h, fun p => by show (f (at0 p t)).bind k = _; rw [hm.2 p]⟩
  | .adv m, k, hm, h => np_bind m hm h
theorem np_next {k : Tok → Pr β} (h : ∀ t, NP (k t)) (hp : ∀ p t, k (at0 p t) = k t) : NP (next.bind k) := fun t => ⟨h t, fun p => hp p t⟩
theorem np_skip (x : List ByteArray) : NP (skip x) := fun t => ⟨by dsimp only; split <;> trivial, fun _ => rfl⟩
theorem np_must (x : ByteArray) : NP (must x) := fun t => ⟨by dsimp only; split <;> trivial, fun _ => rfl⟩
theorem np_take (x : Nat) : NP (take x) := fun t => ⟨by dsimp only; split <;> trivial, fun _ => rfl⟩
theorem np_more {s : ByteArray} {one : Pr α} (h : NP one) : ∀ (n : Nat) (l : List α), NP (more s one n l)
  | 0, l => trivial
  | n + 1, l => np_bind _ (np_skip _) fun b => by
    split
    · exact np_bind _ h fun x => np_more h n _
    · trivial
theorem np_some (n : Nat) (s : ByteArray) {one : Pr α} (h : NP one) : NP (some_ n s one) := np_bind _ h fun x => np_more h n _
end
structure NPG (g : Gr) : Prop where
  ty : NP g.ty
  row : NP g.row
  post : NP g.post
  tyAtom : NP g.tyAtom
  exp : NP g.exp
  rule : NP g.rule
  level : ∀ lv, NP (g.level lv)
  calls : NP g.calls
  prefix_ : NP g.prefix_
  atom : NP g.atom
  round : NP g.round
  let_ : NP g.let_
  pat : NP g.pat
  patAtom : NP g.patAtom
  patRound : NP g.patRound
  dec : ∀ b, NP (g.dec b)
  con : NP g.con
  fun_ : NP g.fun_
  vars : NP g.vars
theorem np_adv {α : Type} {m : Pr α} (h : NP m) : NP (.adv m) := h
theorem np_ret {α : Type} (a : α) : NP (.ret a) := trivial
theorem np_fail {α : Type} : NP (.fail : Pr α) := trivial
theorem np_out {α : Type} : NP (.out : Pr α) := trivial
section
variable {n : Nat} {g : Gr} (G : NPG g)
include G
omit G in
theorem np_names : ∀ (n : Nat) (t : T), NP (Gr.names n t)
  | 0, t => trivial
  | n + 1, t => np_next (fun k => by split; · exact np_bind _ (np_take _) fun s => np_names n _
                                     · trivial) fun _ _ => rfl
theorem np_opsL (lv : Nat) : ∀ (n : Nat) (e : E), NP (g.opsL lv n e)
  | 0, e => trivial
  | n + 1, e => np_next (fun k => by
      split
      · refine np_adv (np_bind _ (G.level _) fun e2 => ?_)
        split
        · exact np_opsL lv n _
        · trivial
      · trivial) fun _ _ => rfl
theorem np_callsL : ∀ (n : Nat) (e : E), NP (g.callsL n e)
  | 0, e => trivial
  | n + 1, e => np_next (fun k => by
      split
      · exact np_bind _ G.prefix_ fun e2 => np_callsL n _
      · trivial) fun _ _ => rfl
theorem np_decsL : ∀ (n : Nat) (e : List D), NP (g.decsL n e)
  | 0, e => trivial
  | n + 1, e => np_bind _ (G.dec _) fun d => np_bind _ (np_must _) fun _ => np_bind _ (np_skip _) fun b => by
      split
      · trivial
      · exact np_decsL n _
omit G in
theorem np_argsL : ∀ (n : Nat) (e : List ByteArray), NP (Gr.argsL n e)
  | 0, e => trivial
  | n + 1, e => np_next (fun k => by
      split
      · exact np_bind _ (np_take _) fun e2 => np_argsL n _
      · trivial) fun _ _ => rfl
set_option maxHeartbeats 1000000 in
theorem np_step : NPG (g.step n) := by
  constructor
  case level => intro lv; show NP (g.pLevel n lv); unfold Gr.pLevel; split; exact G.calls; exact np_bind _ (G.level _) fun e => np_opsL G _ _ _
  case dec =>
    intro b
    show NP (g.pDec n b)
    unfold Gr.pDec
    repeat' (first
      | with_reducible exact np_ret _
      | with_reducible exact np_fail
      | with_reducible exact np_skip _
      | with_reducible exact np_must _
      | with_reducible exact np_take _
      | with_reducible exact G.exp
      | with_reducible exact G.ty
      | with_reducible exact G.con
      | with_reducible exact G.vars
      | with_reducible exact np_some _ _ G.fun_
      | with_reducible exact np_some _ _ G.con
      | with_reducible refine np_bind _ ?_ fun _ => ?_
      | (show (_ : Pr _) = _; rfl)
      | split)
  all_goals
    simp only [Gr.step, Gr.pTy, Gr.pRow, Gr.pPost, Gr.pTyAtom, Gr.pExp, Gr.pRule, Gr.pCalls, Gr.pPrefix, Gr.pAtom, Gr.pRound, Gr.pLet, Gr.pPat, Gr.pPatAtom, Gr.pPatRound, Gr.pCon, Gr.pFun, Gr.pVars]
    repeat' (first
      | with_reducible exact np_ret _
      | with_reducible exact np_fail
      | with_reducible exact np_skip _
      | with_reducible exact np_must _
      | with_reducible exact np_take _
      | with_reducible exact G.exp
      | with_reducible exact G.ty
      | with_reducible exact G.row
      | with_reducible exact G.post
      | with_reducible exact G.tyAtom
      | with_reducible exact G.rule
      | with_reducible exact G.level _
      | with_reducible exact G.calls
      | with_reducible exact G.prefix_
      | with_reducible exact G.atom
      | with_reducible exact G.round
      | with_reducible exact G.let_
      | with_reducible exact G.pat
      | with_reducible exact G.patAtom
      | with_reducible exact G.patRound
      | with_reducible exact G.con
      | with_reducible exact G.fun_
      | with_reducible exact G.vars
      | with_reducible exact np_names _ _
      | with_reducible exact np_opsL G _ _ _
      | with_reducible exact np_callsL G _ _
      | with_reducible exact np_decsL G _ _
      | with_reducible exact np_argsL _ _
      | with_reducible refine np_some _ _ ?_
      | with_reducible refine np_next (fun _ => ?_) (fun _ _ => ?_)
      | with_reducible refine np_adv ?_
      | with_reducible refine np_bind _ ?_ fun _ => ?_
      | (show (_ : Pr _) = _; rfl)
      | split)
end
theorem np_gram : ∀ n, NPG (gram n)
  | 0 => by constructor <;> first | exact trivial | exact fun _ => trivial
  | n + 1 => np_step (np_gram n)
end Go.Proofs.YtjabhmepafofmaaDoor
