/- Sp, Xa, Xb -/
import Derived.Test.YtjabhmepafofmaaGreatDoorG07
import Derived.Test.YtjabhmepafofmaaGreatDoorG05
import Derived.Test.YtjabhmepafofmaaGreatDoorG35
set_option linter.unusedVariables false
set_option linter.unusedSimpArgs false
namespace Go.Proofs.YtjabhmepafofmaaGreatDoor
open Go.RowKit
def dataK (n : Nat) (g : Gr) (v : List ByteArray) : Pr D := (take 1).bind fun s => (must ⟨#[61]⟩).bind fun _ => (some_ n ⟨#[124]⟩ g.con).bind fun l => .ret (.mk 1 s v l [] zT zE)
def varsK (n : Nat) (g : Gr) (v : List ByteArray) : Pr D := (must ⟨#[41]⟩).bind fun _ => dataK n g v
def dataP (n m : Nat) (g : Gr) : Pr D := (Gr.pVars m).bind (dataK n g)
theorem data_eq (n m : Nat) (g : Gr) : dataP n m g = (skip [⟨#[40]⟩]).bind fun b => if b = true then (take 3).bind fun x => (more ⟨#[44]⟩ (take 3) m [x]).bind (varsK n g) else next.bind fun k => if k.kind = 3 then (take 3).bind fun s => dataK n g [s] else dataK n g [] := by
 unfold dataP Gr.pVars
 rw [bind_assoc']
 congr 1
 funext b
 cases b with
 | false =>
  show (next.bind _).bind _ = next.bind _
  rw [bind_assoc']
  congr 1
  funext k
  by_cases h : k.kind = 3
  ·
   rw [if_pos h, if_pos h, bind_assoc']
   rfl
  ·
   rw [if_neg h, if_neg h]
   rfl
 | true =>
  show ((some_ m _ _).bind _).bind _ = (take 3).bind _
  rw [bind_assoc', some_, bind_assoc']
  congr 1
  funext x
  congr 1
  funext v
  rw [bind_assoc']
  rfl
def dataR (v : List ByteArray) (s : ByteArray) (l : List C) : Pr D := .ret (.mk 1 s v l [] zT zE)
theorem dataK_eq (n : Nat) (g : Gr) (v : List ByteArray) : dataK n g v = (take 1).bind fun s => (must ⟨#[61]⟩).bind fun _ => (some_ n ⟨#[124]⟩ g.con).bind (dataR v s) := rfl
def decF (l : List F) : Pr D := .ret (.mk 4 nob [] [] l zT zE)
def decV (g : Gr) : Pr D := (take 1).bind fun s => (must ⟨#[61]⟩).bind fun _ => g.exp.bind fun e => .ret (.mk 3 s [] [] [] zT e)
def decO (g : Gr) : Pr D := g.exp.bind fun e => .ret (.mk 6 nob [] [] [] zT e)
def decX (g : Gr) : Pr D := g.con.bind fun c => .ret (.mk 2 nob [] [c] [] zT zE)
def decR (g : Gr) : Pr D := (take 1).bind fun s => (must ⟨#[58]⟩).bind fun _ => g.ty.bind fun t => (must ⟨#[61]⟩).bind fun _ => g.exp.bind fun e => .ret (.mk 5 s [] [] [] t e)
def decW (g : Gr) (n : Nat) : Pr D := (skip [⟨#[100, 97, 116, 97, 116, 121, 112, 101]⟩]).bind fun b => if b = true then g.vars.bind (dataK n g) else (skip [⟨#[101, 120, 99, 101, 112, 116, 105, 111, 110]⟩]).bind fun b => if b = true then decX g else (skip [⟨#[114, 111, 111, 116]⟩]).bind fun b => if b = true then decR g else .fail
theorem pDec_eq (g : Gr) (n : Nat) (whole : Bool) : g.pDec n whole = (skip [⟨#[118, 97, 108]⟩]).bind fun b => if b = true then decV g else (skip [⟨#[102, 117, 110]⟩]).bind fun b => if b = true then (some_ n ⟨#[97, 110, 100]⟩ g.fun_).bind decF else (skip [⟨#[100, 111]⟩]).bind fun b => if b = true then decO g else if whole = false then .fail else decW g n := rfl
end Go.Proofs.YtjabhmepafofmaaGreatDoor
namespace Go.Proofs.YtjabhmepafofmaaGreatDoor
open Go.RowKit
/-- what lies in memory: a block; a struct's cells; a value; a row of one's own -/
inductive It where
  | blk (g : Nat) (c : List Value) (t : TypeId)
  | val (x : List X) (c : List Value)
  | row (x : X) (v : Value)
  | out (e k : Nat) (v : Value) (m : Nat) (l : List (List X))
  | mix (g1 g2 : Nat) (x : List X) (c : List Value)
/-- each lies above the next one; 'mix' anywhere but in two blocks -/
def Its (w : World) (lo : Nat) : Nat → List It → Prop
  | hi, [] => lo ≤ hi
  | hi, .blk g c t :: L => g < hi ∧ w.heap[g]? = some (.cells c.toArray t (0, 0)) ∧ Its w lo g L
  | hi, .val x c :: L => ∃ b, b ≤ hi ∧ Hc (fun k => b ≤ k ∧ k < hi) w x c ∧ Its w lo b L
  | hi, .row x v :: L => ∃ b, b ≤ hi ∧ Hx (fun k => b ≤ k ∧ k < hi) w x v ∧ Its w lo b L
  | hi, .out e k v m l :: L => ∃ b, b ≤ hi ∧ OutG RX e k (fun j => b ≤ j ∧ j < hi) b w v m l ∧ (∀ j, v.ownBlock = some j → j < hi) ∧ Its w lo b L
  | hi, .mix g1 g2 x c :: L => Hc (fun k => lo ≤ k ∧ k < hi ∧ k ≠ g1 ∧ k ≠ g2) w x c ∧ Its w lo hi L
def nth : List It → Nat → It
  | [], _ => .val [] []
  | x :: _, 0 => x
  | _ :: r, n + 1 => nth r n
theorem OutG.wide {e k n B : Nat} {ok ok' : Nat → Prop} {w : World} {v : Value} {l : List (List X)} (h : OutG RX e k ok B w v n l) (ho : ∀ b, b < w.heap.size → ok b → ok' b) : OutG RX e k ok' B w v n l := by
  obtain ⟨h1, cs, h2, h3, hown, h4⟩ := h
  exact ⟨h1, cs, h2, h3, hown, fun j t c hj hc => keptX.keep (fun b hb hk => ⟨rfl, ho b hb hk.1, hk.2⟩) t c (h4 j t c hj hc)⟩
section
variable {w w' : World} {lo : Nat}
theorem Its.le : ∀ {L : List It} {hi : Nat}, Its w lo hi L → lo ≤ hi
  | [], _, h => h
  | .blk _ _ _ :: _, _, h => by
    have := Its.le h.2.2
    have := h.1
    omega
  | .val _ _ :: _, _, ⟨_, h1, _, h⟩ => Nat.le_trans (Its.le h) h1
  | .row _ _ :: _, _, ⟨_, h1, _, h⟩ => Nat.le_trans (Its.le h) h1
  | .out _ _ _ _ _ :: _, _, ⟨_, h1, _, _, h⟩ => Nat.le_trans (Its.le h) h1
  | .mix _ _ _ _ :: _, _, ⟨_, h⟩ => Its.le h
theorem Its.up : ∀ {L : List It} {hi hi' : Nat}, hi ≤ hi' → Its w lo hi L → Its w lo hi' L
  | [], _, _, e, h => Nat.le_trans h e
  | .blk _ _ _ :: _, _, _, e, h => ⟨Nat.lt_of_lt_of_le h.1 e, h.2⟩
  | .val _ _ :: _, _, _, e, ⟨b, h1, h2, h⟩ => ⟨b, Nat.le_trans h1 e, h2.mono (fun k _ hk => ⟨hk.1, Nat.lt_of_lt_of_le hk.2 e⟩), h⟩
  | .row _ _ :: _, _, _, e, ⟨b, h1, h2, h⟩ => ⟨b, Nat.le_trans h1 e, Hx.keep (fun k _ hk => ⟨rfl, hk.1, Nat.lt_of_lt_of_le hk.2 e⟩) _ _ h2, h⟩
  | .out _ _ _ _ _ :: _, _, _, e, ⟨b, h1, h2, h3, h⟩ => ⟨b, Nat.le_trans h1 e, h2.wide (fun k _ hk => ⟨hk.1, Nat.lt_of_lt_of_le hk.2 e⟩), fun j hj => Nat.lt_of_lt_of_le (h3 j hj) e, h⟩
  | .mix _ _ _ _ :: _, _, _, e, ⟨h1, h⟩ => ⟨h1.mono (fun k _ hk => ⟨hk.1, Nat.lt_of_lt_of_le hk.2.1 e, hk.2.2⟩), Its.up e h⟩
theorem Its.fr {S : Nat → Prop} (hf : Fr S w w') : ∀ {L : List It} {hi : Nat}, (∀ k, lo ≤ k → k < hi → ¬ S k) → Its w lo hi L → Its w' lo hi L
  | [], _, _, h => h
  | .blk g _ _ :: _, _, hS, ⟨h1, h2, h⟩ => ⟨h1, hf.keeps h2 (hS g (Its.le h) h1), Its.fr hf (fun k ha hb => hS k ha (by omega)) h⟩
  | .val _ _ :: _, _, hS, ⟨b, h1, h2, h⟩ => ⟨b, h1, h2.fr hf (fun k hk => hS k (Nat.le_trans (Its.le h) hk.1) hk.2), Its.fr hf (fun k ha hb => hS k ha (by omega)) h⟩
  | .row _ _ :: _, _, hS, ⟨b, h1, h2, h⟩ => ⟨b, h1, Hx.keep (fun k hk ho => ⟨hf.block k hk (hS k (Nat.le_trans (Its.le h) ho.1) ho.2), ho⟩) _ _ h2, Its.fr hf (fun k ha hb => hS k ha (by omega)) h⟩
  | .out _ _ _ _ _ :: _, _, hS, ⟨b, h1, h2, h3, h⟩ => ⟨b, h1, h2.keep keptX hf (fun k hk => hS k (Nat.le_trans (Its.le h) hk.1) hk.2) (fun k hk => hS k (Nat.le_trans (Its.le h) (h2.block hk).1) (h3 k hk)), h3, Its.fr hf (fun k ha hb => hS k ha (by omega)) h⟩
  | .mix _ _ _ _ :: _, _, hS, ⟨h1, h⟩ => ⟨h1.fr hf (fun k hk => hS k hk.1 hk.2.1), Its.fr hf hS h⟩
theorem Its.sub : ∀ {L : List It} {hi : Nat} {x : It}, Its w lo hi (x :: L) → ∃ b, b ≤ hi ∧ Its w lo b L
  | _, _, .blk _ _ _, h => ⟨_, Nat.le_of_lt h.1, h.2.2⟩
  | _, _, .val _ _, ⟨b, h1, _, h⟩ => ⟨b, h1, h⟩
  | _, _, .row _ _, ⟨b, h1, _, h⟩ => ⟨b, h1, h⟩
  | _, _, .out _ _ _ _ _, ⟨b, h1, _, _, h⟩ => ⟨b, h1, h⟩
  | _, _, .mix _ _ _ _, ⟨_, h⟩ => ⟨_, Nat.le_refl _, h⟩
theorem Its.blk {g : Nat} {c : List Value} {t : TypeId} : ∀ {L : List It} {hi : Nat} (n : Nat), Its w lo hi L → nth L n = .blk g c t → lo ≤ g ∧ g < hi ∧ w.heap[g]? = some (.cells c.toArray t (0, 0))
  | [], _, _, _, e => by cases e
  | .blk _ _ _ :: _, _, 0, h, e => by
    cases e
    exact ⟨Its.le h.2.2, h.1, h.2.1⟩
  | .val _ _ :: _, _, 0, _, e => by cases e
  | .row _ _ :: _, _, 0, _, e => by cases e
  | .out _ _ _ _ _ :: _, _, 0, _, e => by cases e
  | .mix _ _ _ _ :: _, _, 0, _, e => by cases e
  | x :: L, _, n + 1, h, e => by
    obtain ⟨b, hb, h⟩ := Its.sub h
    have := Its.blk n h e
    exact ⟨this.1, by omega, this.2.2⟩
theorem Its.val {x : List X} {c : List Value} : ∀ {L : List It} {hi : Nat} (n : Nat), Its w lo hi L → nth L n = .val x c → Hc (fun k => lo ≤ k ∧ k < hi) w x c
  | [], _, _, _, e => by
    cases e
    simp only [Hc]
  | .val _ _ :: _, _, 0, ⟨b, hb, h2, h⟩, e => by
    cases e
    exact h2.mono (fun k _ hk => ⟨Nat.le_trans (Its.le h) hk.1, hk.2⟩)
  | .blk _ _ _ :: _, _, 0, _, e => by cases e
  | .row _ _ :: _, _, 0, _, e => by cases e
  | .out _ _ _ _ _ :: _, _, 0, _, e => by cases e
  | .mix _ _ _ _ :: _, _, 0, _, e => by cases e
  | y :: L, _, n + 1, h, e => by
    obtain ⟨b, hb, h⟩ := Its.sub h
    exact (Its.val n h e).mono (fun k _ hk => ⟨hk.1, by have := hk.2; omega⟩)
theorem Its.row {x : X} {v : Value} : ∀ {L : List It} {hi : Nat} (n : Nat), Its w lo hi L → nth L n = .row x v → Hx (fun k => lo ≤ k ∧ k < hi) w x v
  | [], _, _, _, e => by cases e
  | .row _ _ :: _, _, 0, ⟨b, hb, h2, h⟩, e => by
    cases e
    exact Hx.keep (fun k _ hk => ⟨rfl, Nat.le_trans (Its.le h) hk.1, hk.2⟩) _ _ h2
  | .blk _ _ _ :: _, _, 0, _, e => by cases e
  | .val _ _ :: _, _, 0, _, e => by cases e
  | .out _ _ _ _ _ :: _, _, 0, _, e => by cases e
  | .mix _ _ _ _ :: _, _, 0, _, e => by cases e
  | y :: L, _, n + 1, h, e => by
    obtain ⟨b, hb, h⟩ := Its.sub h
    exact Hx.keep (fun k _ hk => ⟨rfl, hk.1, by have := hk.2; omega⟩) _ _ (Its.row n h e)
def upd : List It → Nat → It → List It
  | [], _, _ => []
  | _ :: r, 0, y => y :: r
  | x :: r, n + 1, y => x :: upd r n y
/-- a block may be written under what is above it -/
def free (g : Nat) : List It → Nat → Prop
  | [], _ => True
  | _ :: _, 0 => True
  | .mix g1 g2 _ _ :: L, n + 1 => (g = g1 ∨ g = g2) ∧ free g L n
  | _ :: L, n + 1 => free g L n
theorem Its.put {g : Nat} {c c' : List Value} {t : TypeId} (hf : Fr (Just g) w w') (hb : w'.heap[g]? = some (.cells c'.toArray t (0, 0))) : ∀ {L : List It} {hi : Nat} (n : Nat), Its w lo hi L → nth L n = .blk g c t → free g L n → Its w' lo hi (upd L n (.blk g c' t))
  | [], _, _, _, e, _ => by cases e
  | .blk _ _ _ :: _, _, 0, ⟨h1, h2, h⟩, e, _ => by
    cases e
    exact ⟨h1, hb, Its.fr hf (fun k _ hk (e : k = g) => by omega) h⟩
  | .val _ _ :: _, _, 0, _, e, _ => by cases e
  | .row _ _ :: _, _, 0, _, e, _ => by cases e
  | .out _ _ _ _ _ :: _, _, 0, _, e, _ => by cases e
  | .mix _ _ _ _ :: _, _, 0, _, e, _ => by cases e
  | .blk g2 _ _ :: _, _, n + 1, ⟨h1, h2, h⟩, e, hk => by
    have h3 := (Its.blk n h e).2.1
    exact ⟨h1, hf.keeps h2 (fun (x : g2 = g) => by omega), Its.put hf hb n h e hk⟩
  | .val _ _ :: _, _, n + 1, ⟨b, h1, h2, h⟩, e, hk => by
    have h3 := (Its.blk n h e).2.1
    exact ⟨b, h1, h2.fr hf (fun k hl (x : k = g) => by omega), Its.put hf hb n h e hk⟩
  | .row _ _ :: _, _, n + 1, ⟨b, h1, h2, h⟩, e, hk => by
    have h3 := (Its.blk n h e).2.1
    exact ⟨b, h1, Hx.keep (fun k hl ho => ⟨hf.block k hl (fun (x : k = g) => by omega), ho⟩) _ _ h2, Its.put hf hb n h e hk⟩
  | .out _ _ _ _ _ :: _, _, n + 1, ⟨b, h1, h2, h3, h⟩, e, hk => by
    have h4 := (Its.blk n h e).2.1
    exact ⟨b, h1, h2.keep keptX hf (fun k hl (x : k = g) => by omega) (fun k hl (x : k = g) => by have := (h2.block hl).1; omega), h3, Its.put hf hb n h e hk⟩
  | .mix _ _ _ _ :: _, _, n + 1, ⟨h1, h⟩, e, hk => ⟨h1.fr hf (fun k hl (x : k = g) => by
    have := hk.1
    have := hl.2.2
    omega), Its.put hf hb n h e hk.2⟩
end
/-- what a reader's function is walked against: its block, the tokens, and which ranks may be called where a token was in the way -/
structure Vw where
  gp : Nat
  a : Option Addr
  c : Nat
  l : List Tok
  φ : Nat → Prop
/-- how the function was entered -/
structure Ev (β : Type) where
  w : World
  m : Pr β
  p : Nat
  b : Bool
  r : Nat
def Al (φ : Nat → Prop) (b : Bool) (r : Nat) : Prop := (b = true → φ r) ∧ (b = false → ∀ r, φ r)
def dn (φ : Nat → Prop) (r : Nat) : Prop := ∀ i, i < r → φ i
def Vw.dn (v : Vw) : Vw := ⟨v.gp, v.a, v.c, v.l, Go.Proofs.YtjabhmepafofmaaGreatDoor.dn v.φ⟩
abbrev Vw.at_ (v : Vw) (w : World) (q : Nat) (b : Bool) : Prop := RPar w v.gp v.a v.c v.l q b
abbrev Vw.ptr (v : Vw) : Value := .pointer (some ⟨v.gp, 0, none⟩)
def QP {β : Type} (v : Vw) (e : Ev β) (Rep : Nat → World → β → Ending → Prop) (d : Ending) (w' : World) : Prop :=
  ∃ t q b', Step v.l e.m e.p e.b t q b' ∧ Rep e.w.heap.size w' t d ∧ Fr (Just v.gp) e.w w' ∧ v.at_ w' q b'
/-- the contract of a reader's function of a rank -/
def QC {β : Type} (v : Vw) (r : Nat) (f : FuncId) (args : List Value) (Rep : Nat → World → β → Ending → Prop) (m : Pr β) : Prop :=
  ∀ (w : World) (p : Nat) (b : Bool), v.at_ w p b → Al v.φ b r → runS v.l m p b ≠ .out → Calls Tryz.prog f (v.ptr :: args).toArray w (QP v ⟨w, m, p, b, r⟩ Rep)
/-- a walk: the block gp and blocks of its own are written; T: what is known of gp's block; L: what lies in memory -/
structure Gx (gp : Nat) (w0 : World) (S0 : World → Prop) (w : World) (L : List It) : Prop where
  st : S0 w
  fr : Fr (Just gp) w0 w
  its : Its w w0.heap.size w.heap.size L
  gpl : gp < w0.heap.size
  keep : ∀ u u' : World, u'.heap[gp]? = u.heap[gp]? → S0 u → S0 u'
structure Tr {β : Type} (v : Vw) (e : Ev β) (q : Nat) (b : Bool) (m : Pr β) (w : World) : Prop where
  base : v.at_ e.w e.p e.b
  blk : w.heap[v.gp]? = some (.cells #[.slice v.a v.l.length v.c, .int .i64 (q : Nat), .bool b] 57 (0, 0))
  le : q ≤ v.l.length
  run : runS v.l m q b = runS v.l e.m e.p e.b
  ne : runS v.l e.m e.p e.b ≠ .out
  bad : e.b = true → b = true
  al : Al (dn v.φ) e.b e.r
abbrev Cx {β : Type} (v : Vw) (e : Ev β) (w : World) (q : Nat) (b : Bool) (L : List It) (m : Pr β) : Prop := Gx v.gp e.w (Tr v e q b m) w L
section
variable {gp : Nat} {w0 w w' : World} {S0 : World → Prop} {L : List It}
theorem Gx.same {S : Nat → Prop} (h : Gx gp w0 S0 w L) (hf : Fr S w w') (hn : ¬ S gp) : S0 w' := h.keep w w' (hf.block gp (Nat.lt_of_lt_of_le h.gpl h.fr.size) hn) h.st
theorem Gx.no (h : Gx gp w0 S0 w L) (hf : Fr No w w') : Gx gp w0 S0 w' L := ⟨h.same hf no_one, h.fr.then hf, (h.its.fr hf (fun _ _ _ => no_one)).up hf.size, h.gpl, h.keep⟩
theorem Gx.top (h : Gx gp w0 S0 w L) {L' : List It} (hi : Its w w0.heap.size w.heap.size L') : Gx gp w0 S0 w L' := ⟨h.st, h.fr, hi, h.gpl, h.keep⟩
theorem no' (h : Hid (Gx gp w0 S0 w L)) (hf : Fr No w w') : Hid (Gx gp w0 S0 w' L) := Lib.hid (h.out.no hf)
end
theorem step_bad {α : Type} {l : List Tok} {m : Pr α} {p q : Nat} {b b' : Bool} {t : α} (hs : Step l m p b t q b') : b = true → b' = true := by
  rintro rfl
  cases b' with
  | true => rfl
  | false => cases hs
section
variable {α β : Type} {v : Vw} {e : Ev β} {w w' w1 w2 : World} {q q' g g2 : Nat} {b b' : Bool} {L : List It} {m A B : Pr β} {Post : Ending → World → Prop} {Rep : Nat → World → β → Ending → Prop}
theorem qc {r : Nat} {f : FuncId} {args : List Value} (h : ∀ e : Ev β, e.r = r → Hid (Cx v e e.w e.p e.b [] m) → Calls Tryz.prog f (v.ptr :: args).toArray e.w (QP v e Rep)) : QC v.dn r f args Rep m := fun w p b hp hal ho =>
  h ⟨w, m, p, b, r⟩ rfl (Lib.hid ⟨⟨hp, hp.blk, hp.le, rfl, ho, id, hal⟩, Fr.refl _ _, Nat.le_refl _, lt_of_block hp.blk, fun u u' hu h => ⟨h.base, hu.trans h.blk, h.le, h.run, h.ne, h.bad, h.al⟩⟩)
theorem Gx.par (h : Cx v e w q b L m) : v.at_ w q b := h.st.base.of h.fr h.st.blk h.st.le
theorem Gx.le (h : Cx v e w q b L m) : q ≤ v.l.length := h.st.le
theorem Gx.blk (h : Cx v e w q b L m) : w.heap[v.gp]? = some (.cells #[.slice v.a v.l.length v.c, .int .i64 (q : Nat), .bool b] 57 (0, 0)) := h.st.blk
theorem Gx.ne (h : Cx v e w q b L m) : runS v.l m q b ≠ .out := by
  rw [h.st.run]
  exact h.st.ne
theorem Gx.set (h : Cx v e w q b L m) {m' : Pr β} (hf : Fr (Just v.gp) w w') (hp : v.at_ w' q' b') (hr : runS v.l m' q' b' = runS v.l m q b) (hb : b = true → b' = true) : Cx v e w' q' b' L m' :=
  ⟨⟨h.st.base, hp.blk, hp.le, hr.trans h.st.run, h.st.ne, fun x => hb (h.st.bad x), h.st.al⟩, h.fr.trans hf (fun _ _ h => h), (h.its.fr hf (fun k hk _ (x : k = v.gp) => by have := h.gpl; omega)).up hf.size, h.gpl, fun u u' hu h => ⟨h.base, hu.trans h.blk, h.le, h.run, h.ne, h.bad, h.al⟩⟩
theorem Gx.go {m1 : Pr α} {K : α → Pr β} {t : α} (h : Cx v e w q b L (m1.bind K)) (hf : Fr (Just v.gp) w w') (hp : v.at_ w' q' b') (hs : Step v.l m1 q b t q' b') : Cx v e w' q' b' L (K t) := h.set hf hp (stepV rfl hs) (step_bad hs)
theorem sign' (h : Hid (Cx v e w q b L m)) {s : ByteArray} (k : ∀ w', Hid (Cx v e w' q b L m) → Post (.returned (.bool (signB (rtok v.l q b) s))) w') : Calls Tryz.prog 16 #[.pointer (some ⟨v.gp, 0, none⟩), .string s] w Post := by
  refine (signr h.out.par s).mono ?_
  rintro _ w' ⟨rfl, hf⟩
  exact k w' (no' h hf)
theorem word' (h : Hid (Cx v e w q b L m)) {s : ByteArray} (k : ∀ w', Hid (Cx v e w' q b L m) → Post (.returned (.bool (wordB (rtok v.l q b) s))) w') : Calls Tryz.prog 32 #[.pointer (some ⟨v.gp, 0, none⟩), .string s] w Post := by
  refine (wordr h.out.par s).mono ?_
  rintro _ w' ⟨rfl, hf⟩
  exact k w' (no' h hf)
theorem may' {S : List ByteArray} {is : Bool} (h : Hid (Cx v e w q b L ((skip S).bind fun x => if x = true then A else B))) (hc : b = false → is = seesB (v.l.getD q zTok) S) (k1 : ∀ w', q < v.l.length → Hid (Cx v e w' (q + 1) false L A) → Post (.returned (.bool true)) w')
    (k2 : ∀ w', Hid (Cx v e w' q b L B) → Post (.returned (.bool false)) w') : Calls Tryz.prog 31 #[.pointer (some ⟨v.gp, 0, none⟩), .bool is] w Post := by
  refine (mayC h.out.par S is hc).mono ?_
  rintro _ w' ⟨t, q', rfl, hst, hf, hp, h1, h2⟩
  cases t with
  | true =>
    obtain ⟨rfl, rfl, hlt, -⟩ := h1 rfl
    exact k1 w' hlt (Lib.hid (h.out.go hf hp hst))
  | false =>
    obtain rfl := h2 rfl
    exact k2 w' (Lib.hid (h.out.go hf hp hst))
theorem must' {s : ByteArray} {is : Bool} {K : Unit → Pr β} (h : Hid (Cx v e w q b L ((must s).bind K))) (hc : b = false → is = seesB (v.l.getD q zTok) [s]) (k : ∀ w' q' b', q ≤ q' → Hid (b' = false → q' = q + 1) → Hid (Cx v e w' q' b' L (K ())) → Post (.returned (.tuple #[])) w') : Calls Tryz.prog 15 #[.pointer (some ⟨v.gp, 0, none⟩), .bool is] w Post := by
  refine (mustC h.out.par s is hc).mono ?_
  rintro _ w' ⟨q', b', rfl, hst, hf, hp, h1⟩
  exact k w' q' b' (step_mono hst) (Lib.hid h1) (Lib.hid (h.out.go hf hp hst))
theorem take' {n : Nat} {K : ByteArray → Pr β} (h : Hid (Cx v e w q b L ((take n).bind K))) (h0 : n ≠ 0) (k : ∀ w' q' b' kt st mt qt, q ≤ q' → Hid (b' = false → b = false ∧ (⟨kt, st, mt, qt⟩ : Tok) = v.l.getD q zTok ∧ q' = q + 1) → Hid (Cx v e w' q' b' L (K st)) → Post (.returned (.agg #[.int .u8 kt, .string st, .int .i64 mt, .int .i64 qt])) w') :
    Calls Tryz.prog 33 #[.pointer (some ⟨v.gp, 0, none⟩), .int .u8 n] w Post := by
  refine (takeC h.out.par n h0).mono ?_
  rintro _ w' ⟨⟨kt, st, mt, qt⟩, q', b', rfl, hst, hf, hp, h1⟩
  exact k w' q' b' kt st mt qt (step_mono hst) (Lib.hid fun x => ⟨(h1 x).1, (h1 x).2.1, (h1 x).2.2.1⟩) (Lib.hid (h.out.go hf hp hst))
/-- the next token, its parts by name -/
theorem next' {K : Tok → Pr β} (h : Hid (Cx v e w q b L (next.bind K))) (k : ∀ w' kt st mt qt, Hid (rtok v.l q b = ⟨kt, st, mt, qt⟩) → Hid (Cx v e w' q b L (K ⟨kt, st, mt, qt⟩)) → Post (.returned (.agg #[.int .u8 kt, .string st, .int .i64 mt, .int .i64 qt])) w') : Calls Tryz.prog 39 #[.pointer (some ⟨v.gp, 0, none⟩)] w Post := by
  refine (nextr h.out.par).mono ?_
  rintro _ w' ⟨rfl, hf⟩
  obtain ⟨⟨kt, st, mt, qt⟩, ht⟩ : ∃ t, rtok v.l q b = t := ⟨_, rfl⟩
  rw [ht]
  refine k w' kt st mt qt (Lib.hid ht) (Lib.hid ?_)
  have h2 := (h.out.no hf).go (Fr.refl _ _) (h.out.no hf).par step_next
  rw [ht] at h2
  exact h2
/-- a token that is known already -/
theorem seen' {kt : Nat} {st : ByteArray} {mt qt : Int} (h : Hid (Cx v e w q b L m)) (ht : Hid (rtok v.l q b = ⟨kt, st, mt, qt⟩)) (k : ∀ w', Hid (Cx v e w' q b L m) → Post (.returned (.agg #[.int .u8 kt, .string st, .int .i64 mt, .int .i64 qt])) w') : Calls Tryz.prog 39 #[.pointer (some ⟨v.gp, 0, none⟩)] w Post := by
  refine (nextr h.out.par).mono ?_
  rintro _ w' ⟨rfl, hf⟩
  rw [ht.out]
  exact k w' (no' h hf)
theorem takek' {n kt : Nat} {st : ByteArray} {mt qt : Int} {K : ByteArray → Pr β} (h : Hid (Cx v e w q b L ((take n).bind K))) (ht : Hid (rtok v.l q b = ⟨kt, st, mt, qt⟩)) (hk : kt = n) (h0 : n ≠ 0) (k : ∀ w', q < v.l.length → Hid (Cx v e w' (q + 1) false L (K st)) → Post (.returned (.agg #[.int .u8 kt, .string st, .int .i64 mt, .int .i64 qt])) w') :
    Calls Tryz.prog 33 #[.pointer (some ⟨v.gp, 0, none⟩), .int .u8 n] w Post := by
  refine (takeK h.out.par ht.out hk h0).mono ?_
  rintro _ w' ⟨rfl, hst, hf, hp, hb, hlt⟩
  exact k w' hlt (Lib.hid (h.out.go hf hp hst))
theorem pos' {c : Prop} [Decidable c] (h : Hid (Cx v e w q b L (if c then A else B))) (hc : c) : Hid (Cx v e w q b L A) := by
  rw [if_pos hc] at h
  exact h
theorem neg' {c : Prop} [Decidable c] (h : Hid (Cx v e w q b L (if c then A else B))) (hc : ¬ c) : Hid (Cx v e w q b L B) := by
  rw [if_neg hc] at h
  exact h
theorem Gx.all (h : Cx v e w q b L m) (hb : e.b = false) : ∀ r, v.φ r := fun r => h.st.al.2 hb (r + 1) r (Nat.lt_succ_self _)
theorem Gx.may_call (h : Cx v e w q b L m) {r : Nat} (hr : r < e.r ∨ e.b = false) : Al v.φ b r := by
  have h1 := h.st.al.1
  have h2 := h.all
  have h3 := h.st.bad
  cases hb : e.b with
  | false => exact ⟨fun _ => h2 hb r, fun _ => h2 hb⟩
  | true =>
    have hr : r < e.r := by
      rcases hr with hr | hr
      · exact hr
      · rw [hb] at hr; cases hr
    have h4 := h3 hb
    exact ⟨fun _ => h1 hb r hr, fun x => by rw [h4] at x; cases x⟩
/-- the function was entered where no token was in the way -/
theorem good' (h : Hid (Cx v e w q false L m)) : Hid (e.b = false) := Lib.hid (by
  have := h.out.st.bad
  cases hb : e.b with
  | false => rfl
  | true => cases this hb)
theorem call' {x : α → List X} {r : Nat} {f : FuncId} {args : List Value} {m1 : Pr α} {K : α → Pr β} (h : Hid (Cx v e w q b L (m1.bind K))) (F : QC v r f args (stE x) m1) (hr : r < e.r ∨ e.b = false) (k : ∀ w' q' b' t cs, Step v.l m1 q b t q' b' → Hid (Cx v e w' q' b' (.val (x t) cs :: L) (K t)) → Post (.returned (.agg cs.toArray)) w') : Calls Tryz.prog f (v.ptr :: args).toArray w Post := by
  refine (F w q b h.out.par (h.out.may_call hr) (step_out rfl h.out.ne)).mono ?_
  rintro _ w' ⟨t, q', b', hst, ⟨cs, rfl, hc⟩, hf, hp⟩
  have h2 := h.out.go hf hp hst
  exact k w' q' b' t cs hst (Lib.hid (h2.top ⟨w.heap.size, hf.size, hc.mono (fun k hk ho => ⟨ho, hk⟩), h.out.its.fr hf (fun k hk _ (x : k = v.gp) => by have := h.out.gpl; omega)⟩))
theorem callrow' {x : α → List X} {r n : Nat} {f : FuncId} {args : List Value} {m1 : Pr (List α)} {K : List α → Pr β} (h : Hid (Cx v e w q b L (m1.bind K))) (F : QC v r f args (rowE n x) m1) (hr : r < e.r ∨ e.b = false) (k : ∀ w' q' b' t av cv, q ≤ q' → Hid (Cx v e w' q' b' (.row (.row n (t.map x)) (.slice av t.length cv) :: L) (K t)) → Post (.returned (.slice av t.length cv)) w') : Calls Tryz.prog f (v.ptr :: args).toArray w Post := by
  refine (F w q b h.out.par (h.out.may_call hr) (step_out rfl h.out.ne)).mono ?_
  rintro _ w' ⟨t, q', b', hst, ⟨u, rfl, hc⟩, hf, hp⟩
  obtain ⟨av, cv, rfl⟩ := hx_slice hc
  rw [List.length_map] at hc ⊢
  have h2 := h.out.go hf hp hst
  exact k w' q' b' t av cv (step_mono hst) (Lib.hid (h2.top ⟨w.heap.size, hf.size, Hx.keep (fun k hk ho => ⟨rfl, ho, hk⟩) _ _ hc, h.out.its.fr hf (fun k hk _ (x : k = v.gp) => by have := h.out.gpl; omega)⟩))
theorem alloc' {gp : Nat} {w0 w w' : World} {S0 : World → Prop} {L : List It} {g : Nat} {c : List Value} {t : TypeId} (h : Hid (Gx gp w0 S0 w L)) (hn : w.alloc (.cells c.toArray t) = w') (hg : w.heap.size = g) : Hid (Gx gp w0 S0 w' (.blk g c t :: L)) := by
  subst hn hg
  have h2 := h.out.no (Fr.alloc w (.cells c.toArray t))
  exact Lib.hid (h2.top ⟨by rw [size_alloc]; exact Nat.lt_succ_self _, new_block _ _, h.out.its.fr (Fr.alloc _ _) (fun _ _ _ => no_one)⟩)
/-- some cells of a block are written -/
structure Wr (w w' : World) (g : Nat) (f : List Value → List Value) : Prop where
  fr : Fr (Just g) w w'
  size : w'.heap.size = w.heap.size
  blk : ∀ c t, w.heap[g]? = some (.cells c.toArray t (0, 0)) → w'.heap[g]? = some (.cells (f c).toArray t (0, 0))
structure Wq (w w' : World) (g : Nat) (c c' : List Value) : Prop where
  fr : Fr (Just g) w w'
  size : w'.heap.size = w.heap.size
  blk : ∀ t, w.heap[g]? = some (.cells c.toArray t (0, 0)) → w'.heap[g]? = some (.cells c'.toArray t (0, 0))
theorem Wr.nil : Wr w w g id := ⟨Fr.refl _ _, rfl, fun _ _ h => h⟩
theorem Wr.snoc {f : List Value → List Value} (h : Wr w w1 g f) (i : Nat) (u : Value) : Wr w (w1.setCell ⟨g, i, none⟩ u) g fun c => (f c).set i u :=
  ⟨h.fr.trans (Fr.setCell w1 ⟨g, i, none⟩ u) (fun _ _ x => x), by rw [← h.size]; simp [World.setCell], fun c t hb => by
    have := block_setCell (h.blk c t hb) i u
    rw [List.setIfInBounds_toArray] at this
    exact this⟩
theorem Wr.qq {f : List Value → List Value} {c c' : List Value} (h : Wr w w1 g f) (hn : w1 = w') (hc : f c = c') : Wq w w' g c c' := by
  subst hn hc
  exact ⟨h.fr, h.size, fun t hb => h.blk c t hb⟩
theorem pT {c0 c1 c2 c3 v0 v1 v2 v3 : Value} (h : (((w.setCell ⟨g, 0, none⟩ v0).setCell ⟨g, 1, none⟩ v1).setCell ⟨g, 2, none⟩ v2).setCell ⟨g, 3, none⟩ v3 = w') : Wq w w' g [c0, c1, c2, c3] [v0, v1, v2, v3] := Wr.qq ((((Wr.nil.snoc 0 v0).snoc 1 v1).snoc 2 v2).snoc 3 v3) h rfl
theorem pE {c0 c1 c2 c3 c4 c5 c6 v0 v1 v2 v3 v4 v5 v6 : Value} (h : ((((((w.setCell ⟨g, 0, none⟩ v0).setCell ⟨g, 1, none⟩ v1).setCell ⟨g, 2, none⟩ v2).setCell ⟨g, 3, none⟩ v3).setCell ⟨g, 4, none⟩ v4).setCell ⟨g, 5, none⟩ v5).setCell ⟨g, 6, none⟩ v6 = w') : Wq w w' g [c0, c1, c2, c3, c4, c5, c6] [v0, v1, v2, v3, v4, v5, v6] := Wr.qq (((((((Wr.nil.snoc 0 v0).snoc 1 v1).snoc 2 v2).snoc 3 v3).snoc 4 v4).snoc 5 v5).snoc 6 v6) h rfl
theorem pR {c0 c1 c2 c3 c4 c5 c6 c7 c8 c9 c10 v0 v1 v2 v3 v4 v5 v6 v7 v8 v9 v10 : Value} (h : ((((((((((w.setCell ⟨g, 0, none⟩ v0).setCell ⟨g, 1, none⟩ v1).setCell ⟨g, 2, none⟩ v2).setCell ⟨g, 3, none⟩ v3).setCell ⟨g, 4, none⟩ v4).setCell ⟨g, 5, none⟩ v5).setCell ⟨g, 6, none⟩ v6).setCell ⟨g, 7, none⟩ v7).setCell ⟨g, 8, none⟩ v8).setCell ⟨g, 9, none⟩ v9).setCell ⟨g, 10, none⟩ v10 = w') : Wq w w' g [c0, c1, c2, c3, c4, c5, c6, c7, c8, c9, c10] [v0, v1, v2, v3, v4, v5, v6, v7, v8, v9, v10] := Wr.qq (((((((((((Wr.nil.snoc 0 v0).snoc 1 v1).snoc 2 v2).snoc 3 v3).snoc 4 v4).snoc 5 v5).snoc 6 v6).snoc 7 v7).snoc 8 v8).snoc 9 v9).snoc 10 v10) h rfl
theorem pC {c0 c1 c2 c3 c4 c5 v0 v1 v2 v3 v4 v5 : Value} (h : (((((w.setCell ⟨g, 0, none⟩ v0).setCell ⟨g, 1, none⟩ v1).setCell ⟨g, 2, none⟩ v2).setCell ⟨g, 3, none⟩ v3).setCell ⟨g, 4, none⟩ v4).setCell ⟨g, 5, none⟩ v5 = w') : Wq w w' g [c0, c1, c2, c3, c4, c5] [v0, v1, v2, v3, v4, v5] := Wr.qq ((((((Wr.nil.snoc 0 v0).snoc 1 v1).snoc 2 v2).snoc 3 v3).snoc 4 v4).snoc 5 v5) h rfl
theorem pF {c0 c1 c2 c3 c4 c5 c6 c7 c8 v0 v1 v2 v3 v4 v5 v6 v7 v8 : Value} (h : ((((((((w.setCell ⟨g, 0, none⟩ v0).setCell ⟨g, 1, none⟩ v1).setCell ⟨g, 2, none⟩ v2).setCell ⟨g, 3, none⟩ v3).setCell ⟨g, 4, none⟩ v4).setCell ⟨g, 5, none⟩ v5).setCell ⟨g, 6, none⟩ v6).setCell ⟨g, 7, none⟩ v7).setCell ⟨g, 8, none⟩ v8 = w') : Wq w w' g [c0, c1, c2, c3, c4, c5, c6, c7, c8] [v0, v1, v2, v3, v4, v5, v6, v7, v8] := Wr.qq (((((((((Wr.nil.snoc 0 v0).snoc 1 v1).snoc 2 v2).snoc 3 v3).snoc 4 v4).snoc 5 v5).snoc 6 v6).snoc 7 v7).snoc 8 v8) h rfl
theorem pD {c0 c1 c2 c3 c4 c5 c6 c7 c8 c9 c10 c11 c12 c13 c14 c15 v0 v1 v2 v3 v4 v5 v6 v7 v8 v9 v10 v11 v12 v13 v14 v15 : Value} (h : (((((((((((((((w.setCell ⟨g, 0, none⟩ v0).setCell ⟨g, 1, none⟩ v1).setCell ⟨g, 2, none⟩ v2).setCell ⟨g, 3, none⟩ v3).setCell ⟨g, 4, none⟩ v4).setCell ⟨g, 5, none⟩ v5).setCell ⟨g, 6, none⟩ v6).setCell ⟨g, 7, none⟩ v7).setCell ⟨g, 8, none⟩ v8).setCell ⟨g, 9, none⟩ v9).setCell ⟨g, 10, none⟩ v10).setCell ⟨g, 11, none⟩ v11).setCell ⟨g, 12, none⟩ v12).setCell ⟨g, 13, none⟩ v13).setCell ⟨g, 14, none⟩ v14).setCell ⟨g, 15, none⟩ v15 = w') : Wq w w' g [c0, c1, c2, c3, c4, c5, c6, c7, c8, c9, c10, c11, c12, c13, c14, c15] [v0, v1, v2, v3, v4, v5, v6, v7, v8, v9, v10, v11, v12, v13, v14, v15] := Wr.qq ((((((((((((((((Wr.nil.snoc 0 v0).snoc 1 v1).snoc 2 v2).snoc 3 v3).snoc 4 v4).snoc 5 v5).snoc 6 v6).snoc 7 v7).snoc 8 v8).snoc 9 v9).snoc 10 v10).snoc 11 v11).snoc 12 v12).snoc 13 v13).snoc 14 v14).snoc 15 v15) h rfl
theorem pT3 {c0 c1 c2 c3 v3 : Value} (h : w.setCell ⟨g, 3, none⟩ v3 = w') : Wq w w' g [c0, c1, c2, c3] [c0, c1, c2, v3] := Wr.qq (Wr.nil.snoc 3 v3) h rfl
theorem pE4 {c0 c1 c2 c3 c4 c5 c6 v4 : Value} (h : w.setCell ⟨g, 4, none⟩ v4 = w') : Wq w w' g [c0, c1, c2, c3, c4, c5, c6] [c0, c1, c2, c3, v4, c5, c6] := Wr.qq (Wr.nil.snoc 4 v4) h rfl
theorem pE5 {c0 c1 c2 c3 c4 c5 c6 v5 : Value} (h : w.setCell ⟨g, 5, none⟩ v5 = w') : Wq w w' g [c0, c1, c2, c3, c4, c5, c6] [c0, c1, c2, c3, c4, v5, c6] := Wr.qq (Wr.nil.snoc 5 v5) h rfl
theorem pE6 {c0 c1 c2 c3 c4 c5 c6 v6 : Value} (h : w.setCell ⟨g, 6, none⟩ v6 = w') : Wq w w' g [c0, c1, c2, c3, c4, c5, c6] [c0, c1, c2, c3, c4, c5, v6] := Wr.qq (Wr.nil.snoc 6 v6) h rfl
theorem pC1 {c0 c1 c2 c3 c4 c5 v1 : Value} (h : w.setCell ⟨g, 1, none⟩ v1 = w') : Wq w w' g [c0, c1, c2, c3, c4, c5] [c0, v1, c2, c3, c4, c5] := Wr.qq (Wr.nil.snoc 1 v1) h rfl
theorem pC2 {c0 c1 c2 c3 c4 c5 v2 v3 v4 v5 : Value} (h : (((w.setCell ⟨g, 2, none⟩ v2).setCell ⟨g, 3, none⟩ v3).setCell ⟨g, 4, none⟩ v4).setCell ⟨g, 5, none⟩ v5 = w') : Wq w w' g [c0, c1, c2, c3, c4, c5] [c0, c1, v2, v3, v4, v5] := Wr.qq ((((Wr.nil.snoc 2 v2).snoc 3 v3).snoc 4 v4).snoc 5 v5) h rfl
theorem pF1 {c0 c1 c2 c3 c4 c5 c6 c7 c8 v1 : Value} (h : w.setCell ⟨g, 1, none⟩ v1 = w') : Wq w w' g [c0, c1, c2, c3, c4, c5, c6, c7, c8] [c0, v1, c2, c3, c4, c5, c6, c7, c8] := Wr.qq (Wr.nil.snoc 1 v1) h rfl
theorem pF2 {c0 c1 c2 c3 c4 c5 c6 c7 c8 v2 v3 v4 v5 v6 v7 v8 : Value} (h : ((((((w.setCell ⟨g, 2, none⟩ v2).setCell ⟨g, 3, none⟩ v3).setCell ⟨g, 4, none⟩ v4).setCell ⟨g, 5, none⟩ v5).setCell ⟨g, 6, none⟩ v6).setCell ⟨g, 7, none⟩ v7).setCell ⟨g, 8, none⟩ v8 = w') : Wq w w' g [c0, c1, c2, c3, c4, c5, c6, c7, c8] [c0, c1, v2, v3, v4, v5, v6, v7, v8] := Wr.qq (((((((Wr.nil.snoc 2 v2).snoc 3 v3).snoc 4 v4).snoc 5 v5).snoc 6 v6).snoc 7 v7).snoc 8 v8) h rfl
theorem pD1 {c0 c1 c2 c3 c4 c5 c6 c7 c8 c9 c10 c11 c12 c13 c14 c15 v1 : Value} (h : w.setCell ⟨g, 1, none⟩ v1 = w') : Wq w w' g [c0, c1, c2, c3, c4, c5, c6, c7, c8, c9, c10, c11, c12, c13, c14, c15] [c0, v1, c2, c3, c4, c5, c6, c7, c8, c9, c10, c11, c12, c13, c14, c15] := Wr.qq (Wr.nil.snoc 1 v1) h rfl
theorem pD2 {c0 c1 c2 c3 c4 c5 c6 c7 c8 c9 c10 c11 c12 c13 c14 c15 v2 : Value} (h : w.setCell ⟨g, 2, none⟩ v2 = w') : Wq w w' g [c0, c1, c2, c3, c4, c5, c6, c7, c8, c9, c10, c11, c12, c13, c14, c15] [c0, c1, v2, c3, c4, c5, c6, c7, c8, c9, c10, c11, c12, c13, c14, c15] := Wr.qq (Wr.nil.snoc 2 v2) h rfl
theorem pD3 {c0 c1 c2 c3 c4 c5 c6 c7 c8 c9 c10 c11 c12 c13 c14 c15 v3 : Value} (h : w.setCell ⟨g, 3, none⟩ v3 = w') : Wq w w' g [c0, c1, c2, c3, c4, c5, c6, c7, c8, c9, c10, c11, c12, c13, c14, c15] [c0, c1, c2, v3, c4, c5, c6, c7, c8, c9, c10, c11, c12, c13, c14, c15] := Wr.qq (Wr.nil.snoc 3 v3) h rfl
theorem pD4 {c0 c1 c2 c3 c4 c5 c6 c7 c8 c9 c10 c11 c12 c13 c14 c15 v4 : Value} (h : w.setCell ⟨g, 4, none⟩ v4 = w') : Wq w w' g [c0, c1, c2, c3, c4, c5, c6, c7, c8, c9, c10, c11, c12, c13, c14, c15] [c0, c1, c2, c3, v4, c5, c6, c7, c8, c9, c10, c11, c12, c13, c14, c15] := Wr.qq (Wr.nil.snoc 4 v4) h rfl
theorem pD5 {c0 c1 c2 c3 c4 c5 c6 c7 c8 c9 c10 c11 c12 c13 c14 c15 v5 v6 v7 v8 : Value} (h : (((w.setCell ⟨g, 5, none⟩ v5).setCell ⟨g, 6, none⟩ v6).setCell ⟨g, 7, none⟩ v7).setCell ⟨g, 8, none⟩ v8 = w') : Wq w w' g [c0, c1, c2, c3, c4, c5, c6, c7, c8, c9, c10, c11, c12, c13, c14, c15] [c0, c1, c2, c3, c4, v5, v6, v7, v8, c9, c10, c11, c12, c13, c14, c15] := Wr.qq ((((Wr.nil.snoc 5 v5).snoc 6 v6).snoc 7 v7).snoc 8 v8) h rfl
theorem pD9 {c0 c1 c2 c3 c4 c5 c6 c7 c8 c9 c10 c11 c12 c13 c14 c15 v9 v10 v11 v12 v13 v14 v15 : Value} (h : ((((((w.setCell ⟨g, 9, none⟩ v9).setCell ⟨g, 10, none⟩ v10).setCell ⟨g, 11, none⟩ v11).setCell ⟨g, 12, none⟩ v12).setCell ⟨g, 13, none⟩ v13).setCell ⟨g, 14, none⟩ v14).setCell ⟨g, 15, none⟩ v15 = w') : Wq w w' g [c0, c1, c2, c3, c4, c5, c6, c7, c8, c9, c10, c11, c12, c13, c14, c15] [c0, c1, c2, c3, c4, c5, c6, c7, c8, v9, v10, v11, v12, v13, v14, v15] := Wr.qq (((((((Wr.nil.snoc 9 v9).snoc 10 v10).snoc 11 v11).snoc 12 v12).snoc 13 v13).snoc 14 v14).snoc 15 v15) h rfl
section
variable {gp : Nat} {w0 : World} {S0 : World → Prop}
theorem Gx.put (n : Nat) {c c' : List Value} {t : TypeId} (h : Gx gp w0 S0 w L) (hw : Wq w w' g c c') (hn : nth L n = .blk g c t) (hk : free g L n) : Gx gp w0 S0 w' (upd L n (.blk g c' t)) := by
  have h1 := h.its.blk n hn
  have h2 := h.gpl
  exact ⟨h.same hw.fr (fun (x : gp = g) => by omega), h.fr.trans hw.fr (fun i hi (x : i = g) => by omega), by rw [hw.size]; exact Its.put hw.fr (hw.blk _ h1.2.2) n h.its hn hk, h2, h.keep⟩
section
variable {c c' d : List Value} {t t2 : TypeId} {x1 x2 x3 x4 x5 x6 : It}
theorem put0 (h : Hid (Gx gp w0 S0 w (.blk g c t :: L))) (hw : Wq w w' g c c') (hk : free g (.blk g c t :: L) 0 := by exact trivial) : Hid (Gx gp w0 S0 w' (.blk g c' t :: L)) := Lib.hid (h.out.put 0 hw rfl hk)
theorem put1 (h : Hid (Gx gp w0 S0 w (x1 :: .blk g c t :: L))) (hw : Wq w w' g c c') (hk : free g (x1 :: .blk g c t :: L) 1 := by exact trivial) : Hid (Gx gp w0 S0 w' (x1 :: .blk g c' t :: L)) := Lib.hid (h.out.put 1 hw rfl hk)
theorem put2 (h : Hid (Gx gp w0 S0 w (x1 :: x2 :: .blk g c t :: L))) (hw : Wq w w' g c c') (hk : free g (x1 :: x2 :: .blk g c t :: L) 2 := by exact trivial) : Hid (Gx gp w0 S0 w' (x1 :: x2 :: .blk g c' t :: L)) := Lib.hid (h.out.put 2 hw rfl hk)
theorem put3 (h : Hid (Gx gp w0 S0 w (x1 :: x2 :: x3 :: .blk g c t :: L))) (hw : Wq w w' g c c') (hk : free g (x1 :: x2 :: x3 :: .blk g c t :: L) 3 := by exact trivial) : Hid (Gx gp w0 S0 w' (x1 :: x2 :: x3 :: .blk g c' t :: L)) := Lib.hid (h.out.put 3 hw rfl hk)
theorem put4 (h : Hid (Gx gp w0 S0 w (x1 :: x2 :: x3 :: x4 :: .blk g c t :: L))) (hw : Wq w w' g c c') (hk : free g (x1 :: x2 :: x3 :: x4 :: .blk g c t :: L) 4 := by exact trivial) : Hid (Gx gp w0 S0 w' (x1 :: x2 :: x3 :: x4 :: .blk g c' t :: L)) := Lib.hid (h.out.put 4 hw rfl hk)
theorem put5 (h : Hid (Gx gp w0 S0 w (x1 :: x2 :: x3 :: x4 :: x5 :: .blk g c t :: L))) (hw : Wq w w' g c c') (hk : free g (x1 :: x2 :: x3 :: x4 :: x5 :: .blk g c t :: L) 5 := by exact trivial) : Hid (Gx gp w0 S0 w' (x1 :: x2 :: x3 :: x4 :: x5 :: .blk g c' t :: L)) := Lib.hid (h.out.put 5 hw rfl hk)
theorem put6 (h : Hid (Gx gp w0 S0 w (x1 :: x2 :: x3 :: x4 :: x5 :: x6 :: .blk g c t :: L))) (hw : Wq w w' g c c') (hk : free g (x1 :: x2 :: x3 :: x4 :: x5 :: x6 :: .blk g c t :: L) 6 := by exact trivial) : Hid (Gx gp w0 S0 w' (x1 :: x2 :: x3 :: x4 :: x5 :: x6 :: .blk g c' t :: L)) := Lib.hid (h.out.put 6 hw rfl hk)
/-- a block is made, and some cells of another one are written ahead of it -/
theorem late' {n : Nat} (h : Hid (Gx gp w0 S0 w L)) (hg : w.heap.size = g2) (hw : Wq w w1 g c c') (hn : w1.alloc (.cells d.toArray t2) = w') (hx : nth L n = .blk g c t) (hk : free g L n) : Hid (Gx gp w0 S0 w' (.blk g2 d t2 :: upd L n (.blk g c' t))) := by
  have h2 := h.out.put n hw hx hk
  exact alloc' (Lib.hid h2) hn (hw.size.trans hg)
theorem late0 (h : Hid (Gx gp w0 S0 w (.blk g c t :: L))) (hg : w.heap.size = g2) (hw : Wq w w1 g c c') (hn : w1.alloc (.cells d.toArray t2) = w') (hk : free g (.blk g c t :: L) 0 := by exact trivial) : Hid (Gx gp w0 S0 w' (.blk g2 d t2 :: .blk g c' t :: L)) := late' (n := 0) h hg hw hn rfl hk
theorem late1 (h : Hid (Gx gp w0 S0 w (x1 :: .blk g c t :: L))) (hg : w.heap.size = g2) (hw : Wq w w1 g c c') (hn : w1.alloc (.cells d.toArray t2) = w') (hk : free g (x1 :: .blk g c t :: L) 1 := by exact trivial) : Hid (Gx gp w0 S0 w' (.blk g2 d t2 :: x1 :: .blk g c' t :: L)) := late' (n := 1) h hg hw hn rfl hk
theorem late2 (h : Hid (Gx gp w0 S0 w (x1 :: x2 :: .blk g c t :: L))) (hg : w.heap.size = g2) (hw : Wq w w1 g c c') (hn : w1.alloc (.cells d.toArray t2) = w') (hk : free g (x1 :: x2 :: .blk g c t :: L) 2 := by exact trivial) : Hid (Gx gp w0 S0 w' (.blk g2 d t2 :: x1 :: x2 :: .blk g c' t :: L)) := late' (n := 2) h hg hw hn rfl hk
theorem late3 (h : Hid (Gx gp w0 S0 w (x1 :: x2 :: x3 :: .blk g c t :: L))) (hg : w.heap.size = g2) (hw : Wq w w1 g c c') (hn : w1.alloc (.cells d.toArray t2) = w') (hk : free g (x1 :: x2 :: x3 :: .blk g c t :: L) 3 := by exact trivial) : Hid (Gx gp w0 S0 w' (.blk g2 d t2 :: x1 :: x2 :: x3 :: .blk g c' t :: L)) := late' (n := 3) h hg hw hn rfl hk
end
/-- what is wanted no more -/
theorem Its.tl {w : World} {lo : Nat} {L L' : List It} (h : ∀ hi, Its w lo hi L → Its w lo hi L') : ∀ {y : It} {hi : Nat}, Its w lo hi (y :: L) → Its w lo hi (y :: L')
  | .blk _ _ _, _, ⟨h1, h2, h3⟩ => ⟨h1, h2, h _ h3⟩
  | .val _ _, _, ⟨b, h1, h2, h3⟩ => ⟨b, h1, h2, h _ h3⟩
  | .row _ _, _, ⟨b, h1, h2, h3⟩ => ⟨b, h1, h2, h _ h3⟩
  | .out _ _ _ _ _, _, ⟨b, h1, h2, h3, h4⟩ => ⟨b, h1, h2, h3, h _ h4⟩
  | .mix _ _ _ _, _, ⟨h1, h2⟩ => ⟨h1, h _ h2⟩
theorem Its.hd {w : World} {lo : Nat} {L : List It} {y : It} (hi : Nat) (h : Its w lo hi (y :: L)) : Its w lo hi L := by
  obtain ⟨b, h1, h2⟩ := Its.sub h
  exact Its.up h1 h2
theorem rm0 {y : It} (h : Hid (Gx gp w0 S0 w (y :: L))) : Hid (Gx gp w0 S0 w L) := Lib.hid (h.out.top (Its.hd _ h.out.its))
theorem rm1 {y y1 : It} (h : Hid (Gx gp w0 S0 w (y1 :: y :: L))) : Hid (Gx gp w0 S0 w (y1 :: L)) := Lib.hid (h.out.top (Its.tl Its.hd h.out.its))
theorem rm2 {y y1 y2 : It} (h : Hid (Gx gp w0 S0 w (y1 :: y2 :: y :: L))) : Hid (Gx gp w0 S0 w (y1 :: y2 :: L)) := Lib.hid (h.out.top (Its.tl (fun _ => Its.tl Its.hd) h.out.its))
theorem rm3 {y y1 y2 y3 : It} (h : Hid (Gx gp w0 S0 w (y1 :: y2 :: y3 :: y :: L))) : Hid (Gx gp w0 S0 w (y1 :: y2 :: y3 :: L)) := Lib.hid (h.out.top (Its.tl (fun _ => Its.tl (fun _ => Its.tl Its.hd)) h.out.its))
/-- a block as it lies -/
theorem bk (n : Nat) {c : List Value} {t : TypeId} (h : Hid (Gx gp w0 S0 w L)) (hn : nth L n = .blk g c t) : w.heap[g]? = some (.cells c.toArray t (0, 0)) := (h.out.its.blk n hn).2.2
theorem bg (h : Hid (Cx v e w q b L m)) : w.heap[v.gp]? = some (.cells #[.slice v.a v.l.length v.c, .int .i64 (q : Nat), .bool b] 57 (0, 0)) := h.out.blk
theorem vl (n : Nat) {x : List X} {c : List Value} (h : Hid (Gx gp w0 S0 w L)) (hn : nth L n = .val x c) : Hc (fun k => w0.heap.size ≤ k) w x c := (h.out.its.val n hn).mono (fun _ _ hk => hk.1)
theorem rw' (n : Nat) {x : X} {u : Value} (h : Hid (Gx gp w0 S0 w L)) (hn : nth L n = .row x u) : Hx (fun k => w0.heap.size ≤ k) w x u := Hx.keep (fun _ _ hk => ⟨rfl, hk.1⟩) _ _ (h.out.its.row n hn)
theorem one' (n i : Nat) {k : Nat} {x : List X} {c : List Value} {t : TypeId} (h : Hid (Gx gp w0 S0 w L)) (h1 : nth L n = .blk g c t) (h2 : nth L i = .val x c) (h3 : c.length = k) (hk : 0 < k) : Hx (fun k => w0.heap.size ≤ k) w (.row k [x]) (.slice (some ⟨g, 0, none⟩) 1 1) :=
  hx_one (bk n h h1) (h.out.its.blk n h1).1 h3 hk (vl i h h2)
theorem two' (n i j : Nat) {k : Nat} {x y : List X} {c d : List Value} {t : TypeId} (h : Hid (Gx gp w0 S0 w L)) (h2 : nth L i = .val x c) (h3 : nth L j = .val y d) (h1 : nth L n = .blk g (c ++ d) t) (h4 : c.length = k) (h5 : d.length = k) (hk : 0 < k) : Hx (fun k => w0.heap.size ≤ k) w (.row k [x, y]) (.slice (some ⟨g, 0, none⟩) 2 2) :=
  hx_two (bk n h h1) (h.out.its.blk n h1).1 h4 h5 hk (vl i h h2) (vl j h h3)
theorem three' (n i j r : Nat) {k : Nat} {x y z : List X} {c d u : List Value} {t : TypeId} (h : Hid (Gx gp w0 S0 w L)) (h2 : nth L i = .val x c) (h3 : nth L j = .val y d) (h6 : nth L r = .val z u) (h1 : nth L n = .blk g (c ++ d ++ u) t) (h4 : c.length = k) (h5 : d.length = k) (h7 : u.length = k) (hk : 0 < k) : Hx (fun k => w0.heap.size ≤ k) w (.row k [x, y, z]) (.slice (some ⟨g, 0, none⟩) 3 3) :=
  hx_three (bk n h h1) (h.out.its.blk n h1).1 h4 h5 h7 hk (vl i h h2) (vl j h h3) (vl r h h6)
/-- a struct is handed back -/
theorem ret' (n : Nat) {x : β → List X} {y : β} {fn : Func} {s : Tmp} {t z : TypeId} {fs : Array Field} {c : List Value} {a : Act} (h : Hid (Cx v e w q b L (.ret y))) (hn : nth L n = .blk g c t) (hu : Tryz.prog.underlying t = some (.struct fs)) (hz : (Tryz.prog.info? t).map (·.size) = some z) (hs : c.toArray.size = z) (h1 : fn.results = #[.cell s t]) (h2 : a.tmps.getD s undef = .pointer (some ⟨g, 0, none⟩)) (hd : a.defers = [])
    (hc : Hc (fun k => e.w.heap.size ≤ k) w (x y) c) : bodyPost Tryz.prog fn (QP v e (stE x)) .ret a w :=
  bodyPost_ret (results_st h1 hu hz _ _ g _ hs h2 (bk n h hn)) hd ⟨y, q, b, step_end rfl h.out.st.run, ⟨_, rfl, hc⟩, h.out.fr, h.out.par⟩
/-- a row is handed back -/
theorem retr' {α : Type} {k : Nat} {x : α → List X} {e : Ev (List α)} {y : List α} {u : Value} (h : Hid (Cx v e w q b L (.ret y))) (hx : Hx (fun k => e.w.heap.size ≤ k) w (.row k (y.map x)) u) : QP v e (rowE k x) (.returned u) w := ⟨y, q, b, step_end rfl h.out.st.run, ⟨_, rfl, hx⟩, h.out.fr, h.out.par⟩
/-- where a token was in the way it is as good as anything -/
theorem Gx.re (h : Cx v e w q b L m) {m' : Pr β} (hr : runS v.l m' q b = runS v.l m q b) : Cx v e w q b L m' := ⟨⟨h.st.base, h.st.blk, h.st.le, hr.trans h.st.run, h.st.ne, h.st.bad, h.st.al⟩, h.fr, h.its, h.gpl, fun u u' hu h => ⟨h.base, hu.trans h.blk, h.le, h.run, h.ne, h.bad, h.al⟩⟩
theorem any' {m' : Pr β} (h : Hid (Cx v e w q true L m)) : Hid (Cx v e w q true L m') := Lib.hid (h.out.re rfl)
/-! one value that grows in a box -/
section
variable {g1 g2 : Nat} {x y : List X} {c d c1 c2 : List Value} {t t1 t2 : TypeId}
theorem mix0 (h : Hid (Gx gp w0 S0 w (.blk g1 c1 t1 :: .val x c :: .blk g2 c2 t2 :: L))) : Hid (Gx gp w0 S0 w (.mix g1 g2 x c :: .blk g1 c1 t1 :: .blk g2 c2 t2 :: L)) := by
  obtain ⟨h1, h2, b1, h3, h4, h5, h6, h7⟩ := h.out.its
  have h8 := Its.le h7
  exact Lib.hid (h.out.top ⟨h4.mono (fun k _ hk => ⟨by omega, by omega, by omega, by omega⟩), h1, h2, by omega, h6, h7⟩)
theorem mone {k : Nat} (h : Hid (Gx gp w0 S0 w (.blk g c t :: .mix g1 g2 x c :: .blk g1 c1 t1 :: .blk g2 c2 t2 :: L))) (hc : c.length = k) (hk : 0 < k) : Hx (fun k => w0.heap.size ≤ k ∧ k < w.heap.size ∧ k ≠ g1 ∧ k ≠ g2) w (.row k [x]) (.slice (some ⟨g, 0, none⟩) 1 1) := by
  obtain ⟨h1, h2, h3, h4, h5, h6, h7, h8⟩ := h.out.its
  have h9 := Its.le h8
  exact hx_one h2 ⟨by omega, h1, by omega, by omega⟩ hc hk (h3.mono (fun k _ hk => ⟨hk.1, by have := hk.2.1; omega, hk.2.2⟩))
theorem mtwo {k : Nat} {cd : List Value} (h : Hid (Gx gp w0 S0 w (.blk g cd t :: .val y d :: .mix g1 g2 x c :: .blk g1 c1 t1 :: .blk g2 c2 t2 :: L))) (he : c ++ d = cd) (hc : c.length = k) (hd : d.length = k) (hk : 0 < k) : Hx (fun k => w0.heap.size ≤ k ∧ k < w.heap.size ∧ k ≠ g1 ∧ k ≠ g2) w (.row k [x, y]) (.slice (some ⟨g, 0, none⟩) 2 2) := by
  subst he
  obtain ⟨h1, h2, b1, h10, h11, h3, h4, h5, h6, h7, h8⟩ := h.out.its
  have h9 := Its.le h8
  exact hx_two h2 ⟨by omega, h1, by omega, by omega⟩ hc hd hk (h3.mono (fun k _ hk => ⟨hk.1, by have := hk.2.1; omega, hk.2.2⟩)) (h11.mono (fun k _ hk => ⟨by omega, by omega, by omega, by omega⟩))
theorem mtwo0 {k : Nat} {cd : List Value} (h : Hid (Gx gp w0 S0 w (.blk g cd t :: .val y d :: .mix g1 g2 x c :: .blk g1 c1 t1 :: .blk g2 c2 t2 :: L))) (he : c ++ d = cd) (hc : c.length = k) (hd : d.length = k) (hk : 0 < k) : Hx (fun k => w0.heap.size ≤ k) w (.row k [x, y]) (.slice (some ⟨g, 0, none⟩) 2 2) := Hx.keep (fun _ _ ho => ⟨rfl, ho.1⟩) _ _ (mtwo h he hc hd hk)
theorem mix1 {x' : List X} {c' : List Value} {i1 : It} (h : Hid (Gx gp w0 S0 w (i1 :: .mix g1 g2 x c :: L))) (hc : Hc (fun k => w0.heap.size ≤ k ∧ k < w.heap.size ∧ k ≠ g1 ∧ k ≠ g2) w x' c') : Hid (Gx gp w0 S0 w (.mix g1 g2 x' c' :: L)) := by
  obtain ⟨b1, h1, h2⟩ := Its.sub h.out.its
  exact Lib.hid (h.out.top ⟨hc, Its.up h1 h2.2⟩)
theorem mix2 {x' : List X} {c' : List Value} {i1 i2 : It} (h : Hid (Gx gp w0 S0 w (i1 :: i2 :: .mix g1 g2 x c :: L))) (hc : Hc (fun k => w0.heap.size ≤ k ∧ k < w.heap.size ∧ k ≠ g1 ∧ k ≠ g2) w x' c') : Hid (Gx gp w0 S0 w (.mix g1 g2 x' c' :: L)) := by
  obtain ⟨b1, h1, h2⟩ := Its.sub h.out.its
  obtain ⟨b2, h3, h4⟩ := Its.sub h2
  exact Lib.hid (h.out.top ⟨hc, Its.up (Nat.le_trans h3 h1) h4.2⟩)
theorem vm (h : Hid (Gx gp w0 S0 w (.mix g1 g2 x c :: L))) : Hc (fun k => w0.heap.size ≤ k) w x c := h.out.its.1.mono (fun _ _ hk => hk.1)
end
/-- the one element of a row -/
theorem elT {t : T} {av : Option Addr} {cv : Nat} (h : Hid (Gx gp w0 S0 w (.row (.row 4 [xT t]) (.slice av 1 cv) :: L))) : ∃ (g o k : Nat) (s : ByteArray) (n : Int) (b1 : Option Addr) (m1 c1 : Nat), av = some ⟨g, o, none⟩ ∧ (w.cell? ⟨g, o, none⟩ = some (.int .u8 k) ∧ w.cell? ⟨g, o + 1, none⟩ = some (.string s) ∧ w.cell? ⟨g, o + 2, none⟩ = some (.int .i64 n) ∧ w.cell? ⟨g, o + 3, none⟩ = some (.slice b1 m1 c1)) ∧ Hid (Gx gp w0 S0 w (.val (xT t) [.int .u8 k, .string s, .int .i64 n, .slice b1 m1 c1] :: L)) := by
  obtain ⟨b1, h1, h2, h3⟩ := h.out.its
  obtain ⟨g, o, c, ea, _, _, hc, hx⟩ := hx_at h2 (j := 0) rfl
  obtain ⟨k, s, n, b2, m1, c1, rfl⟩ := hcT hx
  exact ⟨g, o, k, s, n, b2, m1, c1, ea, ⟨by simpa using hc 0 _ rfl, by simpa using hc 1 _ rfl, by simpa using hc 2 _ rfl, by simpa using hc 3 _ rfl⟩, Lib.hid (h.out.top ⟨b1, h1, hx, h3⟩)⟩
/-- r.at++ -/
theorem adv' (h : Hid (Cx v e w q false L (.adv m))) (hq : q < v.l.length) (hn : w.setCell ⟨v.gp, 1, none⟩ (.int .i64 ((q : Int) + 1)) = w') : Hid (Cx v e w' (q + 1) false L m) := by
  subst hn
  exact Lib.hid (h.out.set (m' := m) (Fr.setCell w ⟨v.gp, 1, none⟩ _) (set_p h.out.par hq) rfl id)
/-- r.bad = true -/
theorem fail' (h : Hid (Cx v e w q b L .fail)) (hn : w.setCell ⟨v.gp, 2, none⟩ (.bool true) = w') : Hid (Cx v e w' q true L m) := by
  subst hn
  have hb := block_setCell h.out.blk 2 (.bool true)
  exact Lib.hid (h.out.set (m' := m) (Fr.setCell w ⟨v.gp, 2, none⟩ _) (h.out.par.of (Fr.setCell w ⟨v.gp, 2, none⟩ _) hb h.out.le) (by cases b <;> rfl) (fun _ => rfl))
/-- r.may(true), r.may(false) -/
theorem mayt' (h : Hid (Cx v e w q false L (.adv m))) (hq : q < v.l.length) (k : ∀ w', Hid (Cx v e w' (q + 1) false L m) → Post (.returned (.bool true)) w') : Calls Tryz.prog 31 #[.pointer (some ⟨v.gp, 0, none⟩), .bool true] w Post := by
  refine (mayr h.out.par true (fun _ _ => hq)).mono ?_
  rintro _ w' ⟨rfl, hf, hp⟩
  exact k w' (Lib.hid (h.out.set hf hp rfl id))
theorem mayf' (h : Hid (Cx v e w q b L m)) (k : ∀ w', Hid (Cx v e w' q b L m) → Post (.returned (.bool false)) w') : Calls Tryz.prog 31 #[.pointer (some ⟨v.gp, 0, none⟩), .bool false] w Post := by
  refine (mayr h.out.par false (fun h => by cases h)).mono ?_
  rintro _ w' ⟨rfl, hf, hp⟩
  simp only [Bool.false_and, if_false, Bool.false_eq_true] at hp ⊢
  exact k w' (Lib.hid (h.out.set hf hp rfl id))
/-- what the parser is may be put otherwise -/
theorem as' {m' : Pr β} (h : Hid (Cx v e w q b L m)) (hr : runS v.l m' q b = runS v.l m q b) : Hid (Cx v e w q b L m') := Lib.hid (h.out.re hr)
theorem tail' (h : Hid (Cx v e w q b L m)) : Hid (Cx v e w q b L (m.bind .ret)) := as' h (by rw [bind_ret])
theorem ne' (h : Hid (Cx v e w q b L m)) : runS v.l m q b ≠ .out := h.out.ne
/-- rows of one's own -/
theorem nil' (ty k : Nat) (h : Hid (Gx gp w0 S0 w L)) : Hid (Gx gp w0 S0 w (.out ty k (.slice none 0 0) 0 [] :: L)) := Lib.hid (h.out.top ⟨w.heap.size, Nat.le_refl _, OutG.nil _ _ _, fun j hj => (by simp [Value.ownBlock] at hj), h.out.its⟩)
theorem lit' {x : List X} {c : List Value} {ty k : Nat} (h : Hid (Gx gp w0 S0 w (.blk g c ty :: .val x c :: L))) (hk : c.length = k) : Hid (Gx gp w0 S0 w (.out ty k (.slice (some ⟨g, 0, none⟩) 1 1) 1 [x] :: L)) := by
  obtain ⟨h1, h2, b1, h3, h4, h5⟩ := h.out.its
  refine Lib.hid (h.out.top ⟨b1, by omega, ?_, fun j hj => ?_, h5⟩)
  · refine out_lits (cs := [c]) (by rw [List.flatten_cons, List.flatten_nil, List.append_nil]; exact h2) h3 rfl rfl (fun d hd => by rw [List.mem_singleton.1 hd]; exact hk) (by omega) (fun j t d hj hd => ?_)
    have hj0 : j < 1 := (List.getElem?_eq_some_iff.1 hj).1
    obtain rfl : j = 0 := by omega
    cases hj
    cases hd
    exact h4.mono (fun k _ hk => ⟨⟨hk.1, by omega⟩, fun (z : k = g) => by omega⟩)
  · cases hj
    exact h1
/-- a text as an element -/
theorem str' {s : ByteArray} {t : TypeId} (h : Hid (Gx gp w0 S0 w (.blk g [.string s] t :: L))) : Hid (Gx gp w0 S0 w (.blk g [.string s] t :: .val [xb s] [.string s] :: L)) := Lib.hid (h.out.top ⟨h.out.its.1, h.out.its.2.1, g, Nat.le_refl _, hc_cons (hx_lit _) hc_end, h.out.its.2.2⟩)
theorem len' {ty k n : Nat} {u : Value} {ls : List (List X)} (h : Hid (Gx gp w0 S0 w (.out ty k u n ls :: L))) : ls.length = n := by
  obtain ⟨_, _, h1, _⟩ := h.out.its
  exact h1.1
theorem row_ {ty k n cv : Nat} {av : Option Addr} {ls : List (List X)} (h : Hid (Gx gp w0 S0 w (.out ty k (.slice av n cv) n ls :: L))) (hk : 0 < k) : Hid (Gx gp w0 S0 w (.row (.row k ls) (.slice av n cv) :: L)) := by
  obtain ⟨b1, h1, h2, h3, h4⟩ := h.out.its
  exact Lib.hid (h.out.top ⟨b1, h1, hx_of_out h2 hk (fun j hj hl => ⟨hj, hl⟩) (fun j hl hj => hj), h4⟩)
theorem snoc' {α : Type} {f : α → List X} {acc : List α} {y : α} {ty k n : Nat} {u : Value} (h : Hid (Gx gp w0 S0 w (.out ty k u n (acc.map f ++ [f y]) :: L))) : Hid (Gx gp w0 S0 w (.out ty k u n ((acc ++ [y]).map f) :: L)) := by
  rw [List.map_append]
  exact h
theorem few (h : Hid (Cx v e w q b L m)) {n : Nat} (hn : n ≤ q + 1) : n ≤ 1048577 := by
  have h1 := h.out.le
  have h2 := h.out.st.base.len
  omega
theorem pushed {ty k n : Nat} {u u' : Value} {ls : List (List X)} {x : List X} {c : List Value} {e0 : TypeId} (h : Gx gp w0 S0 w (.blk g c e0 :: .val x c :: .out ty k u n ls :: L)) {B : Nat} (hB : w0.heap.size ≤ B) (hi : Its w w0.heap.size B L) (ho : OutG RX ty k (fun j => B ≤ j ∧ j < w.heap.size) B w' u' (n + 1) (ls ++ [x])) (hg : Grows B w w' u u') (hb : B ≤ w.heap.size) (hs : ∀ j, u'.ownBlock = some j → j < w'.heap.size) : Gx gp w0 S0 w' (.out ty k u' (n + 1) (ls ++ [x]) :: L) := by
  have h2 := h.gpl
  exact ⟨h.same hg.fr (fun (z : B ≤ gp) => by omega), h.fr.trans hg.fr (fun i hl (z : B ≤ i) => by omega), ⟨B, Nat.le_trans hb hg.fr.size, ho.wide (fun j _ hj => ⟨hj.1, Nat.lt_of_lt_of_le hj.2 hg.fr.size⟩), hs, hi.fr hg.fr (fun k _ hk (z : B ≤ k) => by omega)⟩, h2, h.keep⟩
theorem push_pre {ty k n : Nat} {u : Value} {ls : List (List X)} {x : List X} {c : List Value} {e0 : TypeId} (h : Gx gp w0 S0 w (.blk g c e0 :: .val x c :: .out ty k u n ls :: L)) : ∃ B, w0.heap.size ≤ B ∧ B ≤ w.heap.size ∧ Its w w0.heap.size B L ∧ OutG RX ty k (fun j => B ≤ j ∧ j < w.heap.size) B w u n ls ∧ w.heap[g]? = some (.cells c.toArray e0 (0, 0)) ∧ RX (fun j => (B ≤ j ∧ j < w.heap.size) ∧ Av u j) w x c ∧ ∀ j, u.ownBlock = some j → j < w.heap.size := by
  obtain ⟨h1, h2, b1, h3, h4, b2, h5, h6, h7, h8⟩ := h.its
  exact ⟨b2, Its.le h8, by omega, h8, h6.wide (fun j _ hj => ⟨hj.1, by omega⟩), h2, h4.mono (fun j _ hj => ⟨⟨by omega, by omega⟩, fun z => by have := h7 j z; omega⟩), fun j hj => by have := h7 j hj; omega⟩
/-- one element more: in a region in its order -/
theorem push' {ty k n bytes : Nat} {u : Value} {ls : List (List X)} {x : List X} {c : List Value} {e0 : TypeId} (h : Hid (Gx gp w0 S0 w (.blk g c e0 :: .val x c :: .out ty k u n ls :: L))) (he : ElemOk Tryz.prog ty k bytes) (hby : bytes ≤ 1000) (hm : n ≤ 1048577) {ops : Array Oper} {rest : List Oper} {o : Oper} {a : Act} {Q : Exit → Act → World → Prop} (hgd : o.guard = none) (s y : Operand) (t : TypeId)
    (ho : o.op = .call { callee := .builtin .append, args := #[s, y], argTypes := #[t, t] }) (ht : Tryz.prog.underlying t = some (.slice ty)) (hs : a.eval s = u) (hx : a.eval y = .slice (some ⟨g, 0, none⟩) 1 1) (h1 : ∀ u ∈ c, u.oneCell' = true) (hc : c.length = k)
    (K : ∀ a' c' w', Hid (Gx gp w0 S0 w' (.out ty k (.slice a' (n + 1) c') (n + 1) (ls ++ [x]) :: L)) → wpList Tryz.prog ops Q rest (a.put o.dst (.slice a' (n + 1) c')) w') : wpList Tryz.prog ops Q (o :: rest) a w := by
  obtain ⟨B, p1, p2, p3, p4, p5, p6, p7⟩ := push_pre h.out
  have hmul : (n + 1) * bytes ≤ 1048578 * 1000 := Nat.mul_le_mul (by omega) hby
  refine wpList_push keptX he hgd s y t ho ht _ B u n ls hs p4 g c e0 hx p5 h1 hc x p6 (by unfold maxLen; omega) (by omega) p2 ?_
  intro a3 c3 wn HON HGN
  exact K a3 c3 wn (Lib.hid (pushed h.out p1 p3 HON.out HGN.out p2 (fun j hj => (HON.out.block hj).2)))
/-- the same where the region draws its order -/
theorem spush' {ty k n bytes : Nat} {u : Value} {ls : List (List X)} {x : List X} {c : List Value} {e0 : TypeId} (h : Hid (Gx gp w0 S0 w (.blk g c e0 :: .val x c :: .out ty k u n ls :: L))) (he : ElemOk Tryz.prog ty k bytes) (hby : bytes ≤ 1000) (hm : n ≤ 1048577) {ops : Array Oper} {o : Oper} {a : Act} {K0 : Act → World → Prop} {Q : Exit → Act → World → Prop} {E : Prop} (hgd : o.guard = none) (s y : Operand) (t : TypeId)
    (ho : o.op = .call { callee := .builtin .append, args := #[s, y], argTypes := #[t, t] }) (ht : Tryz.prog.underlying t = some (.slice ty)) (hs : a.eval s = u) (hx : a.eval y = .slice (some ⟨g, 0, none⟩) 1 1) (h1 : ∀ u ∈ c, u.oneCell' = true) (hc : c.length = k)
    (K : ∀ a' c' w', Hid (Gx gp w0 S0 w' (.out ty k (.slice a' (n + 1) c') (n + 1) (ls ++ [x]) :: L)) → K0 (a.put o.dst (.slice a' (n + 1) c')) w') : if Region.wanted o (yielded ops a.tmps) = true then Oper.wp Tryz.prog o a w K0 Q else E := by
  obtain ⟨B, p1, p2, p3, p4, p5, p6, p7⟩ := push_pre h.out
  have hmul : (n + 1) * bytes ≤ 1048578 * 1000 := Nat.mul_le_mul (by omega) hby
  refine step_push keptX he hgd s y t ho ht _ B u n ls hs p4 g c e0 hx p5 h1 hc x p6 (by unfold maxLen; omega) (by omega) p2 ?_
  intro a3 c3 wn HON HGN
  exact K a3 c3 wn (Lib.hid (pushed h.out p1 p3 HON.out HGN.out p2 (fun j hj => (HON.out.block hj).2)))
/-- a region that draws its order -/
theorem reg' {ops : Array Oper} {Q : Exit → Act → World → Prop} {id : Nat} {a : Act} (h : Hid (Gx gp w0 S0 w L)) {S : World → Prop} (hS : ∀ w', Fr No w w' → S w') (Z : List Nat) (hm : Tryz.prog.follows .mixedOrders = true) (K : ∀ w', Hid (Gx gp w0 S0 w' L) → S w' → wpAnyE Tryz.prog .any ops Q S Z ops.size (Array.replicate ops.size false) a w') : (Code.region id ops true).wp Tryz.prog Q a w :=
  region_e S Z hm (hS _ (Fr.drew w)) (fun hH => K _ (no' h (Fr.drew w)) hH)
/-- a cell of a block, now and where nothing is written -/
theorem cl (n i : Nat) {c : List Value} {t : TypeId} {u : Value} (h : Hid (Gx gp w0 S0 w L)) (hn : nth L n = .blk g c t) (hi : c.toArray[i]? = some u) : ∀ w', Fr No w w' → w'.cell? ⟨g, i, none⟩ = some u := fun w' hf => (cell_of (hf.keeps (bk n h hn) no_one) i).trans hi
theorem cl' (n i : Nat) {c : List Value} {t : TypeId} {u : Value} (h : Hid (Gx gp w0 S0 w L)) (hn : nth L n = .blk g c t) (hi : c.toArray[i]? = some u) : w.cell? ⟨g, i, none⟩ = some u := (cell_of (bk n h hn) i).trans hi
theorem fz (n i : Nat) {c : List Value} {t : TypeId} (h : Hid (Gx gp w0 S0 w L)) (hn : nth L n = .blk g c t) : w.frozen? ⟨g, i, none⟩ = false := free_of (bk n h hn) i
/-- an operation that makes nothing, in a region that draws its order -/
theorem tk {ops : Array Oper} {Q : Exit → Act → World → Prop} {S : World → Prop} {Z : List Nat} {md : Region.Mode} (i : Nat) {d : Option Tmp} {op : Op} {t : TypeId} {u : Value} {fuel : Nat} {listed : Array Bool} {a : Act} {w : World} (hd : (ops[i]?).map (fun o => (o.dst, o.op, o.type)) = some (d, op, t)) (hS : S w)
    (h : wpAnyE Tryz.prog md ops Q S Z fuel (listed.setIfInBounds i true) (a.put d u) w) (hc : okB md ops Z listed i = true)
    (hw : (ops[i]?).map (fun o => Region.wanted o (yielded ops a.tmps)) = some true) (hQ : ∀ c a w, Q (.panic c) (a.put d u) w → Q (.panic c) a w)
    (hy : ∀ w, S w → (execOp a.eval { dst := d, op := op, type := t, pos := "", after := #[], guard := none }).run Tryz.prog w = .ok (.value u) w) : wpAnyE Tryz.prog md ops Q S Z (fuel + 1) listed a w := take_op i d op t u hc hd hw hQ hy hS h
theorem tkf {ops : Array Oper} {Q : Exit → Act → World → Prop} {S : World → Prop} {Z : List Nat} {md : Region.Mode} (i : Nat) {d : Option Tmp} {op : Op} {t : TypeId} {u : Value} {fuel : Nat} {listed : Array Bool} {a : Act} {w : World} (hd : (ops[i]?).map (fun o => (o.dst, o.op, o.type)) = some (d, op, t)) (hS : S w)
    (h : wpAnyE Tryz.prog md ops Q S Z fuel (listed.setIfInBounds i true) (a.put d u) w) (hc : okB md ops Z listed i = true)
    (hw : (ops[i]?).map (fun o => Region.wanted o (yielded ops a.tmps)) = some true) (hQ : ∀ c a w, Q (.panic c) (a.put d u) w → Q (.panic c) a w)
    (hy : ∀ w, S w → (execOp a.eval { dst := d, op := op, type := t, pos := "", after := #[], guard := none }).run Tryz.prog w = .ok (.value u) w) : wpAnyE Tryz.prog md ops Q S Z (fuel + 1) listed a w := take_op i d op t u hc hd hw hQ hy hS h
/-- slots written -/
theorem SA : (∀ (a : Act) (d : Tmp) (u : Value), Act.put a (some d) u = { a with tmps := a.tmps.setIfInBounds d u }) ∧ (∀ (a : Act) (u : Value), Act.put a none u = a) ∧ (∀ (l : List Value) (i : Nat) (u : Value), l.toArray.setIfInBounds i u = (l.set i u).toArray) ∧ (∀ (x : Value) (l : List Value) (u : Value), (x :: l).set 0 u = u :: l) ∧ (∀ (x : Value) (l : List Value) (i : Nat) (u : Value), (x :: l).set (i + 1) u = x :: l.set i u) ∧ (∀ (l : List Bool) (i : Nat) (u : Bool), l.toArray.setIfInBounds i u = (l.set i u).toArray) ∧ (∀ (x : Bool) (l : List Bool) (u : Bool), (x :: l).set 0 u = u :: l) ∧ (∀ (x : Bool) (l : List Bool) (i : Nat) (u : Bool), (x :: l).set (i + 1) u = x :: l.set i u) :=
  ⟨fun _ _ _ => rfl, fun _ _ => rfl, fun _ _ _ => List.setIfInBounds_toArray .., fun _ _ _ => rfl, fun _ _ _ _ => rfl, fun _ _ _ => List.setIfInBounds_toArray .., fun _ _ _ => rfl, fun _ _ _ _ => rfl⟩
end
end
section
variable {ops : Array Oper} {Q : Exit → Act → World → Prop} {S : World → Prop} {Z : List Nat} {md : Region.Mode} {fuel : Nat} {listed : Array Bool} {a : Act} {w : World} {o : Oper}
theorem rdm (i : Nat) (hr : Region.ready md ops listed = [i]) (ho : ops[i]? = some o)
    (h : ∀ K' : Act → World → Prop, Shut (∀ a w, S w → (S w → wpAnyE Tryz.prog md ops Q S Z fuel (listed.setIfInBounds i true) a w) → K' a w) → if Region.wanted o (yielded ops a.tmps) = true then Oper.wp Tryz.prog o a w K' Q else K' (a.put o.dst undef) w) : wpAnyE Tryz.prog md ops Q S Z (fuel + 1) listed a w := ready_e hr (by simp) (do_mid ho h none_e)
theorem rdl (i : Nat) (hr : Region.ready md ops listed = [i]) (ho : ops[i]? = some o) (hz : Z.contains i = true)
    (h : ∀ K' : Act → World → Prop, Shut (∀ a w, wpAnyE Tryz.prog md ops Q S Z fuel (listed.setIfInBounds i true) a w → K' a w) → if Region.wanted o (yielded ops a.tmps) = true then Oper.wp Tryz.prog o a w K' Q else K' (a.put o.dst undef) w) : wpAnyE Tryz.prog md ops Q S Z (fuel + 1) listed a w := ready_e hr (by simp) (do_late ho hz h none_e)
end
theorem kq {k : Nat} {z : Int} (h : (k : Int) = z) : ((k : Int) == z) = true ∧ ((k : Int) != z) = false := by simp [h]
theorem kn' {k : Nat} {z : Int} (h : ¬ (k : Int) = z) : ((k : Int) == z) = false ∧ ((k : Int) != z) = true := by simp [h]
theorem rk {r s t : Nat} {b : Bool} (h : r < s) (he : Hid (t = s)) : r < t ∨ b = false := .inl (he.out ▸ h)
theorem az {w w' : World} {o : Obj} {g g2 : Nat} (hn : w.alloc o = w') (hg : w.heap.size = g) (h : g + 1 = g2) : w'.heap.size = g2 := by rw [← hn, ← h, ← hg]; exact size_alloc _ _
theorem d2 {w : World} {g : Nat} {x0 x1 : Value} {t : TypeId} (h : w.heap[g]? = some (.cells [x0, x1].toArray t (0, 0))) : w.cell? ⟨g, 0, none⟩ = some x0 ∧ w.cell? ⟨g, 1, none⟩ = some x1 ∧ w.frozen? ⟨g, 0, none⟩ = false ∧ w.frozen? ⟨g, 1, none⟩ = false := ⟨cell_of h 0, cell_of h 1, free_of h 0, free_of h 1⟩
theorem d3 {w : World} {g : Nat} {x0 x1 x2 : Value} {t : TypeId} (h : w.heap[g]? = some (.cells [x0, x1, x2].toArray t (0, 0))) : w.cell? ⟨g, 0, none⟩ = some x0 ∧ w.cell? ⟨g, 1, none⟩ = some x1 ∧ w.cell? ⟨g, 2, none⟩ = some x2 ∧ w.frozen? ⟨g, 0, none⟩ = false ∧ w.frozen? ⟨g, 1, none⟩ = false ∧ w.frozen? ⟨g, 2, none⟩ = false := ⟨cell_of h 0, cell_of h 1, cell_of h 2, free_of h 0, free_of h 1, free_of h 2⟩
theorem d4 {w : World} {g : Nat} {x0 x1 x2 x3 : Value} {t : TypeId} (h : w.heap[g]? = some (.cells [x0, x1, x2, x3].toArray t (0, 0))) : w.cell? ⟨g, 0, none⟩ = some x0 ∧ w.cell? ⟨g, 1, none⟩ = some x1 ∧ w.cell? ⟨g, 2, none⟩ = some x2 ∧ w.cell? ⟨g, 3, none⟩ = some x3 ∧ w.frozen? ⟨g, 0, none⟩ = false ∧ w.frozen? ⟨g, 1, none⟩ = false ∧ w.frozen? ⟨g, 2, none⟩ = false ∧ w.frozen? ⟨g, 3, none⟩ = false := ⟨cell_of h 0, cell_of h 1, cell_of h 2, cell_of h 3, free_of h 0, free_of h 1, free_of h 2, free_of h 3⟩
theorem d6 {w : World} {g : Nat} {x0 x1 x2 x3 x4 x5 : Value} {t : TypeId} (h : w.heap[g]? = some (.cells [x0, x1, x2, x3, x4, x5].toArray t (0, 0))) : w.cell? ⟨g, 0, none⟩ = some x0 ∧ w.cell? ⟨g, 1, none⟩ = some x1 ∧ w.cell? ⟨g, 2, none⟩ = some x2 ∧ w.cell? ⟨g, 3, none⟩ = some x3 ∧ w.cell? ⟨g, 4, none⟩ = some x4 ∧ w.cell? ⟨g, 5, none⟩ = some x5 ∧ w.frozen? ⟨g, 0, none⟩ = false ∧ w.frozen? ⟨g, 1, none⟩ = false ∧ w.frozen? ⟨g, 2, none⟩ = false ∧ w.frozen? ⟨g, 3, none⟩ = false ∧ w.frozen? ⟨g, 4, none⟩ = false ∧ w.frozen? ⟨g, 5, none⟩ = false := ⟨cell_of h 0, cell_of h 1, cell_of h 2, cell_of h 3, cell_of h 4, cell_of h 5, free_of h 0, free_of h 1, free_of h 2, free_of h 3, free_of h 4, free_of h 5⟩
theorem d7 {w : World} {g : Nat} {x0 x1 x2 x3 x4 x5 x6 : Value} {t : TypeId} (h : w.heap[g]? = some (.cells [x0, x1, x2, x3, x4, x5, x6].toArray t (0, 0))) : w.cell? ⟨g, 0, none⟩ = some x0 ∧ w.cell? ⟨g, 1, none⟩ = some x1 ∧ w.cell? ⟨g, 2, none⟩ = some x2 ∧ w.cell? ⟨g, 3, none⟩ = some x3 ∧ w.cell? ⟨g, 4, none⟩ = some x4 ∧ w.cell? ⟨g, 5, none⟩ = some x5 ∧ w.cell? ⟨g, 6, none⟩ = some x6 ∧ w.frozen? ⟨g, 0, none⟩ = false ∧ w.frozen? ⟨g, 1, none⟩ = false ∧ w.frozen? ⟨g, 2, none⟩ = false ∧ w.frozen? ⟨g, 3, none⟩ = false ∧ w.frozen? ⟨g, 4, none⟩ = false ∧ w.frozen? ⟨g, 5, none⟩ = false ∧ w.frozen? ⟨g, 6, none⟩ = false := ⟨cell_of h 0, cell_of h 1, cell_of h 2, cell_of h 3, cell_of h 4, cell_of h 5, cell_of h 6, free_of h 0, free_of h 1, free_of h 2, free_of h 3, free_of h 4, free_of h 5, free_of h 6⟩
theorem d9 {w : World} {g : Nat} {x0 x1 x2 x3 x4 x5 x6 x7 x8 : Value} {t : TypeId} (h : w.heap[g]? = some (.cells [x0, x1, x2, x3, x4, x5, x6, x7, x8].toArray t (0, 0))) : w.cell? ⟨g, 0, none⟩ = some x0 ∧ w.cell? ⟨g, 1, none⟩ = some x1 ∧ w.cell? ⟨g, 2, none⟩ = some x2 ∧ w.cell? ⟨g, 3, none⟩ = some x3 ∧ w.cell? ⟨g, 4, none⟩ = some x4 ∧ w.cell? ⟨g, 5, none⟩ = some x5 ∧ w.cell? ⟨g, 6, none⟩ = some x6 ∧ w.cell? ⟨g, 7, none⟩ = some x7 ∧ w.cell? ⟨g, 8, none⟩ = some x8 ∧ w.frozen? ⟨g, 0, none⟩ = false ∧ w.frozen? ⟨g, 1, none⟩ = false ∧ w.frozen? ⟨g, 2, none⟩ = false ∧ w.frozen? ⟨g, 3, none⟩ = false ∧ w.frozen? ⟨g, 4, none⟩ = false ∧ w.frozen? ⟨g, 5, none⟩ = false ∧ w.frozen? ⟨g, 6, none⟩ = false ∧ w.frozen? ⟨g, 7, none⟩ = false ∧ w.frozen? ⟨g, 8, none⟩ = false := ⟨cell_of h 0, cell_of h 1, cell_of h 2, cell_of h 3, cell_of h 4, cell_of h 5, cell_of h 6, cell_of h 7, cell_of h 8, free_of h 0, free_of h 1, free_of h 2, free_of h 3, free_of h 4, free_of h 5, free_of h 6, free_of h 7, free_of h 8⟩
theorem d11 {w : World} {g : Nat} {x0 x1 x2 x3 x4 x5 x6 x7 x8 x9 x10 : Value} {t : TypeId} (h : w.heap[g]? = some (.cells [x0, x1, x2, x3, x4, x5, x6, x7, x8, x9, x10].toArray t (0, 0))) : w.cell? ⟨g, 0, none⟩ = some x0 ∧ w.cell? ⟨g, 1, none⟩ = some x1 ∧ w.cell? ⟨g, 2, none⟩ = some x2 ∧ w.cell? ⟨g, 3, none⟩ = some x3 ∧ w.cell? ⟨g, 4, none⟩ = some x4 ∧ w.cell? ⟨g, 5, none⟩ = some x5 ∧ w.cell? ⟨g, 6, none⟩ = some x6 ∧ w.cell? ⟨g, 7, none⟩ = some x7 ∧ w.cell? ⟨g, 8, none⟩ = some x8 ∧ w.cell? ⟨g, 9, none⟩ = some x9 ∧ w.cell? ⟨g, 10, none⟩ = some x10 ∧ w.frozen? ⟨g, 0, none⟩ = false ∧ w.frozen? ⟨g, 1, none⟩ = false ∧ w.frozen? ⟨g, 2, none⟩ = false ∧ w.frozen? ⟨g, 3, none⟩ = false ∧ w.frozen? ⟨g, 4, none⟩ = false ∧ w.frozen? ⟨g, 5, none⟩ = false ∧ w.frozen? ⟨g, 6, none⟩ = false ∧ w.frozen? ⟨g, 7, none⟩ = false ∧ w.frozen? ⟨g, 8, none⟩ = false ∧ w.frozen? ⟨g, 9, none⟩ = false ∧ w.frozen? ⟨g, 10, none⟩ = false := ⟨cell_of h 0, cell_of h 1, cell_of h 2, cell_of h 3, cell_of h 4, cell_of h 5, cell_of h 6, cell_of h 7, cell_of h 8, cell_of h 9, cell_of h 10, free_of h 0, free_of h 1, free_of h 2, free_of h 3, free_of h 4, free_of h 5, free_of h 6, free_of h 7, free_of h 8, free_of h 9, free_of h 10⟩
theorem d16 {w : World} {g : Nat} {x0 x1 x2 x3 x4 x5 x6 x7 x8 x9 x10 x11 x12 x13 x14 x15 : Value} {t : TypeId} (h : w.heap[g]? = some (.cells [x0, x1, x2, x3, x4, x5, x6, x7, x8, x9, x10, x11, x12, x13, x14, x15].toArray t (0, 0))) : w.cell? ⟨g, 0, none⟩ = some x0 ∧ w.cell? ⟨g, 1, none⟩ = some x1 ∧ w.cell? ⟨g, 2, none⟩ = some x2 ∧ w.cell? ⟨g, 3, none⟩ = some x3 ∧ w.cell? ⟨g, 4, none⟩ = some x4 ∧ w.cell? ⟨g, 5, none⟩ = some x5 ∧ w.cell? ⟨g, 6, none⟩ = some x6 ∧ w.cell? ⟨g, 7, none⟩ = some x7 ∧ w.cell? ⟨g, 8, none⟩ = some x8 ∧ w.cell? ⟨g, 9, none⟩ = some x9 ∧ w.cell? ⟨g, 10, none⟩ = some x10 ∧ w.cell? ⟨g, 11, none⟩ = some x11 ∧ w.cell? ⟨g, 12, none⟩ = some x12 ∧ w.cell? ⟨g, 13, none⟩ = some x13 ∧ w.cell? ⟨g, 14, none⟩ = some x14 ∧ w.cell? ⟨g, 15, none⟩ = some x15 ∧ w.frozen? ⟨g, 0, none⟩ = false ∧ w.frozen? ⟨g, 1, none⟩ = false ∧ w.frozen? ⟨g, 2, none⟩ = false ∧ w.frozen? ⟨g, 3, none⟩ = false ∧ w.frozen? ⟨g, 4, none⟩ = false ∧ w.frozen? ⟨g, 5, none⟩ = false ∧ w.frozen? ⟨g, 6, none⟩ = false ∧ w.frozen? ⟨g, 7, none⟩ = false ∧ w.frozen? ⟨g, 8, none⟩ = false ∧ w.frozen? ⟨g, 9, none⟩ = false ∧ w.frozen? ⟨g, 10, none⟩ = false ∧ w.frozen? ⟨g, 11, none⟩ = false ∧ w.frozen? ⟨g, 12, none⟩ = false ∧ w.frozen? ⟨g, 13, none⟩ = false ∧ w.frozen? ⟨g, 14, none⟩ = false ∧ w.frozen? ⟨g, 15, none⟩ = false := ⟨cell_of h 0, cell_of h 1, cell_of h 2, cell_of h 3, cell_of h 4, cell_of h 5, cell_of h 6, cell_of h 7, cell_of h 8, cell_of h 9, cell_of h 10, cell_of h 11, cell_of h 12, cell_of h 13, cell_of h 14, cell_of h 15, free_of h 0, free_of h 1, free_of h 2, free_of h 3, free_of h 4, free_of h 5, free_of h 6, free_of h 7, free_of h 8, free_of h 9, free_of h 10, free_of h 11, free_of h 12, free_of h 13, free_of h 14, free_of h 15⟩
theorem e4 {w : World} {g : Nat} {x0 x1 x2 x3 : Value} {t : TypeId} (h : w.heap[g]? = some (.cells [x0, x1, x2, x3].toArray t (0, 0))) : ∀ w', Fr No w w' → w'.cell? ⟨g, 0, none⟩ = some x0 ∧ w'.cell? ⟨g, 1, none⟩ = some x1 ∧ w'.cell? ⟨g, 2, none⟩ = some x2 ∧ w'.cell? ⟨g, 3, none⟩ = some x3 := fun w' hf => ⟨cell_of (hf.keeps h no_one) 0, cell_of (hf.keeps h no_one) 1, cell_of (hf.keeps h no_one) 2, cell_of (hf.keeps h no_one) 3⟩
theorem e7 {w : World} {g : Nat} {x0 x1 x2 x3 x4 x5 x6 : Value} {t : TypeId} (h : w.heap[g]? = some (.cells [x0, x1, x2, x3, x4, x5, x6].toArray t (0, 0))) : ∀ w', Fr No w w' → w'.cell? ⟨g, 0, none⟩ = some x0 ∧ w'.cell? ⟨g, 1, none⟩ = some x1 ∧ w'.cell? ⟨g, 2, none⟩ = some x2 ∧ w'.cell? ⟨g, 3, none⟩ = some x3 ∧ w'.cell? ⟨g, 4, none⟩ = some x4 ∧ w'.cell? ⟨g, 5, none⟩ = some x5 ∧ w'.cell? ⟨g, 6, none⟩ = some x6 := fun w' hf => ⟨cell_of (hf.keeps h no_one) 0, cell_of (hf.keeps h no_one) 1, cell_of (hf.keeps h no_one) 2, cell_of (hf.keeps h no_one) 3, cell_of (hf.keeps h no_one) 4, cell_of (hf.keeps h no_one) 5, cell_of (hf.keeps h no_one) 6⟩
theorem an {w : World} {S T : World → Prop} (h : ∀ w', Fr No w w' → S w') (k : ∀ w', Fr No w w' → T w') : ∀ w', Fr No w w' → S w' ∧ T w' := fun w' hf => ⟨h w' hf, k w' hf⟩
section
variable {β : Type} {v : Vw} {e : Ev β} {w : World} {q : Nat} {b : Bool} {L : List It} {Post : Ending → World → Prop}
theorem callT {r : Nat} {f : FuncId} {args : List Value} {m1 : Pr T} {K : T → Pr β} (h : Hid (Cx v e w q b L (m1.bind K))) (F : QC v r f args (stE xT) m1) (hr : r < e.r ∨ e.b = false) (kk : ∀ w' q' b' t (k : Nat) (s : ByteArray) (n : Int) (b1 : Option Addr) (m1 c1 : Nat), q ≤ q' → Hid (Cx v e w' q' b' (.val (xT t) [.int .u8 k, .string s, .int .i64 n, .slice b1 m1 c1] :: L) (K t)) → Post (.returned (.agg #[.int .u8 k, .string s, .int .i64 n, .slice b1 m1 c1])) w') : Calls Tryz.prog f (v.ptr :: args).toArray w Post :=
  call' h F hr (fun w' q' b' t cs hs hx => by
    obtain ⟨k, s, n, b1, m1, c1, rfl⟩ := hcT (vl 0 hx rfl)
    exact kk w' q' b' t _ _ _ _ _ _ (step_mono hs) hx)
theorem callE {r : Nat} {f : FuncId} {args : List Value} {m1 : Pr E} {K : E → Pr β} (h : Hid (Cx v e w q b L (m1.bind K))) (F : QC v r f args (stE xE) m1) (hr : r < e.r ∨ e.b = false) (kk : ∀ w' q' b' t (k : Nat) (s : ByteArray) (n : Int) (u : ByteArray) (b1 : Option Addr) (m1 c1 : Nat) (b2 : Option Addr) (m2 c2 : Nat) (b3 : Option Addr) (m3 c3 : Nat), q ≤ q' → Hid (Cx v e w' q' b' (.val (xE t) [.int .u8 k, .string s, .int .i64 n, .string u, .slice b1 m1 c1, .slice b2 m2 c2, .slice b3 m3 c3] :: L) (K t)) → Post (.returned (.agg #[.int .u8 k, .string s, .int .i64 n, .string u, .slice b1 m1 c1, .slice b2 m2 c2, .slice b3 m3 c3])) w') : Calls Tryz.prog f (v.ptr :: args).toArray w Post :=
  call' h F hr (fun w' q' b' t cs hs hx => by
    obtain ⟨k, s, n, u, b1, m1, c1, b2, m2, c2, b3, m3, c3, rfl⟩ := hcE (vl 0 hx rfl)
    exact kk w' q' b' t _ _ _ _ _ _ _ _ _ _ _ _ _ (step_mono hs) hx)
theorem callR {r : Nat} {f : FuncId} {args : List Value} {m1 : Pr R} {K : R → Pr β} (h : Hid (Cx v e w q b L (m1.bind K))) (F : QC v r f args (stE xR) m1) (hr : r < e.r ∨ e.b = false) (kk : ∀ w' q' b' t (k : Nat) (s : ByteArray) (n : Int) (b1 : Option Addr) (m1 c1 : Nat) (k2 : Nat) (s2 : ByteArray) (n2 : Int) (u : ByteArray) (b4 : Option Addr) (m4 c4 : Nat) (b5 : Option Addr) (m5 c5 : Nat) (b6 : Option Addr) (m6 c6 : Nat), q ≤ q' → Hid (Cx v e w' q' b' (.val (xR t) [.int .u8 k, .string s, .int .i64 n, .slice b1 m1 c1, .int .u8 k2, .string s2, .int .i64 n2, .string u, .slice b4 m4 c4, .slice b5 m5 c5, .slice b6 m6 c6] :: L) (K t)) → Post (.returned (.agg #[.int .u8 k, .string s, .int .i64 n, .slice b1 m1 c1, .int .u8 k2, .string s2, .int .i64 n2, .string u, .slice b4 m4 c4, .slice b5 m5 c5, .slice b6 m6 c6])) w') : Calls Tryz.prog f (v.ptr :: args).toArray w Post :=
  call' h F hr (fun w' q' b' t cs hs hx => by
    obtain ⟨k, s, n, b1, m1, c1, k2, s2, n2, u, b4, m4, c4, b5, m5, c5, b6, m6, c6, rfl⟩ := hcR (vl 0 hx rfl)
    exact kk w' q' b' t _ _ _ _ _ _ _ _ _ _ _ _ _ _ _ _ _ _ _ (step_mono hs) hx)
theorem callC {r : Nat} {f : FuncId} {args : List Value} {m1 : Pr C} {K : C → Pr β} (h : Hid (Cx v e w q b L (m1.bind K))) (F : QC v r f args (stE xC) m1) (hr : r < e.r ∨ e.b = false) (kk : ∀ w' q' b' t (z : ByteArray) (y : Bool) (k : Nat) (s : ByteArray) (n : Int) (b1 : Option Addr) (m1 c1 : Nat), q ≤ q' → Hid (Cx v e w' q' b' (.val (xC t) [.string z, .bool y, .int .u8 k, .string s, .int .i64 n, .slice b1 m1 c1] :: L) (K t)) → Post (.returned (.agg #[.string z, .bool y, .int .u8 k, .string s, .int .i64 n, .slice b1 m1 c1])) w') : Calls Tryz.prog f (v.ptr :: args).toArray w Post :=
  call' h F hr (fun w' q' b' t cs hs hx => by
    obtain ⟨z, y, k, s, n, b1, m1, c1, rfl⟩ := hcC (vl 0 hx rfl)
    exact kk w' q' b' t _ _ _ _ _ _ _ _ (step_mono hs) hx)
theorem callF {r : Nat} {f : FuncId} {args : List Value} {m1 : Pr F} {K : F → Pr β} (h : Hid (Cx v e w q b L (m1.bind K))) (F : QC v r f args (stE xF) m1) (hr : r < e.r ∨ e.b = false) (kk : ∀ w' q' b' t (z : ByteArray) (a7 : Option Addr) (m7 c7 : Nat) (k2 : Nat) (s2 : ByteArray) (n2 : Int) (u : ByteArray) (b4 : Option Addr) (m4 c4 : Nat) (b5 : Option Addr) (m5 c5 : Nat) (b6 : Option Addr) (m6 c6 : Nat), q ≤ q' → Hid (Cx v e w' q' b' (.val (xF t) [.string z, .slice a7 m7 c7, .int .u8 k2, .string s2, .int .i64 n2, .string u, .slice b4 m4 c4, .slice b5 m5 c5, .slice b6 m6 c6] :: L) (K t)) → Post (.returned (.agg #[.string z, .slice a7 m7 c7, .int .u8 k2, .string s2, .int .i64 n2, .string u, .slice b4 m4 c4, .slice b5 m5 c5, .slice b6 m6 c6])) w') : Calls Tryz.prog f (v.ptr :: args).toArray w Post :=
  call' h F hr (fun w' q' b' t cs hs hx => by
    obtain ⟨z, a7, m7, c7, k2, s2, n2, u, b4, m4, c4, b5, m5, c5, b6, m6, c6, rfl⟩ := hcF (vl 0 hx rfl)
    exact kk w' q' b' t _ _ _ _ _ _ _ _ _ _ _ _ _ _ _ _ _ (step_mono hs) hx)
theorem callD {r : Nat} {f : FuncId} {args : List Value} {m1 : Pr D} {K : D → Pr β} (h : Hid (Cx v e w q b L (m1.bind K))) (F : QC v r f args (stE xD) m1) (hr : r < e.r ∨ e.b = false) (kk : ∀ w' q' b' t (z0 : Nat) (z : ByteArray) (a7 : Option Addr) (m7 c7 : Nat) (a8 : Option Addr) (m8 c8 : Nat) (a9 : Option Addr) (m9 c9 : Nat) (k : Nat) (s : ByteArray) (n : Int) (b1 : Option Addr) (m1 c1 : Nat) (k2 : Nat) (s2 : ByteArray) (n2 : Int) (u : ByteArray) (b4 : Option Addr) (m4 c4 : Nat) (b5 : Option Addr) (m5 c5 : Nat) (b6 : Option Addr) (m6 c6 : Nat), q ≤ q' → Hid (Cx v e w' q' b' (.val (xD t) [.int .u8 z0, .string z, .slice a7 m7 c7, .slice a8 m8 c8, .slice a9 m9 c9, .int .u8 k, .string s, .int .i64 n, .slice b1 m1 c1, .int .u8 k2, .string s2, .int .i64 n2, .string u, .slice b4 m4 c4, .slice b5 m5 c5, .slice b6 m6 c6] :: L) (K t)) → Post (.returned (.agg #[.int .u8 z0, .string z, .slice a7 m7 c7, .slice a8 m8 c8, .slice a9 m9 c9, .int .u8 k, .string s, .int .i64 n, .slice b1 m1 c1, .int .u8 k2, .string s2, .int .i64 n2, .string u, .slice b4 m4 c4, .slice b5 m5 c5, .slice b6 m6 c6])) w') : Calls Tryz.prog f (v.ptr :: args).toArray w Post :=
  call' h F hr (fun w' q' b' t cs hs hx => by
    obtain ⟨z0, z, a7, m7, c7, a8, m8, c8, a9, m9, c9, k, s, n, b1, m1, c1, k2, s2, n2, u, b4, m4, c4, b5, m5, c5, b6, m6, c6, rfl⟩ := hcD (vl 0 hx rfl)
    exact kk w' q' b' t _ _ _ _ _ _ _ _ _ _ _ _ _ _ _ _ _ _ _ _ _ _ _ _ _ _ _ _ _ _ (step_mono hs) hx)
theorem callEp {r : Nat} {f : FuncId} {args : List Value} {m1 : Pr E} {K : E → Pr β} (h : Hid (Cx v e w q b L (m1.bind K))) (F : QC v r f args (stE xE) m1) (hr : r < e.r ∨ e.b = false) (hp : ∀ (p q : Nat) (x : E), m1.run v.l p = .ok x q → p < q) (kk : ∀ w' q' b' t (k : Nat) (s : ByteArray) (n : Int) (u : ByteArray) (b1 : Option Addr) (m1 c1 : Nat) (b2 : Option Addr) (m2 c2 : Nat) (b3 : Option Addr) (m3 c3 : Nat), q ≤ q' → Hid (b' = false → q < q') → Hid (Cx v e w' q' b' (.val (xE t) [.int .u8 k, .string s, .int .i64 n, .string u, .slice b1 m1 c1, .slice b2 m2 c2, .slice b3 m3 c3] :: L) (K t)) → Post (.returned (.agg #[.int .u8 k, .string s, .int .i64 n, .string u, .slice b1 m1 c1, .slice b2 m2 c2, .slice b3 m3 c3])) w') : Calls Tryz.prog f (v.ptr :: args).toArray w Post :=
  call' h F hr (fun w' q' b' t cs hs hx => by
    obtain ⟨k, s, n, u, b1, m1, c1, b2, m2, c2, b3, m3, c3, rfl⟩ := hcE (vl 0 hx rfl)
    exact kk w' q' b' t _ _ _ _ _ _ _ _ _ _ _ _ _ (step_mono hs) (Lib.hid (step_prog hp hs)) hx)
end
structure QOks (v : Vw) (g : Gr) : Prop where
  ty : QC v 3 38 [] (stE xT) g.ty
  row : QC v 2 61 [] (stE xT) g.row
  post : QC v 1 88 [] (stE xT) g.post
  tyAtom : QC v 0 101 [] (stE xT) g.tyAtom
  exp : QC v 9 34 [] (stE xE) g.exp
  rule : QC v 10 85 [] (stE xR) g.rule
  level : ∀ n : Nat, n ≤ 5 → QC v (8 - n) 60 [.int .i64 n] (stE xE) (g.level n)
  calls : QC v 2 86 [] (stE xE) g.calls
  prefix_ : QC v 1 99 [] (stE xE) g.prefix_
  atom : QC v 0 107 [] (stE xE) g.atom
  let_ : QC v 10 111 [] (stE xE) g.let_
  pat : QC v 1 98 [] (stE xT) g.pat
  patAtom : QC v 0 106 [] (stE xT) g.patAtom
  dec : ∀ b : Bool, QC v 0 14 [.bool b] (stE xD) (g.dec b)
  con : QC v 4 37 [] (stE xC) g.con
  fun_ : QC v 10 35 [] (stE xF) g.fun_
end Go.Proofs.YtjabhmepafofmaaGreatDoor
namespace Go.Proofs.YtjabhmepafofmaaGreatDoor
open Go.RowKit
section
variable {β : Type} {v : Vw} {e : Ev β} {w w' : World} {q q' : Nat} {b b' : Bool} {L : List It} {m : Pr β} {Post : Ending → World → Prop}
theorem look' {K : Tok → Pr β} (h : Hid (Cx v e w q b L (next.bind K))) : Hid (Cx v e w q b L (K (rtok v.l q b))) := as' h (stepV rfl step_next)
theorem starts' (h : Hid (Cx v e w q b L m)) (k : ∀ w', Hid (Cx v e w' q b L m) → Post (.returned (.bool (Gr.startsB (rtok v.l q b)))) w') : Calls Tryz.prog 100 #[.pointer (some ⟨v.gp, 0, none⟩)] w Post := by
  refine (startsr h.out.par).mono ?_
  rintro _ w' ⟨rfl, hf⟩
  exact k w' (no' h hf)
theorem nt1 {l : List Tok} {p : Nat} {b : Bool} (h : signB (rtok l p b) ⟨#[33]⟩ = true) (hb : b = false) : true = seesB (l.getD p zTok) [⟨#[33]⟩, ⟨#[126]⟩] := by
  subst hb
  rw [nt_eq, show signB (l.getD p zTok) ⟨#[33]⟩ = true from h]
  rfl
theorem nt2 {l : List Tok} {p : Nat} {b : Bool} (h : signB (rtok l p b) ⟨#[33]⟩ = false) (hb : b = false) : signB (rtok l p b) ⟨#[126]⟩ = seesB (l.getD p zTok) [⟨#[33]⟩, ⟨#[126]⟩] := by
  subst hb
  rw [nt_eq, show signB (l.getD p zTok) ⟨#[33]⟩ = false from h]
  rfl
theorem k7 {t : Tok} {s : ByteArray} (h : signB t s = true) : t.kind = 7 := by
  unfold signB at h
  simp only [Bool.and_eq_true, decide_eq_true_eq] at h
  exact h.1
theorem k6 {t : Tok} {s : ByteArray} (h : wordB t s = true) : t.kind = 6 := by
  unfold wordB at h
  simp only [Bool.and_eq_true, decide_eq_true_eq] at h
  exact h.1
theorem known' {t : Tok} (h : Hid (Cx v e w q b L m)) (ht : Hid (rtok v.l q b = t)) (hk : t.kind ≠ 0) : Hid (Cx v e w q false L m) ∧ q < v.l.length := by
  obtain ⟨rfl, h2⟩ := rtok_lt (l := v.l) (p := q) (b := b) (by rw [ht.out]; exact hk)
  exact ⟨h, h2⟩
theorem skip_some {α : Type} {l : List Tok} {L : List ByteArray} {k : Bool → Pr α} {p : Nat} {V : Re α} (h : runS l ((skip L).bind k) p false = V) (hs : seesB (l.getD p zTok) L = true) : runS l (k true) (p + 1) false = V := by
  refine stepV h ?_
  show Pr.run l (if seesB (l.getD p zTok) L = true then _ else _ : Pr Bool) p = _
  rw [hs]
  rfl
theorem skipadv' {S : List ByteArray} {k : Bool → Pr β} (h : Hid (Cx v e w q false L ((skip S).bind k))) (hs : seesB (v.l.getD q zTok) S = true) : Hid (Cx v e w q false L (.adv (k true))) := as' h (skip_some rfl hs)
theorem skipno' {S : List ByteArray} {k : Bool → Pr β} (h : Hid (Cx v e w q b L ((skip S).bind k))) (hs : b = false → seesB (v.l.getD q zTok) S = false) : Hid (Cx v e w q b L (k false)) := as' h (skip_none rfl hs)
theorem tk_sees {l : List Tok} {q : Nat} {b : Bool} {t : Tok} {S : List ByteArray} (ht : Hid (rtok l q b = t)) (hk : t.kind = 7) (hs : seesB t S = true) : seesB (l.getD q zTok) S = true := by
  obtain ⟨rfl, _⟩ := rtok_lt (l := l) (p := q) (b := b) (by rw [ht.out, hk]; decide)
  rw [show l.getD q zTok = t from ht.out]
  exact hs
theorem tk_sees2 {l : List Tok} {q : Nat} {b c : Bool} {t : Tok} {S : List ByteArray} (ht : Hid (rtok l q b = t)) (hb : b = false) (hs : seesB t S = c) : seesB (l.getD q zTok) S = c := by
  subst hb
  rw [show l.getD q zTok = t from ht.out]
  exact hs
theorem num' {f : Int → β} {t : Tok} (h : Hid (Cx v e w q' b' L (.ret (f (rtok v.l q false).num)))) (ht : b' = false → t = v.l.getD q zTok) : Hid (Cx v e w q' b' L (.ret (f t.num))) := by
  cases b' with
  | true => exact any' h
  | false =>
    rw [ht rfl]
    exact h
theorem rnd' {P : Prop} (h : Hid (Cx v e w q false L m)) (hr : Hid (m = .out ∨ P)) : P := by
  rcases hr.out with h1 | h1
  · subst h1
    exact absurd rfl (ne' h)
  · exact h1
theorem rndb' {α : Type} {m1 : Pr α} {k : α → Pr β} {P : Prop} (h : Hid (Cx v e w q false L (m1.bind k))) (hr : Hid (m1 = .out ∨ P)) : P := by
  rcases hr.out with h1 | h1
  · subst h1
    exact absurd rfl (ne' h)
  · exact h1
theorem mayb' {S : List ByteArray} {is : Bool} {k : Bool → Pr β} (h : Hid (Cx v e w q b L ((skip S).bind k))) (hc : b = false → is = seesB (v.l.getD q zTok) S) (kk : ∀ w' t q', Hid (t = true → b = false) → Hid (Cx v e w' q' b L (k t)) → Post (.returned (.bool t)) w') : Calls Tryz.prog 31 #[.pointer (some ⟨v.gp, 0, none⟩), .bool is] w Post := by
  refine (mayC h.out.par S is hc).mono ?_
  rintro _ w' ⟨t, q', rfl, hst, hf, hp, h1, _⟩
  exact kk w' t q' (Lib.hid fun x => (h1 x).1) (Lib.hid (h.out.go hf hp hst))
theorem mayn' {S : List ByteArray} {is : Bool} {A B : Pr β} (h : Hid (Cx v e w q b L ((skip S).bind fun x => if x = true then A else B))) (hc : b = false → is = seesB (v.l.getD q zTok) S) (hw : Hid (is = false)) (k : ∀ w', Hid (Cx v e w' q b L B) → Post (.returned (.bool false)) w') : Calls Tryz.prog 31 #[.pointer (some ⟨v.gp, 0, none⟩), .bool is] w Post := by
  have h2 := neg' (skipno' h (fun hb => by rw [← hc hb]; exact hw.out)) (by decide)
  rw [hw.out]
  exact mayf' h2 k
theorem mayy' {S : List ByteArray} {is : Bool} {A B : Pr β} (h : Hid (Cx v e w q b L ((skip S).bind fun x => if x = true then A else B))) (hc : b = false → is = seesB (v.l.getD q zTok) S) (hw : Hid (is = true)) (hb : is = true → b = false ∧ q < v.l.length) (k : ∀ w', Hid (Cx v e w' (q + 1) false L A) → Post (.returned (.bool true)) w') : Calls Tryz.prog 31 #[.pointer (some ⟨v.gp, 0, none⟩), .bool is] w Post := by
  obtain ⟨rfl, hlt⟩ := hb hw.out
  have h2 := skipadv' h (by rw [← hc rfl]; exact hw.out)
  rw [hw.out]
  exact mayt' h2 hlt (fun w' h3 => k w' (as' h3 rfl))
theorem word_lt {l : List Tok} {p : Nat} {b : Bool} {s : ByteArray} (h : wordB (rtok l p b) s = true) : b = false ∧ p < l.length := rtok_lt (l := l) (p := p) (b := b) (by rw [k6 h]; decide)
theorem startb {l : List Tok} {q : Nat} {b : Bool} (h : Gr.startsB (rtok l q b) = true) : b = false := by
  cases b with
  | true => cases h
  | false => rfl
end
end Go.Proofs.YtjabhmepafofmaaGreatDoor
