/- Fu -/
import Derived.Test.YtjabhmepafofmaaGreatDoorG03
set_option linter.unusedVariables false
set_option linter.unusedSimpArgs false
namespace Go.Proofs.YtjabhmepafofmaaGreatDoor
open Go.RowKit
/-- it comes to an end, at a place of the tokens or behind the last one; where it has something, at 'lo' or later -/
def EnR (l : List Tok) (lo : Nat) {α : Type} : Re α → Prop
 | .ok _ q => lo ≤ q ∧ q ≤ l.length
 | .fail q => q ≤ l.length
 | .out => False
structure En (l : List Tok) (lo : Nat) {α : Type} (m : Pr α) (p : Nat) : Prop where
 out : EnR l lo (m.run l p)
theorem lt_of_kind {l : List Tok} {p k : Nat} (hk : k ≠ 0) (h : (l.getD p zTok).kind = k) : p + 1 ≤ l.length := by
 rcases Nat.lt_or_ge p l.length with h1 | h1
 ·
  exact h1
 ·
  rw [getD_end h1] at h
  exact absurd h.symm hk
theorem lt_of_sees {l : List Tok} {p : Nat} {ts : List ByteArray} (h : seesB (l.getD p zTok) ts = true) : p + 1 ≤ l.length := by
 rcases Nat.lt_or_ge p l.length with h1 | h1
 ·
  exact h1
 ·
  rw [getD_end h1] at h
  simp [seesB, zTok] at h
section
variable {l : List Tok} {lo mid p : Nat} {α β : Type}
theorem En.ret {a : α} (h1 : p ≤ l.length) (h2 : lo ≤ p) : En l lo (.ret a) p := ⟨⟨h2, h1⟩⟩
theorem En.fail (h1 : p ≤ l.length) : En l lo (Pr.fail : Pr α) p := ⟨h1⟩
theorem En.adv {m : Pr α} (h : En l lo m (p + 1)) : En l lo (.adv m) p := ⟨h.out⟩
theorem En.bind {m : Pr α} {f : α → Pr β} (h : En l mid m p) (k : ∀ x q, mid ≤ q → q ≤ l.length → En l lo (f x) q) : En l lo (m.bind f) p := by
 have h := h.out
 refine ⟨?_⟩
 rw [run_bind]
 cases hr : m.run l p with
 | out => rw [hr] at h; exact h.elim
 | fail q => rw [hr] at h; exact h
 | ok x q => rw [hr] at h; exact (k x q h.1 h.2).out
theorem En.same {m : Pr α} (h : En l mid m p) (hl : lo ≤ mid) : En l lo m p := by
 have h := h.out
 refine ⟨?_⟩
 cases hr : m.run l p with
 | out => rw [hr] at h; exact h.elim
 | fail q => rw [hr] at h; exact h
 | ok x q => rw [hr] at h; exact ⟨Nat.le_trans hl h.1, h.2⟩
theorem En.sk {ts : List ByteArray} {f : Bool → Pr β} (h1 : p + 1 ≤ l.length → En l lo (f true) (p + 1)) (h2 : En l lo (f false) p) : En l lo ((skip ts).bind f) p := by
 refine ⟨?_⟩
 simp only [skip, Pr.bind, Pr.run]
 cases hs : seesB (l.getD p zTok) ts with
 | false => exact h2.out
 | true => exact (h1 (lt_of_sees hs)).out
theorem En.mu {s : ByteArray} {f : Unit → Pr β} (h0 : p ≤ l.length) (h1 : p + 1 ≤ l.length → En l lo (f ()) (p + 1)) : En l lo ((must s).bind f) p := by
 refine ⟨?_⟩
 simp only [must, Pr.bind, Pr.run]
 cases hs : seesB (l.getD p zTok) [s] with
 | false => exact h0
 | true => exact (h1 (lt_of_sees hs)).out
theorem En.tk {k : Nat} {f : ByteArray → Pr β} (hk : k ≠ 0) (h0 : p ≤ l.length) (h1 : ∀ s, p + 1 ≤ l.length → En l lo (f s) (p + 1)) : En l lo ((take k).bind f) p := by
 refine ⟨?_⟩
 simp only [take, Pr.bind, Pr.run]
 by_cases hs : (l.getD p zTok).kind = k
 ·
  rw [if_pos hs]; exact (h1 _ (lt_of_kind hk hs)).out
 ·
  rw [if_neg hs]; exact h0
theorem En.tk1 {k : Nat} (hk : k ≠ 0) (h0 : p ≤ l.length) (hl : lo ≤ p + 1) : En l lo (take k) p := by
 refine ⟨?_⟩
 simp only [take, Pr.run]
 by_cases hs : (l.getD p zTok).kind = k
 ·
  rw [if_pos hs]; exact ⟨hl, lt_of_kind hk hs⟩
 ·
  rw [if_neg hs]; exact h0
theorem En.nx {f : Tok → Pr β} (h : En l lo (f (l.getD p zTok)) p) : En l lo (next.bind f) p := ⟨h.out⟩
theorem En.ifs {c : Prop} [Decidable c] {m m2 : Pr α} (h1 : c → En l lo m p) (h2 : ¬ c → En l lo m2 p) : En l lo (if c then m else m2) p := by
 by_cases h : c
 ·
  rw [if_pos h]; exact h1 h
 ·
  rw [if_neg h]; exact h2 h
theorem En.kind {k : Nat} {m m2 : Pr α} (hk : k ≠ 0) (h1 : p + 1 ≤ l.length → En l lo m p) (h2 : En l lo m2 p) : En l lo (if (l.getD p zTok).kind = k then m else m2) p := En.ifs (fun h => h1 (lt_of_kind hk h)) (fun _ => h2)
theorem En.sees {ts : List ByteArray} {m m2 : Pr α} (h1 : p + 1 ≤ l.length → En l lo m p) (h2 : En l lo m2 p) : En l lo (if seesB (l.getD p zTok) ts = true then m else m2) p := En.ifs (fun h => h1 (lt_of_sees h)) (fun _ => h2)
theorem En.kindSees {k : Nat} {ts : List ByteArray} {m m2 : Pr α} (hk : k ≠ 0) (h1 : p + 1 ≤ l.length → En l lo m p) (h2 : En l lo m2 p) : En l lo (if (l.getD p zTok).kind = k ∨ seesB (l.getD p zTok) ts = true then m else m2) p :=
 En.ifs (fun h => h1 (h.elim (lt_of_kind hk) lt_of_sees)) (fun _ => h2)
theorem En.mo {b : ByteArray} {one : Pr α} (p0 : Nat) (h : ∀ q, p0 ≤ q → q ≤ l.length → En l (q + 1) one q) : ∀ (n : Nat) (acc : List α) (p : Nat), p0 ≤ p → p ≤ l.length → l.length + 1 ≤ n + p → En l p (more b one n acc) p
 | 0, _, _, _, _, h0 => by omega
 | n + 1, acc, p, hp0, hp, hn => by
  unfold more
  refine En.sk (fun h1 => ?_) (En.ret hp (Nat.le_refl _))
  refine En.bind (h _ (by omega) h1) fun x q h2 h3 => ?_
  exact (En.mo p0 h n _ q (by omega) h3 (by omega)).same (by omega)
theorem En.sm {b : ByteArray} {one : Pr α} {n : Nat} (hp : p ≤ l.length) (hn : l.length + 1 ≤ n + p) (h : ∀ q, p ≤ q → q ≤ l.length → En l (q + 1) one q) (hl : lo ≤ p + 1) : En l lo (some_ n b one) p := by
 unfold some_
 exact En.bind (h p (Nat.le_refl _) hp) fun x q h1 h2 => (En.mo p h n _ q (by omega) h2 (by omega)).same (by omega)
end
structure Enough (l : List Tok) (n : Nat) (g : Gr) : Prop where
 ty : ∀ p, p ≤ l.length → l.length * 40 + 4 ≤ n + p * 40 → En l (p + 1) g.ty p
 row : ∀ p, p ≤ l.length → l.length * 40 + 3 ≤ n + p * 40 → En l (p + 1) g.row p
 post : ∀ p, p ≤ l.length → l.length * 40 + 2 ≤ n + p * 40 → En l (p + 1) g.post p
 tyAtom : ∀ p, p ≤ l.length → l.length * 40 + 1 ≤ n + p * 40 → En l (p + 1) g.tyAtom p
 exp : ∀ p, p ≤ l.length → l.length * 40 + 10 ≤ n + p * 40 → En l (p + 1) g.exp p
 rule : ∀ p, p ≤ l.length → l.length * 40 + 3 ≤ n + p * 40 → En l (p + 1) g.rule p
 calls : ∀ p, p ≤ l.length → l.length * 40 + 3 ≤ n + p * 40 → En l (p + 1) g.calls p
 prefix_ : ∀ p, p ≤ l.length → l.length * 40 + 2 ≤ n + p * 40 → En l (p + 1) g.prefix_ p
 atom : ∀ p, p ≤ l.length → l.length * 40 + 1 ≤ n + p * 40 → En l (p + 1) g.atom p
 round : ∀ p, p ≤ l.length → l.length * 40 + 11 ≤ n + p * 40 → En l (p + 1) g.round p
 let_ : ∀ p, p ≤ l.length → l.length * 40 + 2 ≤ n + p * 40 → En l (p + 1) g.let_ p
 pat : ∀ p, p ≤ l.length → l.length * 40 + 2 ≤ n + p * 40 → En l (p + 1) g.pat p
 patAtom : ∀ p, p ≤ l.length → l.length * 40 + 1 ≤ n + p * 40 → En l (p + 1) g.patAtom p
 patRound : ∀ p, p ≤ l.length → l.length * 40 + 3 ≤ n + p * 40 → En l (p + 1) g.patRound p
 con : ∀ p, p ≤ l.length → l.length * 40 + 1 ≤ n + p * 40 → En l (p + 1) g.con p
 fun_ : ∀ p, p ≤ l.length → l.length * 40 + 1 ≤ n + p * 40 → En l (p + 1) g.fun_ p
 vars : ∀ p, p ≤ l.length → l.length * 40 + 1 ≤ n + p * 40 → En l (p) g.vars p
 level : ∀ lv p, lv ≤ 5 → p ≤ l.length → l.length * 40 + (9 - lv) ≤ n + p * 40 → En l (p + 1) (g.level lv) p
 dec : ∀ b p, p ≤ l.length → l.length * 40 + 1 ≤ n + p * 40 → En l (p + 1) (g.dec b) p
theorem names_en {l : List Tok} : ∀ (n : Nat) (t : T) (p : Nat), p ≤ l.length → l.length + 1 ≤ n + p → En l p (Gr.names n t) p
 | 0, _, _, _, h => by omega
 | n + 1, t, p, hp, hn => by
  unfold Gr.names
  refine En.nx (En.kind (by decide) (fun h1 => ?_) (En.ret hp (Nat.le_refl _)))
  refine En.tk (by decide) hp fun s h2 => ?_
  exact (names_en n _ (p + 1) h2 (by omega)).same (by omega)
theorem argsL_en {l : List Tok} : ∀ (n : Nat) (t : List ByteArray) (p : Nat), p ≤ l.length → l.length + 1 ≤ n + p → En l p (Gr.argsL n t) p
 | 0, _, _, _, h => by omega
 | n + 1, t, p, hp, hn => by
  unfold Gr.argsL
  refine En.nx (En.kind (by decide) (fun h1 => ?_) (En.ret hp (Nat.le_refl _)))
  refine En.tk (by decide) hp fun s h2 => ?_
  exact (argsL_en n _ (p + 1) h2 (by omega)).same (by omega)
theorem opsL_en {l : List Tok} {g : Gr} (lv p0 : Nat) (h : ∀ lv' q, (lv' = lv ∨ lv' = lv + 1) → p0 < q → q ≤ l.length → En l (q + 1) (g.level lv') q) : ∀ (n : Nat) (e : E) (p : Nat), p0 ≤ p → p ≤ l.length → l.length + 1 ≤ n + p → En l p (g.opsL lv n e) p
 | 0, _, _, _, _, h => by omega
 | n + 1, e, p, h0, hp, hn => by
  unfold Gr.opsL
  refine En.nx (En.sees (fun h1 => ?_) (En.ret hp (Nat.le_refl _)))
  refine En.adv (En.bind (h _ (p + 1) (by split <;> omega) (by omega) h1) fun x q h2 h3 => ?_)
  refine En.ifs (fun _ => ?_) (fun _ => En.ret h3 (by omega))
  exact (opsL_en lv p0 h n _ q (by omega) h3 (by omega)).same (by omega)
theorem lt_of_starts {l : List Tok} {p : Nat} (h : Gr.startsB (l.getD p zTok) = true) : p + 1 ≤ l.length := by
 simp only [Gr.startsB, Bool.or_eq_true, decide_eq_true_eq] at h
 rcases h with (((h | h) | h) | h) | h
 ·
  exact lt_of_kind (by decide) h
 ·
  exact lt_of_kind (by decide) h
 ·
  exact lt_of_kind (by decide) h
 ·
  exact lt_of_kind (by decide) h
 ·
  exact lt_of_sees h
theorem callsL_en {l : List Tok} {g : Gr} (p0 : Nat) (h : ∀ q, p0 ≤ q → q ≤ l.length → En l (q + 1) g.prefix_ q) : ∀ (n : Nat) (e : E) (p : Nat), p0 ≤ p → p ≤ l.length → l.length + 1 ≤ n + p → En l p (g.callsL n e) p
 | 0, _, _, _, _, h => by omega
 | n + 1, e, p, h0, hp, hn => by
  unfold Gr.callsL
  refine En.nx (En.ifs (fun hs => ?_) (fun _ => En.ret hp (Nat.le_refl _)))
  have h1 := lt_of_starts hs
  refine En.bind (h p h0 hp) fun x q h2 h3 => ?_
  exact (callsL_en p0 h n _ q (by omega) h3 (by omega)).same (by omega)
theorem decsL_en {l : List Tok} {g : Gr} (p0 : Nat) (h : ∀ q, p0 ≤ q → q ≤ l.length → En l (q + 1) (g.dec false) q) : ∀ (n : Nat) (e : List D) (p : Nat), p0 ≤ p → p ≤ l.length → l.length + 1 ≤ n + p → En l (p + 1) (g.decsL n e) p
 | 0, _, _, _, _, h => by omega
 | n + 1, e, p, h0, hp, hn => by
  unfold Gr.decsL
  refine En.bind (h p h0 hp) fun x q h2 h3 => ?_
  refine En.mu h3 fun h4 => ?_
  refine En.sk (fun h5 => En.ret h5 (by omega)) ?_
  exact (decsL_en p0 h n _ (q + 1) (by omega) h4 (by omega)).same (by omega)
set_option maxHeartbeats 400000 in
theorem ty_en {l : List Tok} {n : Nat} {g : Gr} (h : Enough l n g) (p : Nat) (hp : p ≤ l.length) (hn : l.length * 40 + 4 ≤ n + 1 + p * 40) : En l (p + 1) (g.pTy) p := by
 unfold Gr.pTy
 repeat' first
  | with_reducible exact En.ret (by omega) (by omega)
  | with_reducible exact En.fail (by omega)
  | with_reducible exact En.tk1 (by decide) (by omega) (by omega)
  | with_reducible refine En.sk (fun _ => ?_) ?_
  | with_reducible refine En.mu (by omega) (fun _ => ?_)
  | with_reducible refine En.tk (by decide) (by omega) (fun _ _ => ?_)
  | with_reducible refine En.nx ?_
  | with_reducible refine En.adv ?_
  | with_reducible refine En.kind (by decide) (fun _ => ?_) ?_
  | with_reducible refine En.sees (fun _ => ?_) ?_
  | with_reducible refine En.kindSees (by decide) (fun _ => ?_) ?_
  | with_reducible refine En.bind (mid := p + 1) (En.sm (by omega) (by omega) (fun q hq1 hq2 => h.ty q (by omega) (by omega)) (by omega)) (fun _ _ _ _ => ?_)
  | with_reducible exact (h.row _ (by omega) (by omega)).same (by omega)
  | with_reducible exact (h.ty _ (by omega) (by omega)).same (by omega)
  | with_reducible refine En.bind (h.row _ (by omega) (by omega)) (fun _ _ _ _ => ?_)
  | with_reducible refine En.bind (h.ty _ (by omega) (by omega)) (fun _ _ _ _ => ?_)
  | simp only [if_true, if_false, Bool.false_eq_true]
  | split
set_option maxHeartbeats 400000 in
theorem row_en {l : List Tok} {n : Nat} {g : Gr} (h : Enough l n g) (p : Nat) (hp : p ≤ l.length) (hn : l.length * 40 + 3 ≤ n + 1 + p * 40) : En l (p + 1) (g.pRow n) p := by
 unfold Gr.pRow
 repeat' first
  | with_reducible exact En.ret (by omega) (by omega)
  | with_reducible exact En.fail (by omega)
  | with_reducible exact En.tk1 (by decide) (by omega) (by omega)
  | with_reducible refine En.sk (fun _ => ?_) ?_
  | with_reducible refine En.mu (by omega) (fun _ => ?_)
  | with_reducible refine En.tk (by decide) (by omega) (fun _ _ => ?_)
  | with_reducible refine En.nx ?_
  | with_reducible refine En.adv ?_
  | with_reducible refine En.kind (by decide) (fun _ => ?_) ?_
  | with_reducible refine En.sees (fun _ => ?_) ?_
  | with_reducible refine En.kindSees (by decide) (fun _ => ?_) ?_
  | with_reducible refine En.bind (mid := p + 1) (En.sm (by omega) (by omega) (fun q hq1 hq2 => h.post q (by omega) (by omega)) (by omega)) (fun _ _ _ _ => ?_)
  | with_reducible exact (h.post _ (by omega) (by omega)).same (by omega)
  | with_reducible refine En.bind (h.post _ (by omega) (by omega)) (fun _ _ _ _ => ?_)
  | simp only [if_true, if_false, Bool.false_eq_true]
  | split
set_option maxHeartbeats 400000 in
theorem post_en {l : List Tok} {n : Nat} {g : Gr} (h : Enough l n g) (p : Nat) (hp : p ≤ l.length) (hn : l.length * 40 + 2 ≤ n + 1 + p * 40) : En l (p + 1) (g.pPost n) p := by
 unfold Gr.pPost
 repeat' first
  | with_reducible exact En.ret (by omega) (by omega)
  | with_reducible exact En.fail (by omega)
  | with_reducible exact En.tk1 (by decide) (by omega) (by omega)
  | with_reducible refine En.bind (h.tyAtom _ (by omega) (by omega)) (fun _ _ _ _ => (names_en _ _ _ (by omega) (by omega)).same (by omega))
  | with_reducible refine En.sk (fun _ => ?_) ?_
  | with_reducible refine En.mu (by omega) (fun _ => ?_)
  | with_reducible refine En.tk (by decide) (by omega) (fun _ _ => ?_)
  | with_reducible refine En.nx ?_
  | with_reducible refine En.adv ?_
  | with_reducible refine En.kind (by decide) (fun _ => ?_) ?_
  | with_reducible refine En.sees (fun _ => ?_) ?_
  | with_reducible refine En.kindSees (by decide) (fun _ => ?_) ?_
  | with_reducible exact (h.tyAtom _ (by omega) (by omega)).same (by omega)
  | with_reducible refine En.bind (h.tyAtom _ (by omega) (by omega)) (fun _ _ _ _ => ?_)
  | simp only [if_true, if_false, Bool.false_eq_true]
  | split
set_option maxHeartbeats 400000 in
theorem tyAtom_en {l : List Tok} {n : Nat} {g : Gr} (h : Enough l n g) (p : Nat) (hp : p ≤ l.length) (hn : l.length * 40 + 1 ≤ n + 1 + p * 40) : En l (p + 1) (g.pTyAtom n) p := by
 unfold Gr.pTyAtom
 repeat' first
  | with_reducible exact En.ret (by omega) (by omega)
  | with_reducible exact En.fail (by omega)
  | with_reducible exact En.tk1 (by decide) (by omega) (by omega)
  | with_reducible refine En.sk (fun _ => ?_) ?_
  | with_reducible refine En.mu (by omega) (fun _ => ?_)
  | with_reducible refine En.tk (by decide) (by omega) (fun _ _ => ?_)
  | with_reducible refine En.nx ?_
  | with_reducible refine En.adv ?_
  | with_reducible refine En.kind (by decide) (fun _ => ?_) ?_
  | with_reducible refine En.sees (fun _ => ?_) ?_
  | with_reducible refine En.kindSees (by decide) (fun _ => ?_) ?_
  | with_reducible refine En.bind (mid := p + 1) (En.sm (by omega) (by omega) (fun q hq1 hq2 => h.ty q (by omega) (by omega)) (by omega)) (fun _ _ _ _ => ?_)
  | with_reducible exact (h.ty _ (by omega) (by omega)).same (by omega)
  | with_reducible refine En.bind (h.ty _ (by omega) (by omega)) (fun _ _ _ _ => ?_)
  | simp only [if_true, if_false, Bool.false_eq_true]
  | split
set_option maxHeartbeats 400000 in
theorem exp_en {l : List Tok} {n : Nat} {g : Gr} (h : Enough l n g) (p : Nat) (hp : p ≤ l.length) (hn : l.length * 40 + 10 ≤ n + 1 + p * 40) : En l (p + 1) (g.pExp n) p := by
 unfold Gr.pExp
 repeat' first
  | with_reducible exact En.ret (by omega) (by omega)
  | with_reducible exact En.fail (by omega)
  | with_reducible exact En.tk1 (by decide) (by omega) (by omega)
  | with_reducible refine En.sk (fun _ => ?_) ?_
  | with_reducible refine En.mu (by omega) (fun _ => ?_)
  | with_reducible refine En.tk (by decide) (by omega) (fun _ _ => ?_)
  | with_reducible refine En.nx ?_
  | with_reducible refine En.adv ?_
  | with_reducible refine En.kind (by decide) (fun _ => ?_) ?_
  | with_reducible refine En.sees (fun _ => ?_) ?_
  | with_reducible refine En.kindSees (by decide) (fun _ => ?_) ?_
  | with_reducible refine En.bind (mid := p + 1) (En.sm (by omega) (by omega) (fun q hq1 hq2 => h.rule q (by omega) (by omega)) (by omega)) (fun _ _ _ _ => ?_)
  | with_reducible refine En.bind (mid := p + 1) (En.sm (by omega) (by omega) (fun q hq1 hq2 => h.exp q (by omega) (by omega)) (by omega)) (fun _ _ _ _ => ?_)
  | with_reducible exact (h.exp _ (by omega) (by omega)).same (by omega)
  | with_reducible exact (h.rule _ (by omega) (by omega)).same (by omega)
  | with_reducible exact (h.level _ _ (by omega) (by omega) (by omega)).same (by omega)
  | with_reducible refine En.bind (h.exp _ (by omega) (by omega)) (fun _ _ _ _ => ?_)
  | with_reducible refine En.bind (h.rule _ (by omega) (by omega)) (fun _ _ _ _ => ?_)
  | with_reducible refine En.bind (h.level _ _ (by omega) (by omega) (by omega)) (fun _ _ _ _ => ?_)
  | simp only [if_true, if_false, Bool.false_eq_true]
  | split
set_option maxHeartbeats 400000 in
theorem rule_en {l : List Tok} {n : Nat} {g : Gr} (h : Enough l n g) (p : Nat) (hp : p ≤ l.length) (hn : l.length * 40 + 3 ≤ n + 1 + p * 40) : En l (p + 1) (g.pRule) p := by
 unfold Gr.pRule
 repeat' first
  | with_reducible exact En.ret (by omega) (by omega)
  | with_reducible exact En.fail (by omega)
  | with_reducible exact En.tk1 (by decide) (by omega) (by omega)
  | with_reducible refine En.sk (fun _ => ?_) ?_
  | with_reducible refine En.mu (by omega) (fun _ => ?_)
  | with_reducible refine En.tk (by decide) (by omega) (fun _ _ => ?_)
  | with_reducible refine En.nx ?_
  | with_reducible refine En.adv ?_
  | with_reducible refine En.kind (by decide) (fun _ => ?_) ?_
  | with_reducible refine En.sees (fun _ => ?_) ?_
  | with_reducible refine En.kindSees (by decide) (fun _ => ?_) ?_
  | with_reducible refine En.bind (mid := p + 1) (En.sm (by omega) (by omega) (fun q hq1 hq2 => h.exp q (by omega) (by omega)) (by omega)) (fun _ _ _ _ => ?_)
  | with_reducible refine En.bind (mid := p + 1) (En.sm (by omega) (by omega) (fun q hq1 hq2 => h.pat q (by omega) (by omega)) (by omega)) (fun _ _ _ _ => ?_)
  | with_reducible exact (h.pat _ (by omega) (by omega)).same (by omega)
  | with_reducible exact (h.exp _ (by omega) (by omega)).same (by omega)
  | with_reducible refine En.bind (h.pat _ (by omega) (by omega)) (fun _ _ _ _ => ?_)
  | with_reducible refine En.bind (h.exp _ (by omega) (by omega)) (fun _ _ _ _ => ?_)
  | simp only [if_true, if_false, Bool.false_eq_true]
  | split
set_option maxHeartbeats 400000 in
theorem calls_en {l : List Tok} {n : Nat} {g : Gr} (h : Enough l n g) (p : Nat) (hp : p ≤ l.length) (hn : l.length * 40 + 3 ≤ n + 1 + p * 40) : En l (p + 1) (g.pCalls n) p := by
 unfold Gr.pCalls
 repeat' first
  | with_reducible exact En.ret (by omega) (by omega)
  | with_reducible exact En.fail (by omega)
  | with_reducible exact En.tk1 (by decide) (by omega) (by omega)
  | with_reducible exact (callsL_en _ (fun q h1 h2 => h.prefix_ q (by omega) (by omega)) _ _ _ (Nat.le_refl _) (by omega) (by omega)).same (by omega)
  | with_reducible refine En.sk (fun _ => ?_) ?_
  | with_reducible refine En.mu (by omega) (fun _ => ?_)
  | with_reducible refine En.tk (by decide) (by omega) (fun _ _ => ?_)
  | with_reducible refine En.nx ?_
  | with_reducible refine En.adv ?_
  | with_reducible refine En.kind (by decide) (fun _ => ?_) ?_
  | with_reducible refine En.sees (fun _ => ?_) ?_
  | with_reducible refine En.kindSees (by decide) (fun _ => ?_) ?_
  | with_reducible exact (h.prefix_ _ (by omega) (by omega)).same (by omega)
  | with_reducible refine En.bind (h.prefix_ _ (by omega) (by omega)) (fun _ _ _ _ => ?_)
  | simp only [if_true, if_false, Bool.false_eq_true]
  | split
set_option maxHeartbeats 400000 in
theorem prefix_en {l : List Tok} {n : Nat} {g : Gr} (h : Enough l n g) (p : Nat) (hp : p ≤ l.length) (hn : l.length * 40 + 2 ≤ n + 1 + p * 40) : En l (p + 1) (g.pPrefix) p := by
 unfold Gr.pPrefix
 repeat' first
  | with_reducible exact En.ret (by omega) (by omega)
  | with_reducible exact En.fail (by omega)
  | with_reducible exact En.tk1 (by decide) (by omega) (by omega)
  | with_reducible refine En.sk (fun _ => ?_) ?_
  | with_reducible refine En.mu (by omega) (fun _ => ?_)
  | with_reducible refine En.tk (by decide) (by omega) (fun _ _ => ?_)
  | with_reducible refine En.nx ?_
  | with_reducible refine En.adv ?_
  | with_reducible refine En.kind (by decide) (fun _ => ?_) ?_
  | with_reducible refine En.sees (fun _ => ?_) ?_
  | with_reducible refine En.kindSees (by decide) (fun _ => ?_) ?_
  | with_reducible exact (h.prefix_ _ (by omega) (by omega)).same (by omega)
  | with_reducible exact (h.atom _ (by omega) (by omega)).same (by omega)
  | with_reducible refine En.bind (h.prefix_ _ (by omega) (by omega)) (fun _ _ _ _ => ?_)
  | with_reducible refine En.bind (h.atom _ (by omega) (by omega)) (fun _ _ _ _ => ?_)
  | simp only [if_true, if_false, Bool.false_eq_true]
  | split
set_option maxHeartbeats 400000 in
theorem atom_en {l : List Tok} {n : Nat} {g : Gr} (h : Enough l n g) (p : Nat) (hp : p ≤ l.length) (hn : l.length * 40 + 1 ≤ n + 1 + p * 40) : En l (p + 1) (g.pAtom) p := by
 unfold Gr.pAtom
 repeat' first
  | with_reducible exact En.ret (by omega) (by omega)
  | with_reducible exact En.fail (by omega)
  | with_reducible exact En.tk1 (by decide) (by omega) (by omega)
  | with_reducible refine En.sk (fun _ => ?_) ?_
  | with_reducible refine En.mu (by omega) (fun _ => ?_)
  | with_reducible refine En.tk (by decide) (by omega) (fun _ _ => ?_)
  | with_reducible refine En.nx ?_
  | with_reducible refine En.adv ?_
  | with_reducible refine En.kind (by decide) (fun _ => ?_) ?_
  | with_reducible refine En.sees (fun _ => ?_) ?_
  | with_reducible refine En.kindSees (by decide) (fun _ => ?_) ?_
  | with_reducible exact (h.let_ _ (by omega) (by omega)).same (by omega)
  | with_reducible exact (h.round _ (by omega) (by omega)).same (by omega)
  | with_reducible refine En.bind (h.let_ _ (by omega) (by omega)) (fun _ _ _ _ => ?_)
  | with_reducible refine En.bind (h.round _ (by omega) (by omega)) (fun _ _ _ _ => ?_)
  | simp only [if_true, if_false, Bool.false_eq_true]
  | split
set_option maxHeartbeats 400000 in
theorem round_en {l : List Tok} {n : Nat} {g : Gr} (h : Enough l n g) (p : Nat) (hp : p ≤ l.length) (hn : l.length * 40 + 11 ≤ n + 1 + p * 40) : En l (p + 1) (g.pRound n) p := by
 unfold Gr.pRound
 repeat' first
  | with_reducible exact En.ret (by omega) (by omega)
  | with_reducible exact En.fail (by omega)
  | with_reducible exact En.tk1 (by decide) (by omega) (by omega)
  | with_reducible refine En.sk (fun _ => ?_) ?_
  | with_reducible refine En.mu (by omega) (fun _ => ?_)
  | with_reducible refine En.tk (by decide) (by omega) (fun _ _ => ?_)
  | with_reducible refine En.nx ?_
  | with_reducible refine En.adv ?_
  | with_reducible refine En.kind (by decide) (fun _ => ?_) ?_
  | with_reducible refine En.sees (fun _ => ?_) ?_
  | with_reducible refine En.kindSees (by decide) (fun _ => ?_) ?_
  | with_reducible refine En.bind (mid := p + 1) (En.sm (by omega) (by omega) (fun q hq1 hq2 => h.exp q (by omega) (by omega)) (by omega)) (fun _ _ _ _ => ?_)
  | with_reducible exact (h.exp _ (by omega) (by omega)).same (by omega)
  | with_reducible refine En.bind (h.exp _ (by omega) (by omega)) (fun _ _ _ _ => ?_)
  | simp only [if_true, if_false, Bool.false_eq_true]
  | split
set_option maxHeartbeats 400000 in
theorem let_en {l : List Tok} {n : Nat} {g : Gr} (h : Enough l n g) (p : Nat) (hp : p ≤ l.length) (hn : l.length * 40 + 2 ≤ n + 1 + p * 40) : En l (p + 1) (g.pLet n) p := by
 unfold Gr.pLet
 repeat' first
  | with_reducible exact En.ret (by omega) (by omega)
  | with_reducible exact En.fail (by omega)
  | with_reducible exact En.tk1 (by decide) (by omega) (by omega)
  | with_reducible refine En.bind (mid := p + 1) (decsL_en p (fun q h1 h2 => h.dec _ q (by omega) (by omega)) _ _ _ (Nat.le_refl _) (by omega) (by omega)) (fun _ _ _ _ => ?_)
  | with_reducible refine En.sk (fun _ => ?_) ?_
  | with_reducible refine En.mu (by omega) (fun _ => ?_)
  | with_reducible refine En.tk (by decide) (by omega) (fun _ _ => ?_)
  | with_reducible refine En.nx ?_
  | with_reducible refine En.adv ?_
  | with_reducible refine En.kind (by decide) (fun _ => ?_) ?_
  | with_reducible refine En.sees (fun _ => ?_) ?_
  | with_reducible refine En.kindSees (by decide) (fun _ => ?_) ?_
  | with_reducible refine En.bind (mid := p + 1) (En.sm (by omega) (by omega) (fun q hq1 hq2 => h.exp q (by omega) (by omega)) (by omega)) (fun _ _ _ _ => ?_)
  | with_reducible exact (h.exp _ (by omega) (by omega)).same (by omega)
  | with_reducible refine En.bind (h.exp _ (by omega) (by omega)) (fun _ _ _ _ => ?_)
  | simp only [if_true, if_false, Bool.false_eq_true]
  | split
set_option maxHeartbeats 400000 in
theorem pat_en {l : List Tok} {n : Nat} {g : Gr} (h : Enough l n g) (p : Nat) (hp : p ≤ l.length) (hn : l.length * 40 + 2 ≤ n + 1 + p * 40) : En l (p + 1) (g.pPat) p := by
 unfold Gr.pPat
 repeat' first
  | with_reducible exact En.ret (by omega) (by omega)
  | with_reducible exact En.fail (by omega)
  | with_reducible exact En.tk1 (by decide) (by omega) (by omega)
  | with_reducible refine En.sk (fun _ => ?_) ?_
  | with_reducible refine En.mu (by omega) (fun _ => ?_)
  | with_reducible refine En.tk (by decide) (by omega) (fun _ _ => ?_)
  | with_reducible refine En.nx ?_
  | with_reducible refine En.adv ?_
  | with_reducible refine En.kind (by decide) (fun _ => ?_) ?_
  | with_reducible refine En.sees (fun _ => ?_) ?_
  | with_reducible refine En.kindSees (by decide) (fun _ => ?_) ?_
  | with_reducible exact (h.patAtom _ (by omega) (by omega)).same (by omega)
  | with_reducible refine En.bind (h.patAtom _ (by omega) (by omega)) (fun _ _ _ _ => ?_)
  | simp only [if_true, if_false, Bool.false_eq_true]
  | split
set_option maxHeartbeats 400000 in
theorem patAtom_en {l : List Tok} {n : Nat} {g : Gr} (h : Enough l n g) (p : Nat) (hp : p ≤ l.length) (hn : l.length * 40 + 1 ≤ n + 1 + p * 40) : En l (p + 1) (g.pPatAtom) p := by
 unfold Gr.pPatAtom
 repeat' first
  | with_reducible exact En.ret (by omega) (by omega)
  | with_reducible exact En.fail (by omega)
  | with_reducible exact En.tk1 (by decide) (by omega) (by omega)
  | with_reducible refine En.sk (fun _ => ?_) ?_
  | with_reducible refine En.mu (by omega) (fun _ => ?_)
  | with_reducible refine En.tk (by decide) (by omega) (fun _ _ => ?_)
  | with_reducible refine En.nx ?_
  | with_reducible refine En.adv ?_
  | with_reducible refine En.kind (by decide) (fun _ => ?_) ?_
  | with_reducible refine En.sees (fun _ => ?_) ?_
  | with_reducible refine En.kindSees (by decide) (fun _ => ?_) ?_
  | with_reducible exact (h.patRound _ (by omega) (by omega)).same (by omega)
  | with_reducible refine En.bind (h.patRound _ (by omega) (by omega)) (fun _ _ _ _ => ?_)
  | simp only [if_true, if_false, Bool.false_eq_true]
  | split
set_option maxHeartbeats 400000 in
theorem patRound_en {l : List Tok} {n : Nat} {g : Gr} (h : Enough l n g) (p : Nat) (hp : p ≤ l.length) (hn : l.length * 40 + 3 ≤ n + 1 + p * 40) : En l (p + 1) (g.pPatRound n) p := by
 unfold Gr.pPatRound
 repeat' first
  | with_reducible exact En.ret (by omega) (by omega)
  | with_reducible exact En.fail (by omega)
  | with_reducible exact En.tk1 (by decide) (by omega) (by omega)
  | with_reducible refine En.sk (fun _ => ?_) ?_
  | with_reducible refine En.mu (by omega) (fun _ => ?_)
  | with_reducible refine En.tk (by decide) (by omega) (fun _ _ => ?_)
  | with_reducible refine En.nx ?_
  | with_reducible refine En.adv ?_
  | with_reducible refine En.kind (by decide) (fun _ => ?_) ?_
  | with_reducible refine En.sees (fun _ => ?_) ?_
  | with_reducible refine En.kindSees (by decide) (fun _ => ?_) ?_
  | with_reducible refine En.bind (mid := p + 1) (En.sm (by omega) (by omega) (fun q hq1 hq2 => h.pat q (by omega) (by omega)) (by omega)) (fun _ _ _ _ => ?_)
  | with_reducible exact (h.pat _ (by omega) (by omega)).same (by omega)
  | with_reducible refine En.bind (h.pat _ (by omega) (by omega)) (fun _ _ _ _ => ?_)
  | simp only [if_true, if_false, Bool.false_eq_true]
  | split
set_option maxHeartbeats 400000 in
theorem con_en {l : List Tok} {n : Nat} {g : Gr} (h : Enough l n g) (p : Nat) (hp : p ≤ l.length) (hn : l.length * 40 + 1 ≤ n + 1 + p * 40) : En l (p + 1) (g.pCon) p := by
 unfold Gr.pCon
 repeat' first
  | with_reducible exact En.ret (by omega) (by omega)
  | with_reducible exact En.fail (by omega)
  | with_reducible exact En.tk1 (by decide) (by omega) (by omega)
  | with_reducible refine En.sk (fun _ => ?_) ?_
  | with_reducible refine En.mu (by omega) (fun _ => ?_)
  | with_reducible refine En.tk (by decide) (by omega) (fun _ _ => ?_)
  | with_reducible refine En.nx ?_
  | with_reducible refine En.adv ?_
  | with_reducible refine En.kind (by decide) (fun _ => ?_) ?_
  | with_reducible refine En.sees (fun _ => ?_) ?_
  | with_reducible refine En.kindSees (by decide) (fun _ => ?_) ?_
  | with_reducible refine En.bind (mid := p + 1) (En.sm (by omega) (by omega) (fun q hq1 hq2 => h.ty q (by omega) (by omega)) (by omega)) (fun _ _ _ _ => ?_)
  | with_reducible exact (h.ty _ (by omega) (by omega)).same (by omega)
  | with_reducible refine En.bind (h.ty _ (by omega) (by omega)) (fun _ _ _ _ => ?_)
  | simp only [if_true, if_false, Bool.false_eq_true]
  | split
set_option maxHeartbeats 400000 in
theorem fun_en {l : List Tok} {n : Nat} {g : Gr} (h : Enough l n g) (p : Nat) (hp : p ≤ l.length) (hn : l.length * 40 + 1 ≤ n + 1 + p * 40) : En l (p + 1) (g.pFun n) p := by
 unfold Gr.pFun
 repeat' first
  | with_reducible exact En.ret (by omega) (by omega)
  | with_reducible exact En.fail (by omega)
  | with_reducible exact En.tk1 (by decide) (by omega) (by omega)
  | with_reducible refine En.bind (argsL_en _ _ _ (by omega) (by omega)) (fun _ _ _ _ => ?_)
  | with_reducible refine En.sk (fun _ => ?_) ?_
  | with_reducible refine En.mu (by omega) (fun _ => ?_)
  | with_reducible refine En.tk (by decide) (by omega) (fun _ _ => ?_)
  | with_reducible refine En.nx ?_
  | with_reducible refine En.adv ?_
  | with_reducible refine En.kind (by decide) (fun _ => ?_) ?_
  | with_reducible refine En.sees (fun _ => ?_) ?_
  | with_reducible refine En.kindSees (by decide) (fun _ => ?_) ?_
  | with_reducible refine En.bind (mid := p + 1) (En.sm (by omega) (by omega) (fun q hq1 hq2 => h.exp q (by omega) (by omega)) (by omega)) (fun _ _ _ _ => ?_)
  | with_reducible exact (h.exp _ (by omega) (by omega)).same (by omega)
  | with_reducible refine En.bind (h.exp _ (by omega) (by omega)) (fun _ _ _ _ => ?_)
  | simp only [if_true, if_false, Bool.false_eq_true]
  | split
set_option maxHeartbeats 400000 in
theorem vars_en {l : List Tok} {n : Nat} {g : Gr} (h : Enough l n g) (p : Nat) (hp : p ≤ l.length) (hn : l.length * 40 + 1 ≤ n + 1 + p * 40) : En l (p) (Gr.pVars n) p := by
 unfold Gr.pVars
 repeat' first
  | with_reducible exact En.ret (by omega) (by omega)
  | with_reducible exact En.fail (by omega)
  | with_reducible exact En.tk1 (by decide) (by omega) (by omega)
  | with_reducible refine En.sk (fun _ => ?_) ?_
  | with_reducible refine En.mu (by omega) (fun _ => ?_)
  | with_reducible refine En.tk (by decide) (by omega) (fun _ _ => ?_)
  | with_reducible refine En.nx ?_
  | with_reducible refine En.adv ?_
  | with_reducible refine En.kind (by decide) (fun _ => ?_) ?_
  | with_reducible refine En.sees (fun _ => ?_) ?_
  | with_reducible refine En.kindSees (by decide) (fun _ => ?_) ?_
  | with_reducible refine En.bind (mid := p + 1) (En.sm (by omega) (by omega) (fun q hq1 hq2 => En.tk1 (by decide) (by omega) (by omega)) (by omega)) (fun _ _ _ _ => ?_)
  | simp only [if_true, if_false, Bool.false_eq_true]
  | split
theorem level_en {l : List Tok} {n : Nat} {g : Gr} (h : Enough l n g) (lv p : Nat) (hl : lv ≤ 5) (hp : p ≤ l.length) (hn : l.length * 40 + (9 - lv) ≤ n + 1 + p * 40) : En l (p + 1) (g.pLevel n lv) p := by
 unfold Gr.pLevel
 refine En.ifs (fun h5 => h.calls p hp (by omega)) (fun h5 => ?_)
 refine En.bind (h.level (lv + 1) p (by omega) hp (by omega)) fun e q h1 h2 => ?_
 exact (opsL_en lv p (fun lv' q' h3 h4 h5 => h.level lv' q' (by omega) h5 (by omega)) n e q (by omega) h2 (by omega)).same h1
set_option maxHeartbeats 400000 in
theorem dec_en {l : List Tok} {n : Nat} {g : Gr} (h : Enough l n g) (b : Bool) (p : Nat) (hp : p ≤ l.length) (hn : l.length * 40 + 1 ≤ n + 1 + p * 40) : En l (p + 1) (g.pDec n b) p := by
 unfold Gr.pDec
 repeat' first
  | with_reducible exact En.ret (by omega) (by omega)
  | with_reducible exact En.fail (by omega)
  | with_reducible exact En.tk1 (by decide) (by omega) (by omega)
  | with_reducible refine En.sk (fun _ => ?_) ?_
  | with_reducible refine En.mu (by omega) (fun _ => ?_)
  | with_reducible refine En.tk (by decide) (by omega) (fun _ _ => ?_)
  | with_reducible refine En.nx ?_
  | with_reducible refine En.adv ?_
  | with_reducible refine En.kind (by decide) (fun _ => ?_) ?_
  | with_reducible refine En.sees (fun _ => ?_) ?_
  | with_reducible refine En.kindSees (by decide) (fun _ => ?_) ?_
  | with_reducible refine En.bind (mid := p + 1) (En.sm (by omega) (by omega) (fun q hq1 hq2 => h.ty q (by omega) (by omega)) (by omega)) (fun _ _ _ _ => ?_)
  | with_reducible refine En.bind (mid := p + 1) (En.sm (by omega) (by omega) (fun q hq1 hq2 => h.exp q (by omega) (by omega)) (by omega)) (fun _ _ _ _ => ?_)
  | with_reducible refine En.bind (mid := p + 1) (En.sm (by omega) (by omega) (fun q hq1 hq2 => h.fun_ q (by omega) (by omega)) (by omega)) (fun _ _ _ _ => ?_)
  | with_reducible refine En.bind (mid := p + 1) (En.sm (by omega) (by omega) (fun q hq1 hq2 => h.con q (by omega) (by omega)) (by omega)) (fun _ _ _ _ => ?_)
  | with_reducible exact (h.exp _ (by omega) (by omega)).same (by omega)
  | with_reducible exact (h.fun_ _ (by omega) (by omega)).same (by omega)
  | with_reducible exact (h.vars _ (by omega) (by omega)).same (by omega)
  | with_reducible exact (h.con _ (by omega) (by omega)).same (by omega)
  | with_reducible exact (h.ty _ (by omega) (by omega)).same (by omega)
  | with_reducible refine En.bind (h.exp _ (by omega) (by omega)) (fun _ _ _ _ => ?_)
  | with_reducible refine En.bind (h.fun_ _ (by omega) (by omega)) (fun _ _ _ _ => ?_)
  | with_reducible refine En.bind (h.vars _ (by omega) (by omega)) (fun _ _ _ _ => ?_)
  | with_reducible refine En.bind (h.con _ (by omega) (by omega)) (fun _ _ _ _ => ?_)
  | with_reducible refine En.bind (h.ty _ (by omega) (by omega)) (fun _ _ _ _ => ?_)
  | simp only [if_true, if_false, Bool.false_eq_true]
  | split
theorem enough_step {l : List Tok} {n : Nat} {g : Gr} (h : Enough l n g) : Enough l (n + 1) (g.step n) where
 ty := fun p hp hn => ty_en h p hp hn
 row := fun p hp hn => row_en h p hp hn
 post := fun p hp hn => post_en h p hp hn
 tyAtom := fun p hp hn => tyAtom_en h p hp hn
 exp := fun p hp hn => exp_en h p hp hn
 rule := fun p hp hn => rule_en h p hp hn
 calls := fun p hp hn => calls_en h p hp hn
 prefix_ := fun p hp hn => prefix_en h p hp hn
 atom := fun p hp hn => atom_en h p hp hn
 round := fun p hp hn => round_en h p hp hn
 let_ := fun p hp hn => let_en h p hp hn
 pat := fun p hp hn => pat_en h p hp hn
 patAtom := fun p hp hn => patAtom_en h p hp hn
 patRound := fun p hp hn => patRound_en h p hp hn
 con := fun p hp hn => con_en h p hp hn
 fun_ := fun p hp hn => fun_en h p hp hn
 vars := fun p hp hn => vars_en h p hp hn
 level := fun lv p hl hp hn => level_en h lv p hl hp hn
 dec := fun b p hp hn => dec_en h b p hp hn
theorem enough_zero (l : List Tok) : Enough l 0 Gr.zero where
 ty := fun p hp hn => by omega
 row := fun p hp hn => by omega
 post := fun p hp hn => by omega
 tyAtom := fun p hp hn => by omega
 exp := fun p hp hn => by omega
 rule := fun p hp hn => by omega
 calls := fun p hp hn => by omega
 prefix_ := fun p hp hn => by omega
 atom := fun p hp hn => by omega
 round := fun p hp hn => by omega
 let_ := fun p hp hn => by omega
 pat := fun p hp hn => by omega
 patAtom := fun p hp hn => by omega
 patRound := fun p hp hn => by omega
 con := fun p hp hn => by omega
 fun_ := fun p hp hn => by omega
 vars := fun p hp hn => by omega
 level := fun lv p hl hp hn => by omega
 dec := fun b p hp hn => by omega
theorem enough (l : List Tok) : ∀ n : Nat, Enough l n (gram n)
 | 0 => enough_zero l
 | n + 1 => enough_step (enough l n)
end Go.Proofs.YtjabhmepafofmaaGreatDoor
