/- Gra, Pz, Py -/
import Derived.Test.YtjabhmepafofmaaGreatDoorH14
import Derived.Test.YtjabhmepafofmaaGreatDoorH13
import Derived.Test.YtjabhmepafofmaaGreatDoorH02
import Derived.Test.YtjabhmepafofmaaGreatDoorH03
import Derived.Test.YtjabhmepafofmaaGreatDoorH12
import Derived.Test.YtjabhmepafofmaaGreatDoorH08
import Derived.Test.YtjabhmepafofmaaGreatDoorH17
import Derived.Test.YtjabhmepafofmaaGreatDoorH15
import Derived.Test.YtjabhmepafofmaaGreatDoorH16
import Derived.Test.YtjabhmepafofmaaGreatDoorH11
import Derived.Test.YtjabhmepafofmaaGreatDoorH06
import Derived.Test.YtjabhmepafofmaaGreatDoorH21
import Derived.Defers
import Derived.Recover
import Derived.Laws.Pointers
import Derived.Deep.MidRow
import Derived.RangeFuncBox
set_option linter.unusedVariables false
set_option linter.unusedSimpArgs false
namespace Go.Proofs.YtjabhmepafofmaaGreatDoor
open Go.RowKit
theorem round_step {gp : Nat} {a : Option Addr} {c : Nat} {l : List Tok} {g : Gr} {n : Nat} (h : Oks gp a c l g) : CT gp a c l 110 [] (stE xE) (g.pRound n) := by
  intro w p hp ho
  cases h_cl : seesB (l.getD p zTok) [⟨#[41]⟩] with
  | true => exact round_unit h w p hp ho h_cl
  | false =>
    cases hr_e : Pr.run l g.exp p with
    | out =>
      refine absurd ?_ ho
      simp only [Gr.pRound, run_bind, run_skip, h_cl, Bool.false_eq_true, if_false, Re.andThen, hr_e]
    | fail q => exact round_nofirst h w p hp ho h_cl q hr_e
    | ok x q =>
      cases h_co : seesB (l.getD q zTok) [⟨#[44]⟩] with
      | true => exact round_tuple h w p hp ho h_cl x q hr_e h_co
      | false =>
        cases h_se : seesB (l.getD q zTok) [⟨#[59]⟩] with
        | true => exact round_semi h w p hp ho h_cl x q hr_e h_co h_se
        | false => exact round_one h w p hp ho h_cl x q hr_e h_co h_se
theorem skip_pos {l : List Tok} {β : Type} {ts : List ByteArray} {f : Bool → Pr β} {p q : Nat} {x : β} (h : Pr.run l ((skip ts).bind f) p = .ok x q) (hf : Pr.run l (f false) p = .ok x q → p < q) : p < q := by
  rw [run_bind, run_skip] at h
  cases hs : seesB (l.getD p zTok) ts with
  | false =>
    rw [hs] at h
    exact hf h
  | true =>
    rw [hs] at h
    have h : Pr.run l (f true) (p + 1) = .ok x q := h
    have := run_mono l _ _ _ _ h
    omega
theorem must_pos {l : List Tok} {β : Type} {s : ByteArray} {f : Unit → Pr β} {p q : Nat} {x : β} (h : Pr.run l ((must s).bind f) p = .ok x q) : p < q := by
  rw [run_bind, run_must] at h
  cases hs : seesB (l.getD p zTok) [s] with
  | false =>
    rw [hs] at h
    cases h
  | true =>
    rw [hs] at h
    have h : Pr.run l (f ()) (p + 1) = .ok x q := h
    have := run_mono l _ _ _ _ h
    omega
theorem adv_pos {l : List Tok} {β : Type} {m : Pr β} {p q : Nat} {x : β} (h : Pr.run l (.adv m) p = .ok x q) : p < q := by
  have := run_mono l m (p + 1) q x h
  omega
theorem atom_pos {l : List Tok} {g : Gr} {p q : Nat} {x : E} (h : Pr.run l g.pAtom p = .ok x q) : p < q := by
  simp only [Gr.pAtom, next, Pr.bind, Pr.run] at h
  split at h
  · exact adv_pos h
  · split at h
    · exact adv_pos h
    · split at h
      · exact adv_pos h
      · split at h
        · exact adv_pos h
        · exact skip_pos h fun h => must_pos h
theorem prefix_pos (l : List Tok) : ∀ (n p q : Nat) (x : E), Pr.run l (gram n).prefix_ p = .ok x q → p < q
  | 0, p, q, x, h => by cases h
  | n + 1, p, q, x, h => by
    have h : Pr.run l ((skip [⟨#[33]⟩, ⟨#[126]⟩]).bind fun b => if b then (gram n).prefix_.bind fun e => .ret (Gr.mkE 15 (l.getD p zTok).text [e]) else (gram n).atom) p = .ok x q := h
    refine skip_pos h fun h => ?_
    have h : Pr.run l (gram n).atom p = .ok x q := h
    cases n with
    | zero => cases h
    | succ n => exact atom_pos h
theorem oks_zero (gp : Nat) (a : Option Addr) (c : Nat) (l : List Tok) : Oks gp a c l Gr.zero := by
  constructor
  all_goals first
    | (intro w p _ h; exact absurd rfl h)
    | (intro b w p _ h; exact absurd rfl h)
    | (intro b _ w p _ h; exact absurd rfl h)
theorem oks_step {gp : Nat} {a : Option Addr} {c : Nat} {l : List Tok} {g : Gr} {n : Nat} (hpr : ∀ (p q : Nat) (x : E), Pr.run l g.prefix_ p = .ok x q → p < q) (h : Oks gp a c l g) : Oks gp a c l (g.step n) where
  ty := ty_step h
  row := row_step h
  post := post_step h
  tyAtom := tyAtom_step h
  exp := exp_step h
  rule := rule_step h
  level := fun lv hl => level_step lv hl h
  calls := calls_step hpr h
  prefix_ := prefix_step h
  atom := atom_step h
  round := round_step h
  let_ := let_step h
  pat := pat_step h
  patAtom := patAtom_step h
  patRound := patRound_step h
  dec := fun b => dec_step b h
  con := con_step h
  fun_ := fun_step h
  vars := vars_step h
/-- whatever the fuel: what the grammar says, the parser's functions do -/
theorem oks (gp : Nat) (a : Option Addr) (c : Nat) (l : List Tok) : ∀ n : Nat, Oks gp a c l (gram n)
  | 0 => oks_zero gp a c l
  | n + 1 => oks_step (prefix_pos l n) (oks gp a c l n)
end Go.Proofs.YtjabhmepafofmaaGreatDoor
namespace Go.Proofs.YtjabhmepafofmaaGreatDoor
open Go.RowKit
/-- the declarations, one behind the other -/
def progR (l : List Tok) (g : Gr) : Nat → List D → Nat → Re (List D)
  | 0, _, _ => .out
  | n + 1, acc, p => if p < l.length then ((g.dec true).run l p).andThen fun d q => ((must ⟨#[59]⟩).run l q).andThen fun _ r => progR l g n (acc ++ [d]) r else .ok acc p
set_option maxRecDepth 100000 in
set_option maxHeartbeats 1000000 in
theorem catch_wrong (gx gp g2 g3 g4 : Nat) (a : Option Addr) (n c p : Nat) (v2 v3 v4 : Value) (w : World) (hx : w.heap[gx]? = some (.cells #[.pointer (some ⟨gp, 0, none⟩)] 47 (0, 0))) (hp : w.heap[gp]? = some (.cells #[.slice a n c, .int .i64 p] 49 (0, 0)))
    (h2 : w.heap[g2]? = some (.cells #[v2] 25 (0, 0))) (h3 : w.heap[g3]? = some (.cells #[v3] 3 (0, 0))) (h4 : w.heap[g4]? = some (.cells #[v4] 26 (0, 0))) (h23 : g2 < g3) (h34 : g3 < g4) :
    CallsD Tryz.prog 11 #[.pointer (some ⟨gx, 0, none⟩), .pointer (some ⟨g2, 0, none⟩), .pointer (some ⟨g3, 0, none⟩), .pointer (some ⟨g4, 0, none⟩)] (.panicking [{ v := wrongP, recovered := false }]) w fun e u' w' =>
      e = .returned (.tuple #[]) ∧ u' = .panicking [{ v := wrongP, recovered := true }] ∧ w' = ((((w.alloc (.cells #[] 51)).setCell ⟨g2, 0, none⟩ (.slice none 0 0)).setCell ⟨g3, 0, none⟩ (.int .i64 p)).setCell ⟨g4, 0, none⟩ (.int .i64 11)) := by
  refine callsD_of_wpS Tryz.func11 rfl fun c₀ cs hu => ?_
  apply wpS_seq
  apply wpS_region
  generalize hQ : Exit.thenS _ _ = Q
  simp [wpOpsS, go_sem, recoverD, hu, Tryz.ntmps11]
  subst hQ
  simp only [Exit.thenS]
  refine wpS_of_wp ?_
  clear hu
  simp only [List.size_toArray, List.length_cons, List.length_nil, Nat.reduceAdd, Nat.reduceSub, Array.replicate_succ, Array.replicate_zero, List.push_toArray, List.append_toArray, List.nil_append, List.cons_append, List.setIfInBounds_toArray, List.set_cons_succ, List.set_cons_zero]
  generalize hQ : (fun (e : Exit) (a' : Act) (w' : World) => bodyPostS _ _ _ _ _ e a' _ w') = Q
  have HQ := Lib.hid hQ
  clear hQ
  have hta : ∀ w : World, Sem.run Tryz.prog (Instr.typeAssert (.iface 51 (.agg #[])) 20 51 true) w = .ok (.tuple #[.agg #[], .bool true]) w := fun w => by kernel_rfl
  unfold wrongP
  go_upto_region 5 with fail
  obtain ⟨w1, hw1⟩ : ∃ w1, w.alloc (.cells #[] 51) = w1 := ⟨_, rfl⟩
  have hF : Fr No w w1 := by rw [← hw1]; exact Fr.alloc _ _
  rw [hw1] at HQ ⊢
  clear hw1
  have x0 : w1.cell? ⟨gx, 0, none⟩ = some (.pointer (some ⟨gp, 0, none⟩)) := cell_of (hF.keeps hx no_one) 0
  have p1 : w1.cell? ⟨gp, 1, none⟩ = some (.int .i64 p) := cell_of (hF.keeps hp no_one) 1
  have d2 : w1.cell? ⟨g2, 0, none⟩ = some (v2) := cell_of (hF.keeps h2 no_one) 0
  have d3 : w1.cell? ⟨g3, 0, none⟩ = some (v3) := cell_of (hF.keeps h3 no_one) 0
  have d4 : w1.cell? ⟨g4, 0, none⟩ = some (v4) := cell_of (hF.keeps h4 no_one) 0
  have f2 := free_of (hF.keeps h2 no_one) 0
  have f3 := free_of (hF.keeps h3 no_one) 0
  have f4 := free_of (hF.keeps h4 no_one) 0
  clear hF hx hp h2 h3 h4
  go_wp2_with fail
  rw [← HQ.out]
  exact ⟨rfl, _, rfl, _, results_none rfl _ _ _, rfl, rfl, rfl⟩
set_option maxRecDepth 100000 in
set_option maxHeartbeats 1000000 in
theorem catch_idle (x0 x1 x2 x3 : Value) (w : World) :
    CallsD Tryz.prog 11 #[x0, x1, x2, x3] .returning w fun e u' w' => e = .returned (.tuple #[]) ∧ u' = .returning ∧ w' = w := by
  refine callsD_of_wpS Tryz.func11 rfl fun c₀ cs hu => ?_
  apply wpS_seq
  apply wpS_region
  generalize hQ : Exit.thenS _ _ = Q
  simp [wpOpsS, go_sem, recoverD, hu, Tryz.ntmps11]
  subst hQ
  simp only [Exit.thenS]
  refine wpS_of_wp ?_
  simp only [List.size_toArray, List.length_cons, List.length_nil, Nat.reduceAdd, Nat.reduceSub, Array.replicate_succ, Array.replicate_zero, List.push_toArray, List.append_toArray, List.nil_append, List.cons_append, List.setIfInBounds_toArray, List.set_cons_succ, List.set_cons_zero]
  generalize hQ : (fun (e : Exit) (a' : Act) (w' : World) => bodyPostS _ _ _ _ _ e a' _ w') = Q
  have HQ := Lib.hid hQ
  clear hQ
  go_wp2_with fail
  rw [← HQ.out]
  cases c₀
  exact ⟨rfl, _, by simp_all, _, results_none rfl _ _ _, rfl, rfl, rfl⟩
/-- the closure that recovers: what it leaves -/
theorem catch_any (gx gp g2 g3 g4 : Nat) (a : Option Addr) (n c p : Nat) (v2 v3 v4 : Value) (w : World) (hx : w.heap[gx]? = some (.cells #[.pointer (some ⟨gp, 0, none⟩)] 47 (0, 0))) (hp : w.heap[gp]? = some (.cells #[.slice a n c, .int .i64 p] 49 (0, 0)))
    (h2 : w.heap[g2]? = some (.cells #[v2] 25 (0, 0))) (h3 : w.heap[g3]? = some (.cells #[v3] 3 (0, 0))) (h4 : w.heap[g4]? = some (.cells #[v4] 26 (0, 0))) (h23 : g2 < g3) (h34 : g3 < g4) :
    CallsD Tryz.prog 11 #[.pointer (some ⟨gx, 0, none⟩), .pointer (some ⟨g2, 0, none⟩), .pointer (some ⟨g3, 0, none⟩), .pointer (some ⟨g4, 0, none⟩)] (.panicking [{ v := wrongP, recovered := false }]) w fun e u' w' =>
      e = .returned (.tuple #[]) ∧ u' = .panicking [{ v := wrongP, recovered := true }] ∧ Fr (fun k => k = g2 ∨ k = g3 ∨ k = g4) w w' ∧ w'.cell? ⟨g2, 0, none⟩ = some (.slice none 0 0) ∧ w'.cell? ⟨g3, 0, none⟩ = some (.int .i64 p) ∧ w'.cell? ⟨g4, 0, none⟩ = some (.int .i64 11) := by
  refine (catch_wrong gx gp g2 g3 g4 a n c p v2 v3 v4 w hx hp h2 h3 h4 h23 h34).mono ?_
  rintro e u' w' ⟨he, hu, rfl⟩
  refine ⟨he, hu, ((((Fr.alloc w (.cells #[] 51)).mono (fun _ _ h => h.elim)).trans (Fr.setCell _ ⟨g2, 0, none⟩ _) (fun _ _ h => .inl h)).trans (Fr.setCell _ ⟨g3, 0, none⟩ _) (fun _ _ h => .inr (.inl h))).trans (Fr.setCell _ ⟨g4, 0, none⟩ _) (fun _ _ h => .inr (.inr h)), ?_, ?_, ?_⟩
  · have h := block_setCell ((Fr.alloc w (.cells #[] 51)).keeps h2 no_one) 0 (.slice none 0 0)
    exact cell_of ((Fr.setCell _ ⟨g4, 0, none⟩ _).keeps ((Fr.setCell _ ⟨g3, 0, none⟩ _).keeps h (fun (e : g2 = g3) => by omega)) (fun (e : g2 = g4) => by omega)) 0
  · have h := block_setCell ((Fr.setCell _ ⟨g2, 0, none⟩ (.slice none 0 0)).keeps ((Fr.alloc w (.cells #[] 51)).keeps h3 no_one) (fun (e : g3 = g2) => by omega)) 0 (.int .i64 p)
    exact cell_of ((Fr.setCell _ ⟨g4, 0, none⟩ _).keeps h (fun (e : g3 = g4) => by omega)) 0
  · exact cell_of (block_setCell ((Fr.setCell _ ⟨g3, 0, none⟩ (.int .i64 p)).keeps ((Fr.setCell _ ⟨g2, 0, none⟩ (.slice none 0 0)).keeps ((Fr.alloc w (.cells #[] 51)).keeps h4 no_one) (fun (e : g4 = g2) => by omega)) (fun (e : g4 = g3) => by omega)) 0 (.int .i64 11)) 0
/-- what Parse hands back -/
def ParseR (w : World) : Re (List D) → Ending → World → Prop
  | .fail q, e, w' => e = .returned (.tuple #[.slice none 0 0, .int .i64 (q : Nat), .int .i64 11]) ∧ Fr No w w'
  | .ok ds _, e, w' => Fr No w w' ∧ if 100 < dProg ds then e = .returned (.tuple #[.slice none 0 0, .int .i64 0, .int .i64 16]) else ∃ v, e = .returned (.tuple #[v, .int .i64 0, .int .i64 0]) ∧ Hx (fun b => w.heap.size ≤ b) w' (.row 16 (ds.map xD)) v
  | .out, _, _ => False
theorem par_mk {w w' : World} {gp : Nat} {a : Option Addr} {c : Nat} {l : List Tok} {q : Nat} (hr : TokRow w gp a l) (hv : Lev w gp) (hl : l.length ≤ 1048576) (hf : Fr (Just gp) w w') (hb : w'.heap[gp]? = some (.cells #[.slice a l.length c, .int .i64 q] 49 (0, 0))) (hq : q ≤ l.length) : Par w' gp a c l q :=
  ⟨hb, hr.fr hf, hq, hl, hv.fr hf⟩
end Go.Proofs.YtjabhmepafofmaaGreatDoor
namespace Go.Proofs.YtjabhmepafofmaaGreatDoor
open Go.RowKit
theorem setCells_block (b : Nat) (t : TypeId) : ∀ (vs : List Value) (o : Nat) (w : World) (cur : Array Value), w.heap[b]? = some (.cells cur t (0, 0)) → o + vs.length ≤ cur.size →
    (w.setCells b o vs).heap[b]? = some (.cells (cur.toList.take o ++ vs ++ cur.toList.drop (o + vs.length)).toArray t (0, 0)) ∧ Fr (Just b) w (w.setCells b o vs)
  | [], o, w, cur, h, _ => by
    simp only [World.setCells, List.append_nil, List.length_nil, Nat.add_zero, List.take_append_drop]
    exact ⟨h, Fr.refl _ _⟩
  | v :: r, o, w, cur, h, hb => by
    simp only [List.length_cons] at hb
    obtain ⟨h1, h2⟩ := setCells_block b t r (o + 1) (w.setCell ⟨b, o, none⟩ v) (cur.setIfInBounds o v) (block_setCell h o v) (by simp; omega)
    refine ⟨?_, (Fr.setCell w ⟨b, o, none⟩ v).trans h2 (fun _ _ h => h)⟩
    simp only [World.setCells]
    rw [h1]
    congr 3
    rw [List.length_cons, show o + (r.length + 1) = o + 1 + r.length by omega]
    have hl : o < cur.toList.length := by simp; omega
    have e1 : (cur.setIfInBounds o v).toList = cur.toList.set o v := by simp
    rw [e1, List.take_set, List.drop_set_of_lt (by omega), List.take_add_one, List.getElem?_eq_getElem hl]
    simp only [Option.toList_some]
    have e2 : (List.take o cur.toList ++ [cur.toList[o]]).set o v = List.take o cur.toList ++ [v] := by
      rw [List.set_append_right _ _ (by simp; omega)]
      have : o - (List.take o cur.toList).length = 0 := by simp; omega
      rw [this]
      rfl
    rw [e2]
    simp
/-- the element behind the row's others is written -/
theorem own_store {w : World} {B e k g cap n : Nat} {xs news cs : List Value} (h : w.ownsRow B e k (.slice (some ⟨g, 0, none⟩) (n + 1) cap) (n + 1) (xs ++ news)) (hx : xs.length = n * k) (hc : cs.length = k) :
    w.there g (n * k) k ∧ (w.setCells g (n * k) cs).ownsRow B e k (.slice (some ⟨g, 0, none⟩) (n + 1) cap) (n + 1) (xs ++ cs) ∧ Fr (Just g) w (w.setCells g (n * k) cs) := by
  rcases h.2 with ⟨h0, h1⟩ | ⟨g1, c1, cur, h0, h1, h2, h3, h4, h5, h6⟩
  · omega
  · simp only [Value.slice.injEq, Option.some.injEq, Addr.mk.injEq, and_true, true_and] at h0
    obtain ⟨rfl, rfl⟩ := h0
    have hmul : (n + 1) * k = n * k + k := by rw [Nat.add_mul]; omega
    have hle := Nat.mul_le_mul_right k h3
    have hsz : n * k + k ≤ cur.size := by rw [h5]; omega
    obtain ⟨k1, k2⟩ := setCells_block g e cs (n * k) w cur h2 (by omega)
    refine ⟨fun j hj => ⟨?_, free_of h2 _⟩, ⟨?_, .inr ⟨g, cap, _, rfl, h1, k1, h3, h4, ?_, ?_⟩⟩, k2⟩
    · rw [cell_of h2, Array.getElem?_eq_getElem (by omega)]
      rfl
    · rw [List.length_append, hx, hc]; omega
    · simp only [List.append_assoc, List.size_toArray, List.length_append, List.length_take, List.length_drop, Array.length_toList, hc]
      omega
    · have ht : cur.toList.take (n * k) = xs := by
        have := congrArg (List.take (n * k)) h6
        rw [List.take_take, List.take_append_of_le_length (by omega), List.take_of_length_le (l := xs) (by omega), Nat.min_eq_left (by omega)] at this
        exact this
      simp only [ht]
      rw [List.take_append_of_le_length (by simp [hx, hc]; omega), List.take_of_length_le (by simp [hx, hc]; omega)]
/-- a row with an element that is still to be written -/
structure Half (R : (Nat → Prop) → World → List X → List Value → Prop) (e k : Nat) (ok : Nat → Prop) (B : Nat) (w : World) (g cap n : Nat) (l : List (List X)) : Prop where
  ex : l.length = n ∧ B ≤ g ∧ ∃ (cs : List (List Value)) (news : List Value), cs.length = n ∧ (∀ c ∈ cs, c.length = k) ∧ w.ownsRow B e k (.slice (some ⟨g, 0, none⟩) (n + 1) cap) (n + 1) (cs.flatten ++ news) ∧ ∀ (j : Nat) (t : List X) (c : List Value), l[j]? = some t → cs[j]? = some c → R (fun b => ok b ∧ b ≠ g) w t c
theorem Half.keep {e k B g cap n : Nat} {ok : Nat → Prop} {S : Nat → Prop} {w w' : World} {l : List (List X)} (h : Half RX e k ok B w g cap n l) (hf : Fr S w w') (ho : ∀ b, ok b → ¬ S b) (hg : ¬ S g) : Half RX e k ok B w' g cap n l := by
  obtain ⟨h1, hB, cs, news, h2, h3, hown, h4⟩ := h
  exact ⟨h1, hB, cs, news, h2, h3, owns_keep hown hf (fun b hb hs => hg (by rw [show g = b by simpa [Value.ownBlock] using hb]; exact hs)), fun j t c hj hc => keptX.keep (fun b hb hk => ⟨hf.block b hb (ho b hk.1), hk⟩) t c (h4 j t c hj hc)⟩
theorem Half.fill {e k B g cap n : Nat} {ok : Nat → Prop} {w : World} {l : List (List X)} (h : Half RX e k ok B w g cap n l) {t : List X} {c : List Value} (hc : c.length = k) (ht : Hc (fun b => ok b ∧ b ≠ g) w t c) :
    w.there g (n * k) k ∧ OutG RX e k ok B (w.setCells g (n * k) c) (.slice (some ⟨g, 0, none⟩) (n + 1) cap) (n + 1) (l ++ [t]) ∧ Fr (Just g) w (w.setCells g (n * k) c) := by
  obtain ⟨h1, hB, cs, news, h2, h3, hown, h4⟩ := h
  obtain ⟨k1, k2, k3⟩ := own_store hown (by rw [flatten_len cs h3, h2]) hc
  have hav : ∀ b, Av (.slice (some ⟨g, 0, none⟩) (n + 1) cap) b ↔ b ≠ g := fun b => by simp [Av, Value.ownBlock, eq_comm]
  refine ⟨k1, ⟨by simp [h1], cs ++ [c], by simp [h2], fun x hx => ?_, by rw [List.flatten_append, List.flatten_singleton]; exact k2, fun j t' c' hj hc' => ?_⟩, k3⟩
  · rcases List.mem_append.1 hx with hx | hx
    · exact h3 x hx
    · rw [List.mem_singleton.1 hx]
      exact hc
  · refine keptX.keep (ok := fun b => ok b ∧ b ≠ g) (w := w) (fun b hb hk => ⟨k3.block b hb (fun (e : b = g) => hk.2 e), hk.1, (hav b).2 hk.2⟩) t' c' ?_
    rcases Nat.lt_or_ge j n with hlt | hge
    · rw [List.getElem?_append_left (by omega)] at hj hc'
      exact h4 j t' c' hj hc'
    · rw [List.getElem?_append_right (by omega)] at hj hc'
      have hj0 : j - l.length = 0 := by
        have := (List.getElem?_eq_some_iff.1 hj).1
        simp at this
        omega
      rw [hj0] at hj
      rw [show j - cs.length = 0 by omega] at hc'
      simp only [List.getElem?_cons_zero, Option.some.injEq] at hj hc'
      subst hj hc'
      exact ht
section
variable {e k : Nat} {P : Program}
/-- a zero element behind one's own row, at a step of a region that draws its order -/
theorem step_half {bytes : Nat} (he : ElemOk P e k bytes) {w : World} {ops : Array Oper} {o : Oper} {a : Act} {K : Act → World → Prop} {Q : Exit → Act → World → Prop} {E : Prop} (hgd : o.guard = none) (s x : Operand) (t : TypeId)
    (ho : o.op = .call { callee := .builtin .append, args := #[s, x], argTypes := #[t, t] }) (ht : P.underlying t = some (.slice e)) (ok : Nat → Prop) (B : Nat) (v : Value) (n : Nat) (l : List (List X)) (hs : a.eval s = v) (hv : OutG RX e k ok B w v n l)
    (gb : Nat) (c : List Value) (e0 : TypeId) (hx : a.eval x = .slice (some ⟨gb, 0, none⟩) 1 1) (hb : w.heap[gb]? = some (.cells c.toArray e0 (0, 0))) (h1 : ∀ u ∈ c, u.oneCell' = true) (hc : c.length = k)
    (hn : n + 1 ≤ maxLen) (hbytes : (n + 1) * bytes ≤ 140737488355328) (hB : B ≤ w.heap.size)
    (h : ∀ g' c' w', Hid (Half RX e k ok B w' g' c' n l) → Hid (Grows B w w' v (.slice (some ⟨g', 0, none⟩) (n + 1) c')) → K (a.put o.dst (.slice (some ⟨g', 0, none⟩) (n + 1) c')) w') :
    if Region.wanted o (yielded ops a.tmps) = true then Oper.wp P o a w K Q else E := by
  obtain ⟨⟨i, z, hi, hz, z1, z2, z3⟩, hk⟩ := he
  obtain ⟨g1, cs, g2, g3, hown, g4⟩ := hv
  refine step_append_lies w hgd s x t ho B e i z k bytes ht hi hz z1 z2 z3 hk v n cs.flatten hs hown ⟨gb, 0, none⟩ 1 1 c hx (by omega) (World.news_of_block hb) h1 (by decide) hn hbytes hB _ rfl ?_
  intro g cap w' hown' hg hat _
  have hG := grows_of (m := n + 1) (cap := cap) hown hB hg hat
  refine h _ _ w' (Lib.hid ⟨g1, ?_, cs, c, g2, g3, hown', fun j t c hj hc => keptX.keep (fun b hb hk => ⟨(hG.av b hb hk.2).1, hk.1, fun e => ?_⟩) t c (g4 j t c hj hc)⟩) (Lib.hid hG)
  · exact (owns_block hown' rfl).1
  · exact (hG.av b hb hk.2).2 (by rw [e]; rfl)
end
set_option maxRecDepth 100000 in
theorem step_store16 {w : World} {ops : Array Oper} {o : Oper} {a : Act} {K : Act → World → Prop} {Q : Exit → Act → World → Prop} {E : Prop} (hgd : o.guard = none) (hdst : o.dst = none) (x y : Operand) (ho : o.op = .store 46 x y)
    (b off : Nat) (cells : Array Value) (hx : a.eval x = .pointer (some ⟨b, off, none⟩)) (hy : a.eval y = .agg cells) (hc : cells.size = 16) (ht : w.there b off 16) (h1 : cells.all (·.oneCell') = true)
    (h : K a (w.setCells b off cells.toList)) : if Region.wanted o (yielded ops a.tmps) = true then Oper.wp Tryz.prog o a w K Q else E := by
  have hw : Region.wanted o (yielded ops a.tmps) = true := by simp [Region.wanted, hgd]
  rw [if_pos hw]
  exact wp_store_mid 46 x y ho b off cells hx hy (by rw [hc]; exact ht) (by rw [hc]; kernel_rfl) h1 (by rw [hdst]; exact h)
theorem av_of {g n c b : Nat} (h : Av (.slice (some ⟨g, 0, none⟩) n c) b) : b ≠ g := fun e => h (by rw [e]; rfl)
theorem Fr.own3 {w w1 w2 : World} {gp g2 g3 g4 : Nat} (h : Fr (Just gp) w w1) (k : Fr (fun k => k = g2 ∨ k = g3 ∨ k = g4) w1 w2) (h1 : w.heap.size ≤ gp) (h2 : w.heap.size ≤ g2) (h3 : w.heap.size ≤ g3) (h4 : w.heap.size ≤ g4) : Fr No w w2 :=
  (h.mono (T := No) (fun i hi (e : i = gp) => by omega)).own k (fun i e => by omega)
theorem three_boxes {w : World} {g2 g3 g4 : Nat} {v2 v3 v4 : Value} (x2 x3 x4 : Value) (h2 : w.heap[g2]? = some (.cells #[v2] 25 (0, 0))) (h3 : w.heap[g3]? = some (.cells #[v3] 3 (0, 0))) (h4 : w.heap[g4]? = some (.cells #[v4] 26 (0, 0))) (h23 : g2 < g3) (h34 : g3 < g4) :
    (((w.setCell ⟨g2, 0, none⟩ x2).setCell ⟨g3, 0, none⟩ x3).setCell ⟨g4, 0, none⟩ x4).cell? ⟨g2, 0, none⟩ = some x2 ∧ (((w.setCell ⟨g2, 0, none⟩ x2).setCell ⟨g3, 0, none⟩ x3).setCell ⟨g4, 0, none⟩ x4).cell? ⟨g3, 0, none⟩ = some x3 ∧
      (((w.setCell ⟨g2, 0, none⟩ x2).setCell ⟨g3, 0, none⟩ x3).setCell ⟨g4, 0, none⟩ x4).cell? ⟨g4, 0, none⟩ = some x4 ∧ Fr (fun k => k = g2 ∨ k = g3 ∨ k = g4) w (((w.setCell ⟨g2, 0, none⟩ x2).setCell ⟨g3, 0, none⟩ x3).setCell ⟨g4, 0, none⟩ x4) := by
  refine ⟨?_, ?_, ?_, (((Fr.setCell w ⟨g2, 0, none⟩ x2).mono (T := fun k => k = g2 ∨ k = g3 ∨ k = g4) (fun _ _ h => .inl h)).trans (Fr.setCell _ ⟨g3, 0, none⟩ _) (fun _ _ h => .inr (.inl h))).trans (Fr.setCell _ ⟨g4, 0, none⟩ _) (fun _ _ h => .inr (.inr h))⟩
  · exact cell_of ((Fr.setCell _ ⟨g4, 0, none⟩ _).keeps ((Fr.setCell _ ⟨g3, 0, none⟩ _).keeps (block_setCell h2 0 x2) (fun (e : g2 = g3) => by omega)) (fun (e : g2 = g4) => by omega)) 0
  · exact cell_of ((Fr.setCell _ ⟨g4, 0, none⟩ _).keeps (block_setCell ((Fr.setCell _ ⟨g2, 0, none⟩ x2).keeps h3 (fun (e : g3 = g2) => by omega)) 0 x3) (fun (e : g3 = g4) => by omega)) 0
  · exact cell_of (block_setCell ((Fr.setCell _ ⟨g3, 0, none⟩ x3).keeps ((Fr.setCell _ ⟨g2, 0, none⟩ x2).keeps h4 (fun (e : g4 = g2) => by omega)) (fun (e : g4 = g3) => by omega)) 0 x4) 0
theorem leaves_tmps {P : Program} {fn : Func} {t1 t2 : Array Value} {R : Ending → World → Prop} (h : results fn t1 = results fn t2) : ∀ (ds : List Deferred) (u : FrameMode) (w : World), Leaves P fn t1 R ds u w → Leaves P fn t2 R ds u w
  | [], .returning, w, hl => by
    simp only [Leaves] at hl ⊢
    rw [← h]
    exact hl
  | [], .panicking chain, w, hl => hl
  | [], .run, w, hl => hl
  | d :: ds, u, w, hl => by
    simp only [Leaves] at hl ⊢
    obtain ⟨h1, fv, cap, f, args, h2, h3, h4⟩ := hl
    refine ⟨h1, fv, cap, f, args, h2, h3, h4.mono ?_⟩
    intro e u' w' hx
    cases e with
    | returned v => exact leaves_tmps h ds _ _ hx
    | panicked ch => exact leaves_tmps h ds _ _ hx
    | outgrown => exact hx
theorem res9 {t1 t2 : Array Value} (h2 : t1.getD 2 undef = t2.getD 2 undef) (h3 : t1.getD 3 undef = t2.getD 3 undef) (h4 : t1.getD 4 undef = t2.getD 4 undef) : results Tryz.f6 t1 = results Tryz.f6 t2 := by
  rw [Array.getD_eq_getD_getElem?, Array.getD_eq_getD_getElem?] at h2 h3 h4
  simp [results, Tryz.results9, h2, h3, h4]
theorem panic_put {R : Ending → World → Prop} {i : Nat} {v : Value} {c : List PanicEntry} {a : Act} {w : World} (h2 : i ≠ 2) (h3 : i ≠ 3) (h4 : i ≠ 4) (h : bodyPostD Tryz.prog Tryz.f6 R (.panic c) (a.put (some i) v) w) : bodyPostD Tryz.prog Tryz.f6 R (.panic c) a w := by
  refine leaves_tmps (t1 := (a.put (some i) v).tmps) (res9 ?_ ?_ ?_) _ _ _ h
  all_goals
    simp only [Act.put, Array.getD_eq_getD_getElem?]
    rw [Array.getElem?_setIfInBounds_ne (by assumption)]
end Go.Proofs.YtjabhmepafofmaaGreatDoor
