/- Rb, Rc, Rk -/
import Derived.Test.YtjabhmepafofmaaGreatDoorG03
import Derived.Test.YtjabhmepafofmaaGreatDoorG04
set_option linter.unusedVariables false
set_option linter.unusedSimpArgs false
namespace Go.Proofs.YtjabhmepafofmaaGreatDoor
open Go.RowKit
/-- the reader's block: the tokens, the place, and whether a token was in the way -/
structure RPar (w : World) (gp : Nat) (a : Option Addr) (c : Nat) (l : List Tok) (p : Nat) (b : Bool) : Prop where
 blk : w.heap[gp]? = some (.cells #[.slice a l.length c, .int .i64 (p : Nat), .bool b] 57 (0, 0))
 row : TokRow w gp a l
 le : p ≤ l.length
 len : l.length ≤ 1048576
theorem RPar.no {w w' : World} {gp : Nat} {a : Option Addr} {c : Nat} {l : List Tok} {p : Nat} {b : Bool} (h : RPar w gp a c l p b) (hf : Fr No w w') : RPar w' gp a c l p b :=
 ⟨hf.keeps h.blk no_one, h.row.fr (hf.just gp), h.le, h.len⟩
theorem RPar.of {w w' : World} {gp : Nat} {a : Option Addr} {c : Nat} {l : List Tok} {p q : Nat} {b b' : Bool} (h : RPar w gp a c l p b) (hf : Fr (Just gp) w w') (hb : w'.heap[gp]? = some (.cells #[.slice a l.length c, .int .i64 (q : Nat), .bool b'] 57 (0, 0))) (hq : q ≤ l.length) : RPar w' gp a c l q b' :=
 ⟨hb, h.row.fr hf, hq, h.len⟩
/-- a run from a state -/
def runS {α : Type} (l : List Tok) (m : Pr α) (p : Nat) (b : Bool) : Re α := if b = true then .fail p else m.run l p
def Step {α : Type} (l : List Tok) (m : Pr α) (p : Nat) (b : Bool) (t : α) (q : Nat) (b' : Bool) : Prop := runS l m p b = if b' = true then .fail q else .ok t q
section
variable {α β : Type} {l : List Tok}
theorem runS_good (m : Pr α) (p : Nat) : runS l m p false = m.run l p := rfl
theorem runS_bad (m : Pr α) (p : Nat) : runS l m p true = .fail p := rfl
theorem stepV {m : Pr α} {k : α → Pr β} {p q : Nat} {b b' : Bool} {t : α} {V : Re β} (hv : runS l (m.bind k) p b = V) (hs : Step l m p b t q b') : runS l (k t) q b' = V := by
 rw [← hv]
 cases b with
 | true =>
  cases b' with
  | true =>
   have hs : Re.fail p = Re.fail q := hs
   cases hs
   rfl
  | false => cases hs
 | false =>
  have hs : m.run l p = if b' = true then .fail q else .ok t q := hs
  show _ = (m.bind k).run l p
  rw [run_bind, hs]
  cases b' <;> rfl
theorem step_end {m : Pr α} {p q : Nat} {b b' : Bool} {t : α} {V : Re α} (hv : runS l m p b = V) (h : runS l (.ret t) q b' = V) : Step l m p b t q b' := by
 rw [Step, hv, ← h]
 cases b' <;> rfl
theorem step_fail {m : Pr α} {p q : Nat} {b b' : Bool} {t : α} {V : Re α} (hv : runS l m p b = V) (h : runS l (.fail : Pr α) q b' = V) : Step l m p b t q true := by
 rw [Step, hv, ← h]
 cases b' <;> rfl
theorem bad_any {m m' : Pr α} {q : Nat} {V : Re α} (h : runS l m q true = V) : runS l m' q true = V := h
theorem step_out {m : Pr α} {k : α → Pr β} {p : Nat} {b : Bool} {V : Re β} (hv : runS l (m.bind k) p b = V) (ho : V ≠ .out) : runS l m p b ≠ .out := by
 rw [← hv] at ho
 intro e
 apply ho
 cases b with
 | true => cases e
 | false =>
  show (m.bind k).run l p = .out
  have e : m.run l p = .out := e
  rw [run_bind, e]
  rfl
theorem bind_assoc' {γ : Type} : ∀ (m : Pr α) (f : α → Pr β) (k : β → Pr γ), (m.bind f).bind k = m.bind fun x => (f x).bind k
 | .ret a, f, k => rfl
 | .fail, f, k => rfl
 | .out, f, k => rfl
 | .look g, f, k => by
  show Pr.look _ = Pr.look _
  congr 1
  funext t
  exact bind_assoc' (g t) f k
 | .adv m, f, k => by
  show Pr.adv _ = Pr.adv _
  congr 1
  exact bind_assoc' m f k
end
/-- the token that the reader sees -/
def rtok (l : List Tok) (p : Nat) (b : Bool) : Tok := if b = true then zTok else l.getD p zTok
def signB (t : Tok) (s : ByteArray) : Bool := decide (t.kind = 7) && decide (t.text = s)
def wordB (t : Tok) (s : ByteArray) : Bool := decide (t.kind = 6) && decide (t.text = s)
theorem step_next {l : List Tok} {p : Nat} {b : Bool} : Step l next p b (rtok l p b) p b := by cases b <;> rfl
theorem rtok_lt {l : List Tok} {p : Nat} {b : Bool} (h : (rtok l p b).kind ≠ 0) : b = false ∧ p < l.length := by
 cases b with
 | true => exact absurd rfl h
 | false =>
  refine ⟨rfl, ?_⟩
  rcases Nat.lt_or_ge p l.length with h1 | h1
  ·
   exact h1
  ·
   exact absurd (by show (l.getD p zTok).kind = 0; rw [getD_end h1]; rfl) h
theorem rtok_good {l : List Tok} {p : Nat} : rtok l p false = l.getD p zTok := rfl
set_option maxHeartbeats 4000000 in
set_option maxRecDepth 100000 in
theorem nextr {gp : Nat} {a : Option Addr} {c : Nat} {l : List Tok} {p : Nat} {b : Bool} {w : World} (h : RPar w gp a c l p b) : Calls Tryz.prog 39 #[.pointer (some ⟨gp, 0, none⟩)] w fun e w' => e = .returned (tokV (rtok l p b)) ∧ Fr No w w' := by
 have HP := Lib.hid h
 obtain ⟨n, hn⟩ : ∃ n, l.length = n := ⟨_, rfl⟩
 have hle := h.le
 have hlen := h.len
 obtain ⟨w1, hw1⟩ : ∃ w1, w.alloc (.cells #[.int .u8 0, .string ⟨#[]⟩, .int .i64 0, .int .i64 0] 31) = w1 := ⟨_, rfl⟩
 obtain ⟨g2, hg2⟩ : ∃ g2, w.heap.size = g2 := ⟨_, rfl⟩
 have R_r : Hid (w1.heap[g2]? = some (.cells #[.int .u8 0, .string ⟨#[]⟩, .int .i64 0, .int .i64 0] 31 (0, 0))) := Lib.hid (by rw [← hw1, ← hg2]; exact new_block _ _)
 have HF1 : Hid (Fr No w w1) := Lib.hid (by rw [← hw1]; exact Fr.alloc _ _)
 have HP1 := Lib.hid (h.no HF1.out)
 have c0 : w1.cell? ⟨gp, 0, none⟩ = some (.slice a n c) := by rw [← hn]; exact cell_of HP1.out.blk 0
 have c1 : w1.cell? ⟨gp, 1, none⟩ = some (.int .i64 p) := cell_of HP1.out.blk 1
 have c2 : w1.cell? ⟨gp, 2, none⟩ = some (.bool b) := cell_of HP1.out.blk 2
 have HW1 := Lib.hid hw1
 have HG2 := Lib.hid hg2
 have HG3 := Lib.hid hg2
 have HN := Lib.hid hn
 rw [hn] at hle hlen
 clear h hn hw1 hg2
 go_enter Tryz.func39, Tryz.ntmps39
 go_upto_region 1 with fail
 rw [HW1.out, HG2.out]
 clear HW1 HG2
 cases b with
 | true =>
  have HT : Hid (rtok l p true = zTok) := Lib.hid rfl
  go_quiet (fail)
  obtain ⟨wb, hwb⟩ : ∃ wb, w1.drewN nq = wb := ⟨_, rfl⟩
  have HFB : Hid (Fr No w1 wb) := Lib.hid (by rw [← hwb]; exact Fr.drewN _ _)
  rw [hwb]
  have RB := Lib.hid (HFB.out.keeps R_r.out no_one)
  clear hwb c0 c1 c2
  obtain ⟨⟨c0, c1, c2, c3⟩, f0, f1, f2, f3⟩ := z49 RB.out
  obtain ⟨h4, hs⟩ := four_cells (.int .u8 0) (.string ⟨#[]⟩) (.int .i64 0) (.int .i64 0) RB.out
  go_wp2_with fail
  (try simp only [Exit.inBlock, Exit.then])
  refine bodyPost_ret (results_st rfl Tryz.underlying31 (by kernel_rfl) _ _ g2 _ rfl rfl h4) rfl ?_
  exact ⟨by rw [HT.out]; rfl, (HF1.out.then HFB.out).own hs (fun i (e : i = g2) => by rw [e, ← HG3.out]; omega)⟩
 | false =>
  by_cases hp : p < n
  ·
   have hd : decide ((p : Int) < (n : Int)) = true := decide_eq_true (by omega)
   have hlt : (p : Int) < (n : Int) := by omega
   have hge : ¬ (n : Int) ≤ (p : Int) := by omega
   have hge2 : decide ((n : Int) ≤ (p : Int)) = false := decide_eq_false (by omega)
   obtain ⟨t, ht⟩ : ∃ t, l[p]? = some t := ⟨_, List.getElem?_eq_getElem (by rw [HN.out]; exact hp)⟩
   obtain ⟨tb, off, rfl, hb, d0, d1, d2, d3⟩ := HP1.out.row p t ht
   have HT : Hid (rtok l p false = t) := Lib.hid (getD_at ht)
   have HS0 : Hid (∀ w', Fr No w1 w' → w'.cell? ⟨gp, 0, none⟩ = some (.slice (some ⟨tb, off, none⟩) n c) ∧ w'.cell? ⟨gp, 1, none⟩ = some (.int .i64 p) ∧ w'.cell? ⟨tb, off + p * 4, none⟩ = some (.int .u8 t.kind) ∧ w'.cell? ⟨tb, off + p * 4 + 1, none⟩ = some (.string t.text) ∧ w'.cell? ⟨tb, off + p * 4 + 2, none⟩ = some (.int .i64 t.num) ∧ w'.cell? ⟨tb, off + p * 4 + 3, none⟩ = some (.int .i64 t.pos)) := Lib.hid (fun w' hf => ⟨hf.cell c0, hf.cell c1, hf.cell d0, hf.cell d1, hf.cell d2, hf.cell d3⟩)
   clear ht hb
   go_quiet (fail)
   go_upto_region 3 with fail
   obtain ⟨wb, hwb⟩ : ∃ wb, w1.drewN nq = wb := ⟨_, rfl⟩
   have HF : Hid (Fr No w1 wb) := Lib.hid (by rw [← hwb]; exact Fr.drewN _ _)
   (try rw [hwb])
   replace R_r := Lib.hid (HF.out.keeps R_r.out no_one)
   clear hwb c0 c1 c2 d0 d1 d2 d3
   refine region_e (fun w' => w'.cell? ⟨gp, 0, none⟩ = some (.slice (some ⟨tb, off, none⟩) n c) ∧ w'.cell? ⟨gp, 1, none⟩ = some (.int .i64 p) ∧ w'.cell? ⟨tb, off + p * 4, none⟩ = some (.int .u8 t.kind) ∧ w'.cell? ⟨tb, off + p * 4 + 1, none⟩ = some (.string t.text) ∧ w'.cell? ⟨tb, off + p * 4 + 2, none⟩ = some (.int .i64 t.num) ∧ w'.cell? ⟨tb, off + p * 4 + 3, none⟩ = some (.int .i64 t.pos)) [10] (by kernel_rfl) ?_ (fun hHeld => ?_)
   ·
    exact HS0.out _ (HF.out.then (Fr.drew _))
   obtain ⟨w6, hwd⟩ : ∃ wZ, wZ = wb.drew := ⟨_, rfl⟩
   have HS : Hid (Fr No wb w6) := Lib.hid (by rw [hwd]; exact Fr.drew _)
   rw [← hwd] at hHeld ⊢
   clear hwd
   replace R_r := Lib.hid (HS.out.keeps R_r.out no_one)
   replace HF := Lib.hid (HF.out.then HS.out)
   clear HS
   refine take_op 0 (some 20) (Op.move ( .tmp 0)) 55 ?_ (by kernel_rfl) (by kernel_rfl) (by kernel_rfl) (fun _ _ _ h => h) ?_ (by assumption) ?_
   rotate_left
   ·
    intro w hSw; (try dsimp only at hSw); go_simp; (try (with_reducible rfl))
   try simp only [Act.put, List.setIfInBounds_toArray, List.set_cons_zero, List.set_cons_succ]
   refine take_op 1 (some 21) (Op.nilCheck ( .tmp 20)) 0 ?_ (by kernel_rfl) (by kernel_rfl) (by kernel_rfl) (fun _ _ _ h => h) ?_ (by assumption) ?_
   rotate_left
   ·
    intro w hSw; (try dsimp only at hSw); go_simp; (try (with_reducible rfl))
   try simp only [Act.put, List.setIfInBounds_toArray, List.set_cons_zero, List.set_cons_succ]
   refine take_op 2 (some 22) (Op.fieldAddr 57 ( .tmp 21) 0) 0 ?_ (by kernel_rfl) (by kernel_rfl) (by kernel_rfl) (fun _ _ _ h => h) ?_ (by assumption) ?_
   rotate_left
   ·
    intro w hSw; (try dsimp only at hSw); go_simp; (try (with_reducible rfl))
   try simp only [Act.put, List.setIfInBounds_toArray, List.set_cons_zero, List.set_cons_succ]
   refine take_op 3 (some 23) (Op.load 22 ( .tmp 22)) 22 ?_ (by kernel_rfl) (by kernel_rfl) (by kernel_rfl) (fun _ _ _ h => h) ?_ (by assumption) ?_
   rotate_left
   ·
    intro w hSw; (try dsimp only at hSw); go_simp; (try (with_reducible rfl))
   try simp only [Act.put, List.setIfInBounds_toArray, List.set_cons_zero, List.set_cons_succ]
   refine take_op 4 (some 24) (Op.move ( .tmp 0)) 55 ?_ (by kernel_rfl) (by kernel_rfl) (by kernel_rfl) (fun _ _ _ h => h) ?_ (by assumption) ?_
   rotate_left
   ·
    intro w hSw; (try dsimp only at hSw); go_simp; (try (with_reducible rfl))
   try simp only [Act.put, List.setIfInBounds_toArray, List.set_cons_zero, List.set_cons_succ]
   refine take_op 5 (some 25) (Op.nilCheck ( .tmp 24)) 0 ?_ (by kernel_rfl) (by kernel_rfl) (by kernel_rfl) (fun _ _ _ h => h) ?_ (by assumption) ?_
   rotate_left
   ·
    intro w hSw; (try dsimp only at hSw); go_simp; (try (with_reducible rfl))
   try simp only [Act.put, List.setIfInBounds_toArray, List.set_cons_zero, List.set_cons_succ]
   refine take_op 6 (some 26) (Op.fieldAddr 57 ( .tmp 25) 1) 0 ?_ (by kernel_rfl) (by kernel_rfl) (by kernel_rfl) (fun _ _ _ h => h) ?_ (by assumption) ?_
   rotate_left
   ·
    intro w hSw; (try dsimp only at hSw); go_simp; (try (with_reducible rfl))
   try simp only [Act.put, List.setIfInBounds_toArray, List.set_cons_zero, List.set_cons_succ]
   refine take_op 7 (some 27) (Op.load 3 ( .tmp 26)) 3 ?_ (by kernel_rfl) (by kernel_rfl) (by kernel_rfl) (fun _ _ _ h => h) ?_ (by assumption) ?_
   rotate_left
   ·
    intro w hSw; (try dsimp only at hSw); go_simp; (try (with_reducible rfl))
   try simp only [Act.put, List.setIfInBounds_toArray, List.set_cons_zero, List.set_cons_succ]
   refine take_op 8 (some 28) (Op.indexAddr 22 ( .tmp 23) ( .tmp 27)) 0 ?_ (by kernel_rfl) (by kernel_rfl) (by kernel_rfl) (fun _ _ _ h => h) ?_ (by assumption) ?_
   rotate_left
   ·
    intro w hSw; (try dsimp only at hSw); go_simp; (try (with_reducible rfl))
   try simp only [Act.put, List.setIfInBounds_toArray, List.set_cons_zero, List.set_cons_succ]
   refine take_op 9 (some 29) (Op.load 31 ( .tmp 28)) 31 ?_ (by kernel_rfl) (by kernel_rfl) (by kernel_rfl) (fun _ _ _ h => h) ?_ (by assumption) ?_
   rotate_left
   ·
    intro w hSw; (try dsimp only at hSw); go_simp; (try (with_reducible rfl))
   try simp only [Act.put, List.setIfInBounds_toArray, List.set_cons_zero, List.set_cons_succ]
   obtain ⟨d0_r, d1_r, d2_r, d3_r⟩ : w6.cell? ⟨g2, 0, none⟩ = some (.int .u8 0) ∧ w6.cell? ⟨g2, 1, none⟩ = some (.string ⟨#[]⟩) ∧ w6.cell? ⟨g2, 2, none⟩ = some (.int .i64 0) ∧ w6.cell? ⟨g2, 3, none⟩ = some (.int .i64 0) := ⟨cell_of R_r.out 0, cell_of R_r.out 1, cell_of R_r.out 2, cell_of R_r.out 3⟩
   obtain ⟨f0_r, f1_r, f2_r, f3_r⟩ : w6.frozen? ⟨g2, 0, none⟩ = false ∧ w6.frozen? ⟨g2, 1, none⟩ = false ∧ w6.frozen? ⟨g2, 2, none⟩ = false ∧ w6.frozen? ⟨g2, 3, none⟩ = false := ⟨free_of R_r.out 0, free_of R_r.out 1, free_of R_r.out 2, free_of R_r.out 3⟩
   refine ready_e (rs := [10]) (by kernel_rfl) (by simp) ?_
   refine (do_late (o := _) rfl (by kernel_rfl) (fun K hK => ?_) none_e)
   go_simp
   obtain ⟨h4, hs⟩ := four_cells (.int .u8 t.kind) (.string t.text) (.int .i64 t.num) (.int .i64 t.pos) R_r.out
   obtain ⟨we, hwe⟩ : ∃ we, (((w6.setCell ⟨g2, 0, none⟩ (.int .u8 t.kind)).setCell ⟨g2, 1, none⟩ (.string t.text)).setCell ⟨g2, 2, none⟩ (.int .i64 t.num)).setCell ⟨g2, 3, none⟩ (.int .i64 t.pos) = we := ⟨_, rfl⟩
   rw [hwe] at h4 hs
   rw [hwe]
   clear hwe
   refine hK.out _ _ ?_
   clear hK K
   try dsimp only
   try simp only [Act.put, List.setIfInBounds_toArray, List.set_cons_zero, List.set_cons_succ]
   refine done_e (by kernel_rfl) ?_ _
   (try simp only [Exit.inBlock, Exit.then])
   go_wp2_with fail
   (try simp only [Exit.inBlock, Exit.then])
   refine bodyPost_ret (results_st rfl Tryz.underlying31 (by kernel_rfl) _ _ g2 _ rfl rfl h4) rfl ?_
   exact ⟨by rw [HT.out]; rfl, (HF1.out.then HF.out).own hs (fun i (e : i = g2) => by rw [e, ← HG3.out]; omega)⟩
  ·
   have hd : decide ((p : Int) < (n : Int)) = false := decide_eq_false (by omega)
   have hge : (n : Int) ≤ (p : Int) := by omega
   have hge2 : decide ((n : Int) ≤ (p : Int)) = true := decide_eq_true (by omega)
   have HT : Hid (rtok l p false = zTok) := Lib.hid (getD_end (by rw [HN.out]; omega))
   go_quiet (fail)
   obtain ⟨wb, hwb⟩ : ∃ wb, w1.drewN nq = wb := ⟨_, rfl⟩
   have HFB : Hid (Fr No w1 wb) := Lib.hid (by rw [← hwb]; exact Fr.drewN _ _)
   rw [hwb]
   have RB := Lib.hid (HFB.out.keeps R_r.out no_one)
   clear hwb c0 c1 c2
   obtain ⟨⟨c0, c1, c2, c3⟩, f0, f1, f2, f3⟩ := z49 RB.out
   obtain ⟨h4, hs⟩ := four_cells (.int .u8 0) (.string ⟨#[]⟩) (.int .i64 0) (.int .i64 0) RB.out
   go_wp2_with fail
   (try simp only [Exit.inBlock, Exit.then])
   refine bodyPost_ret (results_st rfl Tryz.underlying31 (by kernel_rfl) _ _ g2 _ rfl rfl h4) rfl ?_
   exact ⟨by rw [HT.out]; rfl, (HF1.out.then HFB.out).own hs (fun i (e : i = g2) => by rw [e, ← HG3.out]; omega)⟩
set_option maxHeartbeats 4000000 in
set_option maxRecDepth 100000 in
theorem signr {gp : Nat} {a : Option Addr} {c : Nat} {l : List Tok} {p : Nat} {b : Bool} {w : World} (h : RPar w gp a c l p b) (s : ByteArray) : Calls Tryz.prog 16 #[.pointer (some ⟨gp, 0, none⟩), .string s] w fun e w' => e = .returned (.bool (signB (rtok l p b) s)) ∧ Fr No w w' := by
 have HN := Lib.hid (nextr h)
 clear h
 obtain ⟨t, ht⟩ : ∃ t, rtok l p b = t := ⟨_, rfl⟩
 rw [ht] at HN ⊢
 clear ht
 go_enter Tryz.func16, Tryz.ntmps16
 go_wp2_with fail
 refine HN.out.mono ?_
 rintro e w1 ⟨rfl, hf⟩
 have HF := Lib.hid hf
 clear hf HN
 obtain ⟨k, tx, nu, po⟩ := t
 simp only [tokV]
 go_upto_region 2 with fail
 by_cases hk : k = 7
 ·
  have hq : ((k : Int) == 7) = true := by simp [hk]
  by_cases hs : tx = s
  ·
   have hx : (tx.toList == s.toList) = true := by rw [bytes_eq_iff]; exact decide_eq_true hs
   have HV : Hid (signB ⟨k, tx, nu, po⟩ s = true) := Lib.hid (by simp [signB, hk, hs])
   clear hk hs
   go_wp2_with fail
   go_ret
   exact ⟨by rw [HV.out]; rfl, HF.out.then (Fr.alloc _ _)⟩
  ·
   have hx : (tx.toList == s.toList) = false := by rw [bytes_eq_iff]; exact decide_eq_false hs
   have HV : Hid (signB ⟨k, tx, nu, po⟩ s = false) := Lib.hid (by simp [signB, hs])
   clear hk hs
   go_wp2_with fail
   go_ret
   exact ⟨by rw [HV.out]; rfl, HF.out.then (Fr.alloc _ _)⟩
 ·
  have hq : ((k : Int) == 7) = false := by simp only [beq_eq_false_iff_ne, ne_eq]; omega
  have HV : Hid (signB ⟨k, tx, nu, po⟩ s = false) := Lib.hid (by simp [signB, hk])
  clear hk
  go_wp2_with fail
  go_ret
  exact ⟨by rw [HV.out]; rfl, HF.out.then (Fr.alloc _ _)⟩
set_option maxHeartbeats 4000000 in
set_option maxRecDepth 100000 in
theorem wordr {gp : Nat} {a : Option Addr} {c : Nat} {l : List Tok} {p : Nat} {b : Bool} {w : World} (h : RPar w gp a c l p b) (s : ByteArray) : Calls Tryz.prog 32 #[.pointer (some ⟨gp, 0, none⟩), .string s] w fun e w' => e = .returned (.bool (wordB (rtok l p b) s)) ∧ Fr No w w' := by
 have HN := Lib.hid (nextr h)
 clear h
 obtain ⟨t, ht⟩ : ∃ t, rtok l p b = t := ⟨_, rfl⟩
 rw [ht] at HN ⊢
 clear ht
 go_enter Tryz.func32, Tryz.ntmps32
 go_wp2_with fail
 refine HN.out.mono ?_
 rintro e w1 ⟨rfl, hf⟩
 have HF := Lib.hid hf
 clear hf HN
 obtain ⟨k, tx, nu, po⟩ := t
 simp only [tokV]
 go_upto_region 2 with fail
 by_cases hk : k = 6
 ·
  have hq : ((k : Int) == 6) = true := by simp [hk]
  by_cases hs : tx = s
  ·
   have hx : (tx.toList == s.toList) = true := by rw [bytes_eq_iff]; exact decide_eq_true hs
   have HV : Hid (wordB ⟨k, tx, nu, po⟩ s = true) := Lib.hid (by simp [wordB, hk, hs])
   clear hk hs
   go_wp2_with fail
   go_ret
   exact ⟨by rw [HV.out]; rfl, HF.out.then (Fr.alloc _ _)⟩
  ·
   have hx : (tx.toList == s.toList) = false := by rw [bytes_eq_iff]; exact decide_eq_false hs
   have HV : Hid (wordB ⟨k, tx, nu, po⟩ s = false) := Lib.hid (by simp [wordB, hs])
   clear hk hs
   go_wp2_with fail
   go_ret
   exact ⟨by rw [HV.out]; rfl, HF.out.then (Fr.alloc _ _)⟩
 ·
  have hq : ((k : Int) == 6) = false := by simp only [beq_eq_false_iff_ne, ne_eq]; omega
  have HV : Hid (wordB ⟨k, tx, nu, po⟩ s = false) := Lib.hid (by simp [wordB, hk])
  clear hk
  go_wp2_with fail
  go_ret
  exact ⟨by rw [HV.out]; rfl, HF.out.then (Fr.alloc _ _)⟩
/-- behind 'must' -/
theorem set_p {w : World} {gp : Nat} {a : Option Addr} {c : Nat} {l : List Tok} {p : Nat} (h : RPar w gp a c l p false) (hp : p < l.length) : RPar (w.setCell ⟨gp, 1, none⟩ (.int .i64 ((p : Int) + 1))) gp a c l (p + 1) false := by
 have hb := block_setCell h.blk 1 (.int .i64 ((p : Int) + 1))
 exact h.of (Fr.setCell w ⟨gp, 1, none⟩ _) hb hp
theorem set_b {w : World} {gp : Nat} {a : Option Addr} {c : Nat} {l : List Tok} {p : Nat} {b : Bool} (h : RPar w gp a c l p b) : RPar (w.setCell ⟨gp, 2, none⟩ (.bool true)) gp a c l p true := by
 have hb := block_setCell h.blk 2 (.bool true)
 exact h.of (Fr.setCell w ⟨gp, 2, none⟩ _) hb h.le
set_option maxHeartbeats 4000000 in
set_option maxRecDepth 100000 in
theorem mayr {gp : Nat} {a : Option Addr} {c : Nat} {l : List Tok} {p : Nat} {b : Bool} {w : World} (h : RPar w gp a c l p b) (is : Bool) (hi : is = true → b = false → p < l.length) : Calls Tryz.prog 31 #[.pointer (some ⟨gp, 0, none⟩), .bool is] w fun e w' => e = .returned (.bool (is && !b)) ∧ Fr (Just gp) w w' ∧ RPar w' gp a c l (if (is && !b) = true then p + 1 else p) b := by
 have HP := Lib.hid h
 have hle := h.le
 have hlen := h.len
 have c1 : w.cell? ⟨gp, 1, none⟩ = some (.int .i64 p) := cell_of h.blk 1
 have c2 : w.cell? ⟨gp, 2, none⟩ = some (.bool b) := cell_of h.blk 2
 have f1 := free_of h.blk 1
 clear h
 go_enter Tryz.func31, Tryz.ntmps31
 cases is with
 | false =>
  go_wp2_with fail
  go_ret
  exact ⟨rfl, Fr.refl _ _, HP.out⟩
 | true =>
  cases b with
  | true =>
   go_wp2_with fail
   go_ret
   exact ⟨rfl, Fr.refl _ _, HP.out⟩
  | false =>
   have hp := hi rfl rfl
   have HS := Lib.hid (set_p HP.out hp)
   clear hi
   go_wp2_with fail
   go_ret
   exact ⟨rfl, Fr.setCell _ ⟨gp, 1, none⟩ _, HS.out⟩
set_option maxHeartbeats 4000000 in
set_option maxRecDepth 100000 in
theorem mustr {gp : Nat} {a : Option Addr} {c : Nat} {l : List Tok} {p : Nat} {b : Bool} {w : World} (h : RPar w gp a c l p b) (is : Bool) (hi : is = true → b = false → p < l.length) : Calls Tryz.prog 15 #[.pointer (some ⟨gp, 0, none⟩), .bool is] w fun e w' => e = .returned (.tuple #[]) ∧ Fr (Just gp) w w' ∧ RPar w' gp a c l (if (is && !b) = true then p + 1 else p) (b || !is) := by
 have HP := Lib.hid h
 have hle := h.le
 have hlen := h.len
 have c1 : w.cell? ⟨gp, 1, none⟩ = some (.int .i64 p) := cell_of h.blk 1
 have c2 : w.cell? ⟨gp, 2, none⟩ = some (.bool b) := cell_of h.blk 2
 have f1 := free_of h.blk 1
 have f2 := free_of h.blk 2
 have HB := Lib.hid (set_b h)
 clear h
 go_enter Tryz.func15, Tryz.ntmps15
 cases is with
 | false =>
  cases b with
  | true =>
   go_wp2_with fail
   exact ⟨rfl, .tuple #[], by simp [results], rfl, Fr.setCell _ ⟨gp, 2, none⟩ _, HB.out⟩
  | false =>
   go_wp2_with fail
   exact ⟨rfl, .tuple #[], by simp [results], rfl, Fr.setCell _ ⟨gp, 2, none⟩ _, HB.out⟩
 | true =>
  cases b with
  | true =>
   go_wp2_with fail
   exact ⟨rfl, .tuple #[], by simp [results], rfl, Fr.setCell _ ⟨gp, 2, none⟩ _, HB.out⟩
  | false =>
   have hp := hi rfl rfl
   have HS := Lib.hid (set_p HP.out hp)
   clear hi
   go_wp2_with fail
   exact ⟨rfl, .tuple #[], by simp [results], rfl, Fr.setCell _ ⟨gp, 1, none⟩ _, HS.out⟩
set_option maxHeartbeats 4000000 in
set_option maxRecDepth 100000 in
theorem taker {gp : Nat} {a : Option Addr} {c : Nat} {l : List Tok} {p : Nat} {b : Bool} {w : World} (h : RPar w gp a c l p b) (k : Nat) (hk0 : k ≠ 0) : Calls Tryz.prog 33 #[.pointer (some ⟨gp, 0, none⟩), .int .u8 k] w fun e w' => e = .returned (tokV (if (rtok l p b).kind = k then rtok l p b else zTok)) ∧ Fr (Just gp) w w' ∧ RPar w' gp a c l (if (rtok l p b).kind = k then p + 1 else p) (decide ((rtok l p b).kind ≠ k)) := by
 have HN := Lib.hid (fun u hf => nextr (h.no (w' := u) hf))
 have HP := Lib.hid h
 have hgp := lt_of_block h.blk
 have hle := h.le
 have hlen := h.len
 obtain ⟨t, ht⟩ : ∃ t, rtok l p b = t := ⟨_, rfl⟩
 have hlt : t.kind ≠ 0 → b = false ∧ p < l.length := by rw [← ht]; exact rtok_lt
 rw [ht] at HN ⊢
 clear ht h
 go_enter Tryz.func33, Tryz.ntmps33
 go_upto_region 1 with fail
 obtain ⟨w1, hw1⟩ : ∃ w1, w.alloc (.cells #[.int .u8 0, .string ⟨#[]⟩, .int .i64 0, .int .i64 0] 31) = w1 := ⟨_, rfl⟩
 obtain ⟨g2, hg2⟩ : ∃ g2, w.heap.size = g2 := ⟨_, rfl⟩
 have R_r : Hid (w1.heap[g2]? = some (.cells #[.int .u8 0, .string ⟨#[]⟩, .int .i64 0, .int .i64 0] 31 (0, 0))) := Lib.hid (by rw [← hw1, ← hg2]; exact new_block _ _)
 have HF : Hid (Fr No w w1) := Lib.hid (by rw [← hw1]; exact Fr.alloc _ _)
 have HG := Lib.hid hg2
 rw [hw1, hg2]
 rw [hg2] at hgp
 clear hw1 hg2
 go_wp2_with fail
 refine (HN.out w1 HF.out).mono ?_
 rintro e w2 ⟨rfl, hf⟩
 replace R_r := Lib.hid (hf.keeps R_r.out no_one)
 replace HF := Lib.hid (HF.out.then hf)
 clear hf HN
 obtain ⟨kt, tx, nu, po⟩ := t
 simp only [tokV]
 go_upto_region 2 with fail
 obtain ⟨w3, hw3⟩ : ∃ w3, w2.alloc (.cells #[.int .u8 kt, .string tx, .int .i64 nu, .int .i64 po] 31) = w3 := ⟨_, rfl⟩
 obtain ⟨g3, hg3⟩ : ∃ g3, w2.heap.size = g3 := ⟨_, rfl⟩
 have R_t : Hid (w3.heap[g3]? = some (.cells #[.int .u8 kt, .string tx, .int .i64 nu, .int .i64 po] 31 (0, 0))) := Lib.hid (by rw [← hw3, ← hg3]; exact new_block _ _)
 have hf3 : Fr No w2 w3 := by rw [← hw3]; exact Fr.alloc _ _
 have hg23 : g2 < g3 := by rw [← hg3]; exact lt_of_block R_r.out
 replace R_r := Lib.hid (hf3.keeps R_r.out no_one)
 replace HF := Lib.hid (HF.out.then hf3)
 rw [hw3, hg3]
 clear hw3 hg3 hf3
 have HP3 := Lib.hid (HP.out.no HF.out)
 have e1 : w3.cell? ⟨gp, 1, none⟩ = some (.int .i64 p) := cell_of HP3.out.blk 1
 have e2 : w3.cell? ⟨gp, 2, none⟩ = some (.bool b) := cell_of HP3.out.blk 2
 have ef1 := free_of HP3.out.blk 1
 have ef2 := free_of HP3.out.blk 2
 have hne : gp ≠ g2 := by omega
 have hne2 : gp ≠ g3 := by omega
 obtain ⟨⟨d0, d1, d2, d3⟩, _⟩ := z49 R_t.out
 by_cases hk : kt = k
 ·
  subst hk
  have hq : ((kt : Int) != (kt : Int)) = false := by simp
  obtain ⟨hb, hp⟩ := hlt hk0
  subst hb
  have HS := Lib.hid (set_p HP3.out hp)
  clear hlt
  go_upto_region 6 with fail
  obtain ⟨w4, hw4⟩ : ∃ w4, w3.setCell ⟨gp, 1, none⟩ (.int .i64 ((p : Int) + 1)) = w4 := ⟨_, rfl⟩
  rw [hw4] at HS ⊢
  have hf4 : Fr (Just gp) w3 w4 := by rw [← hw4]; exact Fr.setCell _ ⟨gp, 1, none⟩ _
  replace R_r := Lib.hid (hf4.keeps R_r.out (fun (h : g2 = gp) => hne h.symm))
  replace R_t := Lib.hid (hf4.keeps R_t.out (fun (h : g3 = gp) => hne2 h.symm))
  have HF4 := Lib.hid hf4
  clear hw4 hf4 e1 e2 ef1 ef2 d0 d1 d2 d3
  obtain ⟨⟨d0, d1, d2, d3⟩, _⟩ := z49 R_t.out
  obtain ⟨⟨c0, c1, c2, c3⟩, f0, f1, f2, f3⟩ := z49 R_r.out
  obtain ⟨h4, hs⟩ := four_cells (.int .u8 kt) (.string tx) (.int .i64 nu) (.int .i64 po) R_r.out
  go_wp2_with fail
  (try simp only [Exit.inBlock, Exit.then])
  refine bodyPost_ret (results_st rfl Tryz.underlying31 (by kernel_rfl) _ _ g2 _ rfl rfl h4) rfl ?_
  have HFR := Lib.hid (((HF.out.just gp).trans HF4.out (fun _ _ h => h)).trans hs (fun i hi (h : i = g2) => by have := HG.out; omega))
  have hfin := hs.keeps HS.out.blk (fun (h : gp = g2) => hne h)
  exact ⟨rfl, HFR.out, HP.out.of HFR.out hfin HS.out.le⟩
 ·
  have hq : ((kt : Int) != (k : Int)) = true := by simp only [bne_iff_ne, ne_eq]; omega
  have HS := Lib.hid (set_b HP3.out)
  have HK := Lib.hid hk
  clear hk hlt
  go_upto_region 4 with fail
  obtain ⟨w4, hw4⟩ : ∃ w4, w3.setCell ⟨gp, 2, none⟩ (.bool true) = w4 := ⟨_, rfl⟩
  rw [hw4] at HS ⊢
  have hf4 : Fr (Just gp) w3 w4 := by rw [← hw4]; exact Fr.setCell _ ⟨gp, 2, none⟩ _
  replace R_r := Lib.hid (hf4.keeps R_r.out (fun (h : g2 = gp) => hne h.symm))
  have HF4 := Lib.hid hf4
  clear hw4 hf4 e1 e2 ef1 ef2 d0 d1 d2 d3
  obtain ⟨⟨c0, c1, c2, c3⟩, f0, f1, f2, f3⟩ := z49 R_r.out
  obtain ⟨h4, hs⟩ := four_cells (.int .u8 0) (.string ⟨#[]⟩) (.int .i64 0) (.int .i64 0) R_r.out
  go_wp2_with fail
  (try simp only [Exit.inBlock, Exit.then])
  refine bodyPost_ret (results_st rfl Tryz.underlying31 (by kernel_rfl) _ _ g2 _ rfl rfl h4) rfl ?_
  have HFR := Lib.hid (((HF.out.just gp).trans HF4.out (fun _ _ h => h)).trans hs (fun i hi (h : i = g2) => by have := HG.out; omega))
  have hfin := hs.keeps HS.out.blk (fun (h : gp = g2) => hne h)
  have hkk : (if kt = k then p + 1 else p) = p := if_neg HK.out
  refine ⟨by first | rfl | (simp only [HK.out, if_false]; rfl), HFR.out, ?_⟩
  have hfin2 := HP.out.of HFR.out hfin HS.out.le
  simpa [HK.out] using hfin2
end Go.Proofs.YtjabhmepafofmaaGreatDoor
namespace Go.Proofs.YtjabhmepafofmaaGreatDoor
open Go.RowKit
theorem sign_sees {t : Tok} {s : ByteArray} (hs : letterB s = false) : seesB t [s] = signB t s := by
 unfold seesB signB isWordB
 by_cases h : t.text = s
 ·
  subst h
  rw [hs]
  by_cases h7 : t.kind = 7
  ·
   simp [h7]
  ·
   by_cases h6 : t.kind = 6 <;> simp [h6, h7]
 ·
  have h2 : ¬ s = t.text := fun e => h e.symm
  simp [h, h2]
theorem word_sees {t : Tok} {s : ByteArray} (hs : letterB s = true) : seesB t [s] = wordB t s := by
 unfold seesB wordB isWordB
 by_cases h : t.text = s
 ·
  subst h
  rw [hs]
  by_cases h6 : t.kind = 6
  ·
   simp [h6]
  ·
   by_cases h7 : t.kind = 7 <;> simp [h6, h7]
 ·
  have h2 : ¬ s = t.text := fun e => h e.symm
  simp [h, h2]
theorem sees_cons {t : Tok} {s : ByteArray} {r : List ByteArray} : seesB t (s :: r) = (seesB t [s] || seesB t r) := by
 unfold seesB
 cases h : ((decide (t.kind = 6) || decide (t.kind = 7)) && isWordB t) <;> simp
theorem sees_in {l : List Tok} {p : Nat} {L : List ByteArray} (h : seesB (l.getD p zTok) L = true) : p < l.length := by
 rcases Nat.lt_or_ge p l.length with h1 | h1
 ·
  exact h1
 ·
  rw [getD_end h1] at h
  simp [seesB, zTok] at h
section
variable {gp : Nat} {a : Option Addr} {c : Nat} {l : List Tok} {p : Nat} {b : Bool} {w : World}
theorem mayC (h : RPar w gp a c l p b) (L : List ByteArray) (is : Bool) (hc : b = false → is = seesB (l.getD p zTok) L) : Calls Tryz.prog 31 #[.pointer (some ⟨gp, 0, none⟩), .bool is] w fun e w' =>
  ∃ t q, e = .returned (.bool t) ∧ Step l (skip L) p b t q b ∧ Fr (Just gp) w w' ∧ RPar w' gp a c l q b ∧ (t = true → b = false ∧ q = p + 1 ∧ p < l.length ∧ seesB (l.getD p zTok) L = true) ∧ (t = false → q = p) := by
 refine (mayr h is (fun h1 h2 => sees_in (by rw [← hc h2]; exact h1))).mono ?_
 rintro e w' ⟨rfl, hf, hp⟩
 refine ⟨_, _, rfl, ?_, hf, hp, fun ht => ?_, fun ht => ?_⟩
 ·
  cases b with
  | true => cases is <;> rfl
  | false =>
   have e := hc rfl
   show (skip L).run l p = _
   show Pr.run l (if seesB (l.getD p zTok) L = true then _ else _ : Pr Bool) p = _
   rw [← e]
   cases is <;> rfl
 ·
  cases b with
  | true => cases is <;> cases ht
  | false =>
   have e := hc rfl
   cases is with
   | false => cases ht
   | true => exact ⟨rfl, rfl, sees_in e.symm, e.symm⟩
 ·
  rw [if_neg (by rw [ht]; decide)]
theorem mustC (h : RPar w gp a c l p b) (s : ByteArray) (is : Bool) (hc : b = false → is = seesB (l.getD p zTok) [s]) : Calls Tryz.prog 15 #[.pointer (some ⟨gp, 0, none⟩), .bool is] w fun e w' =>
  ∃ q b', e = .returned (.tuple #[]) ∧ Step l (must s) p b () q b' ∧ Fr (Just gp) w w' ∧ RPar w' gp a c l q b' ∧ (b' = false → q = p + 1) := by
 refine (mustr h is (fun h1 h2 => sees_in (by rw [← hc h2]; exact h1))).mono ?_
 rintro e w' ⟨rfl, hf, hp⟩
 refine ⟨_, _, rfl, ?_, hf, hp, fun h => ?_⟩
 ·
  cases b with
  | true => cases is <;> rfl
  | false =>
   have e := hc rfl
   show Pr.run l (if seesB (l.getD p zTok) [s] = true then _ else _ : Pr Unit) p = _
   rw [← e]
   cases is <;> rfl
 ·
  cases b <;> cases is <;> first | rfl | cases h
theorem takeC (h : RPar w gp a c l p b) (k : Nat) (hk : k ≠ 0) : Calls Tryz.prog 33 #[.pointer (some ⟨gp, 0, none⟩), .int .u8 k] w fun e w' =>
  ∃ (t : Tok) (q : Nat) (b' : Bool), e = .returned (tokV t) ∧ Step l (take k) p b t.text q b' ∧ Fr (Just gp) w w' ∧ RPar w' gp a c l q b' ∧ (b' = false → b = false ∧ t = l.getD p zTok ∧ q = p + 1 ∧ p < l.length) := by
 refine (taker h k hk).mono ?_
 rintro e w' ⟨rfl, hf, hp⟩
 refine ⟨_, _, _, rfl, ?_, hf, hp, fun hb => ?_⟩
 ·
  cases b with
  | true =>
   have hz : (rtok l p true).kind ≠ k := fun e => hk e.symm
   rw [if_neg hz, if_neg hz, decide_eq_true hz]
   rfl
  | false =>
   show Pr.run l (if (l.getD p zTok).kind = k then _ else _ : Pr ByteArray) p = _
   rw [rtok_good]
   by_cases hz : (l.getD p zTok).kind = k
   ·
    rw [if_pos hz, if_pos hz, if_pos hz, decide_eq_false (fun h => h hz)]
    rfl
   ·
    rw [if_neg hz, if_neg hz, if_neg hz, decide_eq_true hz]
    rfl
 ·
  have hz : (rtok l p b).kind = k := Classical.not_not.1 (of_decide_eq_false hb)
  obtain ⟨h1, h2⟩ := rtok_lt (l := l) (p := p) (b := b) (by rw [hz]; exact hk)
  subst h1
  rw [if_pos hz, if_pos hz]
  exact ⟨rfl, rfl, rfl, h2⟩
end
/-- the contract of a reader's function -/
def RC {α : Type} (gp : Nat) (a : Option Addr) (c : Nat) (l : List Tok) (f : FuncId) (args : List Value) (Rep : Nat → World → α → Ending → Prop) (m : Pr α) : Prop :=
 ∀ (w : World) (p : Nat) (b : Bool), RPar w gp a c l p b → runS l m p b ≠ .out → Calls Tryz.prog f (Value.pointer (some ⟨gp, 0, none⟩) :: args).toArray w fun e w' => ∃ (t : α) (q : Nat) (b' : Bool), Step l m p b t q b' ∧ Rep w.heap.size w' t e ∧ Fr (Just gp) w w' ∧ RPar w' gp a c l q b'
structure ROks (gp : Nat) (a : Option Addr) (c : Nat) (l : List Tok) (g : Gr) : Prop where
 ty : RC gp a c l 38 [] (stE xT) g.ty
 row : RC gp a c l 61 [] (stE xT) g.row
 post : RC gp a c l 88 [] (stE xT) g.post
 tyAtom : RC gp a c l 101 [] (stE xT) g.tyAtom
 exp : RC gp a c l 34 [] (stE xE) g.exp
 rule : RC gp a c l 85 [] (stE xR) g.rule
 level : ∀ n : Nat, n ≤ 5 → RC gp a c l 60 [.int .i64 n] (stE xE) (g.level n)
 calls : RC gp a c l 86 [] (stE xE) g.calls
 prefix_ : RC gp a c l 99 [] (stE xE) g.prefix_
 atom : RC gp a c l 107 [] (stE xE) g.atom
 let_ : RC gp a c l 111 [] (stE xE) g.let_
 pat : RC gp a c l 98 [] (stE xT) g.pat
 patAtom : RC gp a c l 106 [] (stE xT) g.patAtom
 dec : ∀ b : Bool, RC gp a c l 14 [.bool b] (stE xD) (g.dec b)
 con : RC gp a c l 37 [] (stE xC) g.con
 fun_ : RC gp a c l 35 [] (stE xF) g.fun_
section
variable {α β : Type} {l : List Tok}
/-- at the head of a loop: one more, if there is the sign -/
theorem more_head {s : ByteArray} {one : Pr α} {k : List α → Pr β} {j : Nat} {acc : List α} {q : Nat} {b : Bool} {V : Re β} (h : runS l ((more s one j acc).bind k) q b = V) (ho : V ≠ .out) :
  ∃ j', runS l ((skip [s]).bind fun c => if c = true then one.bind (fun x => (more s one j' (acc ++ [x])).bind k) else k acc) q b = V := by
 cases j with
 | zero =>
  cases b with
  | true => exact ⟨0, h⟩
  | false => exact absurd h.symm ho
 | succ j =>
  refine ⟨j, ?_⟩
  rw [← h, more, bind_assoc']
  congr 2
  funext c
  cases c
  ·
   rfl
  ·
   show one.bind _ = (one.bind _).bind k
   rw [bind_assoc']
end
theorem sign_c {l : List Tok} {p : Nat} {b : Bool} {s : ByteArray} (hs : letterB s = false) (hb : b = false) : signB (rtok l p b) s = seesB (l.getD p zTok) [s] := by
 subst hb
 exact (sign_sees hs).symm
theorem word_c {l : List Tok} {p : Nat} {b : Bool} {s : ByteArray} (hs : letterB s = true) (hb : b = false) : wordB (rtok l p b) s = seesB (l.getD p zTok) [s] := by
 subst hb
 exact (word_sees hs).symm
theorem fail_mono (l : List Tok) {α : Type} : ∀ (m : Pr α) (p q : Nat), m.run l p = .fail q → p ≤ q
 | .ret a, p, q, h => by cases h
 | .fail, p, q, h => by
  cases h
  exact Nat.le_refl _
 | .out, p, q, h => by cases h
 | .look f, p, q, h => fail_mono l (f (l.getD p zTok)) p q h
 | .adv m, p, q, h => by
  have := fail_mono l m (p + 1) q h
  omega
theorem step_mono {α : Type} {l : List Tok} {m : Pr α} {p q : Nat} {b b' : Bool} {t : α} (h : Step l m p b t q b') : p ≤ q := by
 cases b with
 | true =>
  cases b' with
  | true =>
   have h : Re.fail p = Re.fail q := h
   cases h
   exact Nat.le_refl _
  | false => cases h
 | false =>
  cases b' with
  | true => exact fail_mono l m p q h
  | false => exact run_mono l m p q t h
end Go.Proofs.YtjabhmepafofmaaGreatDoor
namespace Go.Proofs.YtjabhmepafofmaaGreatDoor
open Go.RowKit
def rowK (l : List T) : Pr T := match l with
 | [t] => .ret t
 | l => .ret (.mk 4 nob 0 l)
theorem pRow_eq (g : Gr) (n : Nat) : g.pRow n = (some_ n ⟨#[42]⟩ g.post).bind rowK := rfl
def tyK2 (l : List T) : Pr T := match l with
 | [t] => .ret t
 | l => (take 1).bind fun s => .ret (.mk 2 s 0 l)
def tyK (l : List T) : Pr T := (must ⟨#[41]⟩).bind fun _ => tyK2 l
theorem pTyAtom_eq (g : Gr) (n : Nat) : g.pTyAtom n = next.bind fun k => if k.kind = 3 then (take 3).bind fun s => .ret (.mk 1 s 0 [])
 else if k.kind = 1 then (take 1).bind fun s => .ret (.mk 2 s 0 [])
 else (must ⟨#[40]⟩).bind fun _ => (some_ n ⟨#[44]⟩ g.ty).bind tyK := rfl
def patK2 (l : List T) : Pr T := match l with
 | [t] => .ret t
 | l => .ret (.mk 5 nob 0 l)
def patK (l : List T) : Pr T := (must ⟨#[41]⟩).bind fun _ => patK2 l
theorem pPatRound_eq (g : Gr) (n : Nat) : g.pPatRound n = (skip [⟨#[41]⟩]).bind fun b => if b then .ret (.mk 4 nob 0 []) else (some_ n ⟨#[44]⟩ g.pat).bind patK := rfl
section
variable {gp : Nat} {a : Option Addr} {c : Nat} {l : List Tok} {p : Nat} {b : Bool} {w : World}
theorem takeK (h : RPar w gp a c l p b) {t : Tok} (ht : rtok l p b = t) {k : Nat} (hk : t.kind = k) (h0 : k ≠ 0) : Calls Tryz.prog 33 #[.pointer (some ⟨gp, 0, none⟩), .int .u8 k] w fun e w' =>
  e = .returned (tokV t) ∧ Step l (take k) p b t.text (p + 1) false ∧ Fr (Just gp) w w' ∧ RPar w' gp a c l (p + 1) false ∧ b = false ∧ p < l.length := by
 have hk2 : (rtok l p b).kind = k := by rw [ht]; exact hk
 obtain ⟨h1, h2⟩ := rtok_lt (l := l) (p := p) (b := b) (by rw [hk2]; exact h0)
 refine (taker h k h0).mono ?_
 rw [if_pos hk2, if_pos hk2, show decide ((rtok l p b).kind ≠ k) = false from decide_eq_false (fun h => h hk2), ht]
 rintro e w' ⟨rfl, hf, hp⟩
 refine ⟨rfl, ?_, hf, hp, h1, h2⟩
 subst h1
 show Pr.run l (if (l.getD p zTok).kind = k then _ else _ : Pr ByteArray) p = _
 rw [rtok_good] at ht hk2
 rw [if_pos hk2, ht]
 rfl
end
def posR (gp : Nat) (w : World) : Nat := match w.cell? ⟨gp, 1, none⟩ with
 | some (.int _ p) => p.toNat
 | _ => 0
theorem posR_at {gp p : Nat} {w : World} {v u : Value} (h : w.heap[gp]? = some (.cells #[v, .int .i64 (p : Nat), u] 57 (0, 0))) : posR gp w = p := by
 unfold posR
 rw [cell_of h 1]
 rfl
section
variable {α β : Type} {l : List Tok}
theorem names_head {j : Nat} {x : T} {q : Nat} {b : Bool} {V : Re T} (h : runS l (Gr.names j x) q b = V) (ho : V ≠ .out) : ∃ j', runS l (next.bind fun k => if k.kind = 1 then (take 1).bind fun s => Gr.names j' (.mk 2 s 0 [x]) else .ret x) q b = V := by
 cases j with
 | zero =>
  cases b with
  | true => exact ⟨0, h⟩
  | false => exact absurd h.symm ho
 | succ j => exact ⟨j, h⟩
theorem calls_head {g : Gr} {j : Nat} {x : E} {q : Nat} {b : Bool} {V : Re E} (h : runS l (g.callsL j x) q b = V) (ho : V ≠ .out) : ∃ j', runS l (next.bind fun k => if Gr.startsB k = true then g.prefix_.bind fun e2 => g.callsL j' (Gr.mkE 8 nob [x, e2]) else .ret x) q b = V := by
 cases j with
 | zero =>
  cases b with
  | true => exact ⟨0, h⟩
  | false => exact absurd h.symm ho
 | succ j => exact ⟨j, h⟩
theorem ops_head {g : Gr} {lv j : Nat} {x : E} {q : Nat} {b : Bool} {V : Re E} (h : runS l (g.opsL lv j x) q b = V) (ho : V ≠ .out) : ∃ j', runS l (next.bind fun k => if seesB k (Gr.ops lv) = true then .adv ((g.level (if Gr.rows lv = 1 then lv else lv + 1)).bind fun e2 => if Gr.rows lv = 2 then g.opsL lv j' (Gr.mkE 15 k.text [x, e2]) else .ret (Gr.mkE 15 k.text [x, e2])) else .ret x) q b = V := by
 cases j with
 | zero =>
  cases b with
  | true => exact ⟨0, h⟩
  | false => exact absurd h.symm ho
 | succ j => exact ⟨j, h⟩
theorem args_head {j : Nat} {x : List ByteArray} {k : List ByteArray → Pr β} {q : Nat} {b : Bool} {V : Re β} (h : runS l ((Gr.argsL j x).bind k) q b = V) (ho : V ≠ .out) : ∃ j', runS l (next.bind fun t => if t.kind = 1 then (take 1).bind fun s => (Gr.argsL j' (x ++ [s])).bind k else k x) q b = V := by
 cases j with
 | zero =>
  cases b with
  | true => exact ⟨0, h⟩
  | false => exact absurd h.symm ho
 | succ j =>
  refine ⟨j, ?_⟩
  rw [← h, Gr.argsL, bind_assoc']
  congr 2
  funext t
  split
  ·
   rw [bind_assoc']
  ·
   rfl
theorem decs_head {g : Gr} {j : Nat} {x : List D} {k : List D → Pr β} {q : Nat} {b : Bool} {V : Re β} (h : runS l ((g.decsL j x).bind k) q b = V) (ho : V ≠ .out) : ∃ j', runS l ((g.dec false).bind fun d => (must ⟨#[59]⟩).bind fun _ => (skip [⟨#[105, 110]⟩]).bind fun c => if c = true then k (x ++ [d]) else (g.decsL j' (x ++ [d])).bind k) q b = V := by
 cases j with
 | zero =>
  cases b with
  | true => exact ⟨0, h⟩
  | false => exact absurd h.symm ho
 | succ j =>
  refine ⟨j, ?_⟩
  rw [← h, Gr.decsL, bind_assoc']
  congr 2
  funext d
  rw [bind_assoc']
  congr 1
  funext _
  rw [bind_assoc']
  congr 1
  funext c
  cases c <;> rfl
end
theorem starts_eq (t : Tok) : Gr.startsB t = (decide (t.kind = 1) || decide (t.kind = 2) || decide (t.kind = 4) || decide (t.kind = 5) || (wordB t ⟨#[116, 114, 117, 101]⟩ || (wordB t ⟨#[102, 97, 108, 115, 101]⟩ || (wordB t ⟨#[108, 101, 116]⟩ || (signB t ⟨#[40]⟩ || (signB t ⟨#[33]⟩ || signB t ⟨#[126]⟩)))))) := by
 unfold Gr.startsB
 rw [sees_cons, sees_cons (r := [⟨#[108, 101, 116]⟩, _, _, _]), sees_cons (r := [⟨#[40]⟩, _, _]), sees_cons (r := [⟨#[33]⟩, _]), sees_cons (r := [⟨#[126]⟩]),
  word_sees (by kernel_rfl), word_sees (by kernel_rfl), word_sees (by kernel_rfl), sign_sees (by kernel_rfl), sign_sees (by kernel_rfl), sign_sees (by kernel_rfl)]
theorem pat_eq (t : Tok) : Gr.patB t = (decide (t.kind = 1) || decide (t.kind = 4) || decide (t.kind = 2) || (signB t ⟨#[95]⟩ || (signB t ⟨#[126]⟩ || (signB t ⟨#[40]⟩ || (wordB t ⟨#[116, 114, 117, 101]⟩ || wordB t ⟨#[102, 97, 108, 115, 101]⟩))))) := by
 unfold Gr.patB
 rw [sees_cons, sees_cons (r := [⟨#[40]⟩, _, _]), sees_cons (r := [⟨#[116, 114, 117, 101]⟩, _]), sees_cons (r := [⟨#[102, 97, 108, 115, 101]⟩]),
  sign_sees (by kernel_rfl), sign_sees (by kernel_rfl), sign_sees (by kernel_rfl), word_sees (by kernel_rfl), word_sees (by kernel_rfl)]
theorem tf_eq (t : Tok) : seesB t [⟨#[116, 114, 117, 101]⟩, ⟨#[102, 97, 108, 115, 101]⟩] = (wordB t ⟨#[116, 114, 117, 101]⟩ || wordB t ⟨#[102, 97, 108, 115, 101]⟩) := by
 rw [sees_cons, word_sees (by kernel_rfl), word_sees (by kernel_rfl)]
theorem nt_eq (t : Tok) : seesB t [⟨#[33]⟩, ⟨#[126]⟩] = (signB t ⟨#[33]⟩ || signB t ⟨#[126]⟩) := by
 rw [sees_cons, sign_sees (by kernel_rfl), sign_sees (by kernel_rfl)]
theorem adv_run {α : Type} {l : List Tok} {m : Pr α} {p : Nat} {V : Re α} (h : runS l (.adv m) p false = V) : runS l m (p + 1) false = V := h
theorem skip_none {α : Type} {l : List Tok} {L : List ByteArray} {k : Bool → Pr α} {p : Nat} {b : Bool} {V : Re α} (h : runS l ((skip L).bind k) p b = V) (hs : b = false → seesB (l.getD p zTok) L = false) : runS l (k false) p b = V := by
 refine stepV h ?_
 cases b with
 | true => rfl
 | false =>
  show Pr.run l (if seesB (l.getD p zTok) L = true then _ else _ : Pr Bool) p = _
  rw [hs rfl]
  rfl
theorem hx_three {ok : Nat → Prop} {w : World} {g k : Nat} {c d e : List Value} {t : TypeId} {z : Nat × Nat} {x y v : List X} (hb : w.heap[g]? = some (.cells (c ++ d ++ e).toArray t z)) (hg : ok g) (hk : c.length = k) (hk2 : d.length = k) (hk3 : e.length = k) (hk0 : 0 < k) (h : Hc ok w x c) (h2 : Hc ok w y d) (h3 : Hc ok w v e) : Hx ok w (.row k [x, y, v]) (.slice (some ⟨g, 0, none⟩) 3 3) := by
 simp only [Hx]
 refine ⟨some ⟨g, 0, none⟩, 3, rfl, (fun e => nomatch e), ⟨Nat.le_refl 3, by unfold maxLen; omega⟩, Hrow.of_at hk0 0 _ fun j u hj => ?_⟩
 have hj0 : j < 3 := (List.getElem?_eq_some_iff.1 hj).1
 have hj1 : j = 0 ∨ j = 1 ∨ j = 2 := by omega
 rcases hj1 with rfl | rfl | rfl <;> cases hj
 ·
  refine ⟨g, 0, c, rfl, hg, hk, fun m u hu => ?_, h⟩
  have hm := (List.getElem?_eq_some_iff.1 hu).1
  rw [Nat.zero_add, Nat.zero_add, cell_of hb, Nat.zero_mul, Nat.zero_add, List.getElem?_toArray, List.append_assoc, List.getElem?_append_left hm, hu]
 ·
  refine ⟨g, 0, d, rfl, hg, hk2, fun m u hu => ?_, h2⟩
  have hm := (List.getElem?_eq_some_iff.1 hu).1
  rw [Nat.zero_add, Nat.zero_add, cell_of hb, Nat.one_mul, List.getElem?_toArray, List.append_assoc, List.getElem?_append_right (by omega), show k + m - c.length = m by omega, List.getElem?_append_left hm, hu]
 ·
  refine ⟨g, 0, e, rfl, hg, hk3, fun m u hu => ?_, h3⟩
  rw [Nat.zero_add, Nat.zero_add, cell_of hb, List.getElem?_toArray, List.getElem?_append_right (by simp; omega), show 2 * k + m - (c ++ d).length = m by simp; omega, hu]
def bt (b : Bool) : Nat := if b = true then 0 else 1
/-- places that are left; a reader in whose way no token was has one more -/
def meR (gp L : Nat) (w : World) : Nat := match w.cell? ⟨gp, 1, none⟩, w.cell? ⟨gp, 2, none⟩ with
 | some (.int _ p), some (.bool b) => 2 * (L - p.toNat) + bt b
 | _, _ => 0
theorem meR_at {gp L p : Nat} {w : World} {v : Value} {b : Bool} (h : w.heap[gp]? = some (.cells #[v, .int .i64 (p : Nat), .bool b] 57 (0, 0))) : meR gp L w = 2 * (L - p) + bt b := by
 unfold meR
 rw [cell_of h 1, cell_of h 2]
 rfl
theorem me_lt {L q q' : Nat} {b' : Bool} (h1 : q ≤ q') (h2 : b' = false → q < q') (h3 : q' ≤ L) : 2 * (L - q') + bt b' < 2 * (L - q) + bt false := by
 cases b' with
 | true => simp only [bt, if_true]; simp; omega
 | false =>
  have := h2 rfl
  simp only [bt]
  omega
theorem step_prog {α : Type} {l : List Tok} {m : Pr α} (h : ∀ (p q : Nat) (x : α), m.run l p = .ok x q → p < q) {p q : Nat} {b b' : Bool} {t : α} (hs : Step l m p b t q b') : b' = false → p < q := fun hb => by
 subst hb
 cases b with
 | true => cases hs
 | false => exact h p q t hs
theorem bind_ret {α : Type} : ∀ m : Pr α, m.bind .ret = m
 | .ret a => rfl
 | .fail => rfl
 | .out => rfl
 | .look g => by
  show Pr.look _ = Pr.look _
  congr 1
  funext t
  exact bind_ret (g t)
 | .adv m => by
  show Pr.adv _ = Pr.adv _
  congr 1
  exact bind_ret m
end Go.Proofs.YtjabhmepafofmaaGreatDoor
