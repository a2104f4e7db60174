/- Xz, Ps -/
import Derived.Test.YtjabhmepafofmaaGreatDoorH19
import Derived.Test.YtjabhmepafofmaaGreatDoorH18
import Derived.Test.YtjabhmepafofmaaGreatDoorH07
import Derived.Test.YtjabhmepafofmaaGreatDoorH09
import Derived.Test.YtjabhmepafofmaaGreatDoorH10
import Derived.Test.YtjabhmepafofmaaGreatDoorH35
import Derived.Test.YtjabhmepafofmaaGreatDoorH32
import Derived.Test.YtjabhmepafofmaaGreatDoorH29
import Derived.Test.YtjabhmepafofmaaGreatDoorH24
import Derived.Laws.StructEq
set_option linter.unusedVariables false
set_option linter.unusedSimpArgs false
namespace Go.Proofs.YtjabhmepafofmaaGreatDoor
open Go.RowKit
section
variable {β : Type} {v : Vw} {r : Nat} {f : FuncId} {args : List Value} {Rep : Nat → World → β → Ending → Prop} {m : Pr β}
/-- where nothing may be called there is nothing to show -/
theorem qc_none (h : ¬ v.φ r) : QC v r f args Rep m := fun w p b _ hal _ => absurd (by
  cases b with
  | true => exact hal.1 rfl
  | false => exact hal.2 rfl r) h
/-- the bad state's contract says nothing of the grammar -/
theorem qc_bad {ψ : Nat → Prop} (h : QC v r f args Rep m) (hr : ψ r → v.φ r) : QC ⟨v.gp, v.a, v.c, v.l, ψ⟩ r f args Rep .out := fun w p b hp hal ho => by
  cases b with
  | false => exact absurd rfl ho
  | true =>
    refine (h w p true hp ⟨fun _ => hr (hal.1 rfl), fun x => by cases x⟩ (by intro e; cases e)).mono ?_
    rintro d w' ⟨t, q, b', hs, h1, h2, h3⟩
    exact ⟨t, q, b', hs, h1, h2, h3⟩
theorem up' (hd : ∀ r, v.φ r → dn v.φ r) (h : QC v.dn r f args Rep m) : QC v r f args Rep m := fun w p b hp hal ho => h w p b hp ⟨fun hb => hd _ (hal.1 hb), fun hb r => hd r (hal.2 hb r)⟩ ho
end
/-- the grammar that never comes to an end: its contracts speak of the bad state alone -/
theorem boot {gp : Nat} {a : Option Addr} {c : Nat} {l : List Tok} {φ : Nat → Prop} (hd : ∀ r, φ r → dn φ r) (h : QOks ⟨gp, a, c, l, φ⟩ Gr.zero) {ψ : Nat → Prop} (hψ : ∀ r, ψ r → dn φ r) : QOks ⟨gp, a, c, l, ψ⟩ Gr.zero where
  ty := qc_bad (ty_x h) (hψ _)
  row := qc_bad (row_x (n := 0) h) (hψ _)
  post := qc_bad (post_x (n := 0) h) (hψ _)
  tyAtom := qc_bad (tyAtom_x (n := 0) h) (hψ _)
  exp := qc_bad (exp_x (n := 0) (up' hd (rules_x h)) h) (hψ _)
  rule := qc_bad (rule_x h) (hψ _)
  level := fun n hn => qc_bad (level_x (n := 0) hn h) (hψ _)
  calls := qc_bad (calls_x (n := 0) (fun p q x e => by cases e) h) (hψ _)
  prefix_ := qc_bad (prefix_x h) (hψ _)
  atom := qc_bad (atom_x (.inl rfl) h) (hψ _)
  let_ := qc_bad (let_x (n := 0) h) (hψ _)
  pat := qc_bad (pat_x h) (hψ _)
  patAtom := qc_bad (patAtom_x (.inl rfl) h) (hψ _)
  dec := fun b => qc_bad (dec_x (n := 0) (whole := b) (fun n m => up' hd (data_x h)) (.inl rfl) h) (hψ _)
  con := qc_bad (con_x h) (hψ _)
  fun_ := qc_bad (fun_x (n := 0) h) (hψ _)
theorem boots (gp : Nat) (a : Option Addr) (c : Nat) (l : List Tok) : ∀ k : Nat, QOks ⟨gp, a, c, l, fun r => r < k⟩ Gr.zero
  | 0 => ⟨qc_none (Nat.not_lt_zero _), qc_none (Nat.not_lt_zero _), qc_none (Nat.not_lt_zero _), qc_none (Nat.not_lt_zero _), qc_none (Nat.not_lt_zero _), qc_none (Nat.not_lt_zero _), fun _ _ => qc_none (Nat.not_lt_zero _), qc_none (Nat.not_lt_zero _), qc_none (Nat.not_lt_zero _), qc_none (Nat.not_lt_zero _), qc_none (Nat.not_lt_zero _), qc_none (Nat.not_lt_zero _), qc_none (Nat.not_lt_zero _), fun _ => qc_none (Nat.not_lt_zero _), qc_none (Nat.not_lt_zero _), qc_none (Nat.not_lt_zero _)⟩
  | k + 1 => boot (fun r (hr : r < k) i hi => Nat.lt_trans hi hr) (boots gp a c l k) (fun r (hr : r < k + 1) i hi => Nat.lt_of_lt_of_le hi (Nat.le_of_lt_succ hr))
section
variable {gp : Nat} {a : Option Addr} {c : Nat} {l : List Tok}
theorem roks0 : QOks ⟨gp, a, c, l, fun _ => True⟩ Gr.zero :=
  have h := boots gp a c l 12
  ⟨qc_bad h.ty (fun _ => show _ < 12 by decide), qc_bad h.row (fun _ => show _ < 12 by decide), qc_bad h.post (fun _ => show _ < 12 by decide), qc_bad h.tyAtom (fun _ => show _ < 12 by decide), qc_bad h.exp (fun _ => show _ < 12 by decide), qc_bad h.rule (fun _ => show _ < 12 by decide), fun n hn => qc_bad (h.level n hn) (fun _ => show 8 - n < 12 by omega), qc_bad h.calls (fun _ => show _ < 12 by decide), qc_bad h.prefix_ (fun _ => show _ < 12 by decide), qc_bad h.atom (fun _ => show _ < 12 by decide), qc_bad h.let_ (fun _ => show _ < 12 by decide), qc_bad h.pat (fun _ => show _ < 12 by decide), qc_bad h.patAtom (fun _ => show _ < 12 by decide), fun b => qc_bad (h.dec b) (fun _ => show _ < 12 by decide), qc_bad h.con (fun _ => show _ < 12 by decide), qc_bad h.fun_ (fun _ => show _ < 12 by decide)⟩
theorem yes_dn : ∀ r : Nat, (fun _ => True) r → dn (fun _ => True) r := fun _ _ _ _ => trivial
theorem roks_step {n : Nat} (h : QOks ⟨gp, a, c, l, fun _ => True⟩ (gram n)) (hp : n = 0 ∨ ∃ m, n = m + 1 ∧ QOks ⟨gp, a, c, l, fun _ => True⟩ (gram m)) : QOks ⟨gp, a, c, l, fun _ => True⟩ (gram (n + 1)) where
  ty := up' yes_dn (ty_x h)
  row := up' yes_dn (row_x h)
  post := up' yes_dn (post_x h)
  tyAtom := up' yes_dn (tyAtom_x h)
  exp := up' yes_dn (exp_x (up' yes_dn (rules_x h)) h)
  rule := up' yes_dn (rule_x h)
  level := fun k hk => up' yes_dn (level_x hk h)
  calls := up' yes_dn (calls_x (fun p q x e => by have := ((bds l n).prefix_ p).out x q e; omega) h)
  prefix_ := up' yes_dn (prefix_x h)
  atom := up' yes_dn (atom_x (by
    rcases hp with rfl | ⟨m, rfl, h2⟩
    · exact .inl rfl
    · exact .inr ⟨m, gram m, rfl, h2⟩) h)
  let_ := up' yes_dn (let_x h)
  pat := up' yes_dn (pat_x h)
  patAtom := up' yes_dn (patAtom_x (by
    rcases hp with rfl | ⟨m, rfl, h2⟩
    · exact .inl rfl
    · exact .inr ⟨m, gram m, rfl, h2⟩) h)
  dec := fun b => up' yes_dn (dec_x (fun n m => up' yes_dn (data_x h)) (by
    rcases hp with rfl | ⟨m, rfl, h2⟩
    · exact .inl rfl
    · exact .inr ⟨m, rfl⟩) h)
  con := up' yes_dn (con_x h)
  fun_ := up' yes_dn (fun_x h)
theorem roks2 : ∀ n : Nat, QOks ⟨gp, a, c, l, fun _ => True⟩ (gram n) ∧ QOks ⟨gp, a, c, l, fun _ => True⟩ (gram (n + 1))
  | 0 => ⟨roks0, roks_step roks0 (.inl rfl)⟩
  | n + 1 =>
    have h := roks2 n
    ⟨h.2, roks_step h.2 (.inr ⟨n, rfl, h.1⟩)⟩
theorem roks (n : Nat) : QOks ⟨gp, a, c, l, fun _ => True⟩ (gram n) := (roks2 n).1
end
end Go.Proofs.YtjabhmepafofmaaGreatDoor
namespace Go.Proofs.YtjabhmepafofmaaGreatDoor
open Go.RowKit
/-- what Parse hands back, part by part -/
def pq : Re (List D) → Nat
  | .fail q => q
  | _ => 0
def pz : Re (List D) → Int
  | .fail _ => 11
  | .ok ds _ => if 100 < dProg ds then 16 else 0
  | .out => 0
def pds : Re (List D) → List D
  | .ok ds _ => if 100 < dProg ds then [] else ds
  | _ => []
theorem parse_val {w w' : World} {V : Re (List D)} {e : Ending} (h : ParseR w V e w') : ∃ v, e = .returned (.tuple #[v, .int .i64 (pq V : Nat), .int .i64 (pz V)]) ∧ Hx (fun _ => True) w' (.row 16 ((pds V).map xD)) v ∧ Fr No w w' := by
  cases V with
  | out => exact h.elim
  | fail q =>
    obtain ⟨rfl, hf⟩ := h
    exact ⟨.slice none 0 0, rfl, hx_nil _, hf⟩
  | ok ds q =>
    obtain ⟨hf, h⟩ := h
    simp only [pq, pz, pds]
    by_cases hd : 100 < dProg ds
    · rw [if_pos hd] at h ⊢
      rw [if_pos hd]
      exact ⟨.slice none 0 0, h, hx_nil _, hf⟩
    · rw [if_neg hd] at h ⊢
      rw [if_neg hd]
      obtain ⟨v, he, hx⟩ := h
      exact ⟨v, he, Hx.keep (fun b hb _ => ⟨rfl, trivial⟩) _ _ hx, hf⟩
set_option maxHeartbeats 4000000 in
set_option maxRecDepth 100000 in
theorem parses_any (l : List Tok) (a : Option Addr) (n cp : Nat) (w : World) (hl : Hid (l.length = n)) (hcp : n ≤ cp) (hcpm : cp ≤ maxLen) (hN : Hid (a = none → n = 0 ∧ cp = 0)) (hT : Hid (TokAt w a l)) (hLV : Hid (LV w)) :
    Calls Tryz.prog 3 #[.slice a n cp] w (Yes w) := by
  unfold maxLen at hcpm
  have HL := hl
  have HN := hN
  have HT := hT
  have HLV := hLV
  clear hl hN hT hLV
  go_enter Tryz.func3, Tryz.ntmps3
  go_upto_region 1 with fail
  by_cases hlt : 4096 < n
  · have hd : decide ((n : Int) > 4096) = true := decide_eq_true (by omega)
    have hd1 : decide ((4096 : Int) < n) = true := decide_eq_true (by omega)
    go_wp2_with fail
    refine (works_any _ HLV.out).mono ?_
    rintro e w4 ⟨rfl, hf⟩
    have HF4 := Lib.hid hf
    clear hf
    go_wp2_with fail
    go_ret
    exact ⟨rfl, HF4.out⟩
  have hd : decide ((n : Int) > 4096) = false := decide_eq_false (by omega)
  have hd1 : decide ((4096 : Int) < n) = false := decide_eq_false (by omega)
  obtain ⟨V, HP, HQ⟩ : ∃ V : Re (List D), Hid (∀ (a : Option Addr) (u : World), LV u → TokAt u a l → ∀ c, Calls Tryz.prog 6 #[.slice a n c] u (ParseR u V)) ∧ Hid (∀ (a : Option Addr) (u : World), TokAt u a l → ∀ c, Calls Tryz.prog 7 #[.slice a n c] u (ParseR u V)) := by
    have hn := HL.out
    subst hn
    have he := progR_end (l := l) (n := 163841) (by omega) 4097 [] 0 (Nat.zero_le _) (by omega)
    have ho : progR l (gram 163841) 4097 [] 0 ≠ .out := fun hb => by
      rw [hb] at he
      exact he
    exact ⟨_, Lib.hid (fun a u hu ht c => parse_any 163841 4097 (fun gp hg => ⟨ht.row gp hg, hu gp hg⟩) (by omega) ho), Lib.hid (fun a u ht c => refparse_any 163841 4097 ht (by omega) (fun gp => roks 163841) ho)⟩
  obtain ⟨qv, hqv⟩ : ∃ q, pq V = q := ⟨_, rfl⟩
  obtain ⟨zv, hzv⟩ : ∃ z, pz V = z := ⟨_, rfl⟩
  have HPV : Hid (∀ u e u', ParseR u V e u' → ∃ v, e = .returned (.tuple #[v, .int .i64 qv, .int .i64 zv]) ∧ Hx (fun _ => True) u' (.row 16 ((pds V).map xD)) v ∧ Fr No u u') := Lib.hid (fun u e u' h => by rw [← hqv, ← hzv]; exact parse_val h)
  clear hqv hzv
  have hq1 : ((qv : Int) != (qv : Int)) = false := by simp
  have hz1 : (zv != zv) = false := by simp
  go_wp2_with fail
  refine (copied_any l a n cp w HL.out (by omega) HN.out HT.out).mono ?_
  rintro e w1 ⟨hf, v1, rfl, hh⟩
  have HF1 := Lib.hid hf
  obtain ⟨a1, c1, rfl, ho, hn1⟩ := hh.slice
  rw [HL.out]
  have HT1 := Lib.hid ho.at_
  have HT2 := Lib.hid (HT.out.no hf)
  have HLV1 := Lib.hid (HLV.out.no hf)
  clear hf hh ho hn1
  go_wp2_with fail
  refine (HP.out a1 w1 HLV1.out HT1.out c1).mono ?_
  intro e w2 h
  obtain ⟨v2, rfl, hx2, hf⟩ := HPV.out _ _ _ h
  have HX2 := Lib.hid hx2
  have HF2 := Lib.hid (HF1.out.then hf)
  replace HT1 := Lib.hid (HT1.out.no hf)
  replace HT2 := Lib.hid (HT2.out.no hf)
  clear hf h hx2
  go_wp2_with fail
  refine (HQ.out a w2 HT2.out cp).mono ?_
  intro e w3 h
  obtain ⟨v3, rfl, hx3, hf⟩ := HPV.out _ _ _ h
  have HX3 := Lib.hid hx3
  replace HX2 := Lib.hid (Hx.keep (fun b hb _ => ⟨hf.block b hb no_one, trivial⟩) _ _ HX2.out : Hx (fun _ => True) w3 _ _)
  have HF3 := Lib.hid (HF2.out.then hf)
  replace HT1 := Lib.hid (HT1.out.no hf)
  replace HT2 := Lib.hid (HT2.out.no hf)
  clear hf h hx3
  go_wp2_with fail
  refine (same_decs _ _ _ _ _ _ HX2.out HX3.out).mono ?_
  rintro e w5 ⟨rfl, hf⟩
  have HF5 := Lib.hid (HF3.out.then hf)
  replace HT1 := Lib.hid (HT1.out.no hf)
  replace HT2 := Lib.hid (HT2.out.no hf)
  clear hf
  clear hq1 hz1
  go_wp2_with fail
  go_loopw [10] (fun v wx => ∃ i : Nat, i ≤ n ∧ v = .int .i64 (i : Nat) ∧ Hid (Fr No w5 wx)) (fun v _ => n - intOf v)
  case atStart => exact ⟨0, Nat.zero_le _, rfl, Lib.hid (Fr.refl _ _)⟩
  case round =>
    obtain ⟨i, hi, rfl, HFL⟩ := hrel
    obtain ⟨wL, hwL⟩ : ∃ wL, wL = wr := ⟨wr, rfl⟩
    rw [← hwL] at HFL ⊢
    clear hwL wr
    by_cases hlt : i < n
    · have hd0 : decide ((i : Int) < (n : Int)) = true := decide_eq_true (by omega)
      obtain ⟨t, ht⟩ : ∃ t, l[i]? = some t := ⟨_, List.getElem?_eq_getElem (by rw [HL.out]; exact hlt)⟩
      obtain ⟨tb, off, hta, hb, d0, d1, d2, d3⟩ := (HT1.out.no HFL.out) i t ht
      obtain ⟨tb2, off2, hta2, hb2, e0, e1, e2, e3⟩ := (HT2.out.no HFL.out) i t ht
      subst hta hta2
      obtain ⟨kt, st, mt, qt⟩ := t
      have h1 : (i : Int) < (n : Int) := by omega
      have h2 : ¬ (n : Int) ≤ (i : Int) := by omega
      clear ht hb hb2
      dsimp only at d0 d1 d2 d3 e0 e1 e2 e3
      go_wp2_with fail
      go_quiet (fail)
      obtain ⟨wb, hwb⟩ : ∃ wb, wL.drewN nq = wb := ⟨_, rfl⟩
      have HFB : Hid (Fr No w5 wb) := Lib.hid (by rw [← hwb]; exact HFL.out.then (Fr.drewN _ _))
      rw [hwb]
      clear hwb d0 d1 d2 d3 e0 e1 e2 e3
      (try simp only [Exit.inBlock, Exit.then])
      go_wp2_with fail
      exact ⟨⟨i + 1, by omega, by go_num, HFB⟩, by simp [intOf]; omega⟩
    · have hd0 : decide ((i : Int) < (n : Int)) = false := decide_eq_false (by omega)
      go_wp2_with fail
      refine (works_any _ (HLV.out.no (HF5.out.then HFL.out))).mono ?_
      rintro e w6 ⟨rfl, hf⟩
      have HF6 := Lib.hid ((HF5.out.then HFL.out).then hf)
      clear hf
      go_wp2_with fail
      go_ret
      exact ⟨rfl, HF6.out⟩
end Go.Proofs.YtjabhmepafofmaaGreatDoor
