/- A type's head: its loop. -/
import Derived.Test.YtfjddfcndammdaaBk
import Derived.Test.YtfjddfcndammdaaWf
import Derived.Deep.RegionHeld3
import Derived.Deep.LoopGhost
namespace Go.Proofs.Ytfjddfcndammdaa
open Go.RowKit

theorem Fr.set24 {w wr : World} {g : Nat} (hw : w.heap.size ≤ g) (hF : Fr No w wr) (v0 v1 v2 v3 : Value) : Fr No w ((((wr.setCell ⟨g, 0, none⟩ v0).setCell ⟨g, 1, none⟩ v1).setCell ⟨g, 2, none⟩ v2).setCell ⟨g, 3, none⟩ v3) :=
  hF.own (fr_four wr g v0 v1 v2 v3) (fun i e => by rw [e]; exact hw)
theorem is_mk {B0 : Nat} {ok : Nat → Prop} {w : World} {t : T} {k1 : Nat} {s1 : ByteArray} {n1 : Int} {a1 : Option Addr} {m1 c1 : Nat} (h : Is B0 ok w t (.agg #[.int .u8 k1, .string s1, .int .i64 n1, .slice a1 m1 c1])) :
    ∃ r, t = .mk k1 s1 n1 r ∧ r.length = m1 ∧ Row B0 ok w a1 0 r := by
  cases t with
  | mk k s n l =>
    simp only [Is] at h
    obtain ⟨a, cap, e, hr⟩ := h
    simp only [Value.agg.injEq, Array.mk.injEq, List.cons.injEq, Value.int.injEq, Value.string.injEq, Value.slice.injEq, true_and, and_true] at e
    obtain ⟨e1, rfl, rfl, rfl, rfl, rfl⟩ := e
    have e1 : k1 = k := by omega
    subst e1
    exact ⟨l, rfl, rfl, hr⟩
theorem isT_end {base : Nat} {wE w w' : World} {t : T} {v : Value} (h : IsT base wE t v) (hf : Fr No w w') : IsT base wE t v ∧ Fr No w w' := ⟨h, hf⟩
theorem keep_alloc {w : World} {b : Nat} {ob : Obj} (h : w.heap[b]? = some ob) : ∀ o, (w.alloc o).heap[b]? = some ob := fun o => (Fr.alloc w o).keeps h no_one
/-- what a look at the map reads -/
theorem rd_of {g gt mb : Nat} {n : Int} {r : Value} {wr w' : World} (h : ∀ w', Fr No wr w' → (Instr.lookup 59 (.map (some mb)) (.int .i64 n) true).run Try.prog w' = .ok r w')
    (b1 : wr.cell? ⟨g, 1, none⟩ = some (.map (some mb))) (c2 : wr.cell? ⟨gt, 2, none⟩ = some (.int .i64 n)) (hf : Fr No wr w') : w'.cell? ⟨g, 1, none⟩ = some (.map (some mb)) ∧ w'.cell? ⟨gt, 2, none⟩ = some (.int .i64 n) ∧
      (Instr.lookup 59 (.map (some mb)) (.int .i64 n) true).run Try.prog w' = .ok r w' := ⟨hf.cell b1, hf.cell c2, h w' hf⟩
set_option maxHeartbeats 2000000 in
theorem head_any (base N : Nat) (g many : Nat) (l : Bs) (hfine : Fine many l) (f : Nat) (t h : T) (hgood : Good many t) (hh : hd l f t = some h) (v : Value) (wE w : World) (hE : Fr No wE w) (hb : BkR base wE g many l N) (hi : IsT base wE t v) :
    Calls Try.prog 51 #[.pointer (some ⟨g, 0, none⟩), v] w fun e w' => ∃ v', e = .returned v' ∧ IsT base wE h v' ∧ Fr No w w' := by
  have HE := Lib.hid hE
  obtain ⟨x0, x1, x2, x3, rfl⟩ := is_agg hi
  obtain ⟨k1, s1, n1, aa1, mm1, cc1, rfl, rfl, rfl, rfl⟩ := is_cells hi
  have HB := Lib.hid hb
  have HI := Lib.hid hi
  have HH := Lib.hid hh
  have HG := Lib.hid hgood
  have HFI := Lib.hid hfine
  obtain ⟨w0, hw0⟩ : ∃ w0, w0 = (w.alloc (.cells #[.int .u8 k1, .string s1, .int .i64 n1, .slice aa1 mm1 cc1] 24)).alloc (.cells #[.int .u8 0, .string ⟨#[]⟩, .int .i64 0, .slice none 0 0] 24) := ⟨_, rfl⟩
  have r0 : Hid (w0.heap[w.heap.size]? = some (.cells #[.int .u8 k1, .string s1, .int .i64 n1, .slice aa1 mm1 cc1] 24 (0, 0))) := Lib.hid (by rw [hw0]; exact (Fr.alloc _ _).keeps (new_block w _) no_one)
  have r1 : Hid (w0.heap[w.heap.size + 1]? = some (.cells #[.int .u8 0, .string ⟨#[]⟩, .int .i64 0, .slice none 0 0] 24 (0, 0))) := Lib.hid (by
    have h := new_block (w.alloc (.cells #[.int .u8 k1, .string s1, .int .i64 n1, .slice aa1 mm1 cc1] 24)) (.cells #[.int .u8 0, .string ⟨#[]⟩, .int .i64 0, .slice none 0 0] 24)
    rw [size_alloc] at h
    rw [hw0]
    exact h)
  have HF0 : Hid (Fr No w w0) := Lib.hid (by rw [hw0]; exact (Fr.alloc w _).then (Fr.alloc _ _))
  clear hb hi hh hgood hfine hE
  go_enter Try.func51, Try.ntmps51
  go_wp2_with fail
  rw [← hw0]
  obtain ⟨gt, hg⟩ : ∃ gt, w.heap.size = gt := ⟨_, rfl⟩
  obtain ⟨g1, hg1⟩ : ∃ g1, gt + 1 = g1 := ⟨_, rfl⟩
  rw [hg] at r0 r1 ⊢
  rw [hg1] at r1 ⊢
  have hgs : w.heap.size ≤ gt ∧ w.heap.size ≤ g1 := by omega
  have hgg : gt ≠ g1 := by omega
  clear hw0 hg hg1
  go_loopg [] f (fun k wr => ∃ (t' : T) (k1 : Nat) (s1 : ByteArray) (n1 : Int) (aa1 : Option Addr) (mm1 cc1 : Nat), Hid (wr.heap[gt]? = some (.cells #[.int .u8 k1, .string s1, .int .i64 n1, .slice aa1 mm1 cc1] 24 (0, 0))) ∧
    Hid (wr.heap[g1]? = some (.cells #[.int .u8 0, .string ⟨#[]⟩, .int .i64 0, .slice none 0 0] 24 (0, 0))) ∧ Hid (IsT base wE t' (.agg #[.int .u8 k1, .string s1, .int .i64 n1, .slice aa1 mm1 cc1])) ∧ Hid (hd l k t' = some h) ∧ Hid (Good many t') ∧ Hid (Fr No w wr))
  case atStart => exact ⟨t, k1, s1, n1, aa1, mm1, cc1, r0, r1, HI, HH, HG, HF0⟩
  case round =>
    obtain ⟨t', k1, s1, n1, aa1, mm1, cc1, R0, R1, HI, HH, HG, HF⟩ := hrel
    obtain ⟨r, rfl, hlen, hrow⟩ := is_mk HI.out
    clear hlen hrow
    have c0 : wr.cell? ⟨gt, 0, none⟩ = some (.int .u8 k1) := cell_of R0.out 0
    have c1 : wr.cell? ⟨gt, 1, none⟩ = some (.string s1) := cell_of R0.out 1
    have c2 : wr.cell? ⟨gt, 2, none⟩ = some (.int .i64 n1) := cell_of R0.out 2
    have c3 : wr.cell? ⟨gt, 3, none⟩ = some (.slice aa1 mm1 cc1) := cell_of R0.out 3
    cases gk with
    | zero => cases HH.out
    | succ gk =>
    by_cases hk : k1 = 1
    · subst hk
      obtain ⟨n0, n2⟩ := HG.out.num
      have hsm := HFI.out.small
      obtain ⟨mb, tr, hbk, hlk⟩ := HB.out.looks
      have b1 : wr.cell? ⟨g, 1, none⟩ = some (.map (some mb)) := (HE.out.then HF.out).cell (cell_of hbk 1)
      have hl := hlk n1 n0 (by omega)
      have HL := Lib.hid hl
      have hh := HH.out
      simp only [hd, if_true] at hh
      clear hbk hlk hl
      cases hq : look l n1 with
      | none =>
        rw [hq] at hh
        simp only [Option.some.injEq] at hh
        have HRUN := Lib.hid (fun w' hf => HL.out.1 hq w' ((HE.out.then HF.out).then hf))
        have HHH := Lib.hid hh
        clear hq hh HL
        have K0 := keep_alloc R0.out
        have K1 := keep_alloc R1.out
        have q0 : ∀ o, (wr.alloc o).cell? ⟨gt, 0, none⟩ = some (.int .u8 (1 : Nat)) := fun o => cell_of (K0 o) 0
        have q1 : ∀ o, (wr.alloc o).cell? ⟨gt, 1, none⟩ = some (.string s1) := fun o => cell_of (K0 o) 1
        have q2 : ∀ o, (wr.alloc o).cell? ⟨gt, 2, none⟩ = some (.int .i64 n1) := fun o => cell_of (K0 o) 2
        have q3 : ∀ o, (wr.alloc o).cell? ⟨gt, 3, none⟩ = some (.slice aa1 mm1 cc1) := fun o => cell_of (K0 o) 3
        have z0 := fun o => cell_of (K1 o) 0
        have z1 := fun o => cell_of (K1 o) 1
        have z2 := fun o => cell_of (K1 o) 2
        have z3 := fun o => cell_of (K1 o) 3
        have y0 := fun o => free_of (K1 o) 0
        have y1 := fun o => free_of (K1 o) 1
        have y2 := fun o => free_of (K1 o) 2
        have y3 := fun o => free_of (K1 o) 3
        have KK := Lib.hid K1
        clear K0 K1
        go_wp2_with fail
        go_region_held3 (fun w' => w'.cell? ⟨g, 1, none⟩ = some (.map (some mb)) ∧ w'.cell? ⟨gt, 2, none⟩ = some (.int .i64 n1) ∧ (Instr.lookup 59 (.map (some mb)) (.int .i64 n1) true).run Try.prog w' = .ok (.tuple #[.agg #[.int .u8 0, .string ⟨#[]⟩, .int .i64 0, .slice none 0 0], .bool false]) w')
          (exact rd_of HRUN.out b1 c2 (by first | exact Fr.drew _ | exact (Fr.drew _).then (Fr.alloc _ _) | exact Fr.set24 (Nat.le_refl _) ((Fr.drew _).then (Fr.alloc _ _)) _ _ _ _)) (fail)
        all_goals
          go_wp2_with fail
          refine bodyPost_ret (results_ty rfl _ _ g1 _ rfl rfl (four_block (KK.out _) _ _ _ _)) rfl ?_
          exact ⟨_, rfl, isT_end (by rw [← HHH.out]; exact HI.out) ((Fr.set24 hgs.2 (HF.out.then (Fr.alloc wr _)) _ _ _ _).then (Fr.drew _))⟩
      | some x =>
        rw [hq] at hh
        obtain ⟨v, hrun, hix⟩ := HL.out.2 x hq
        have HHH := Lib.hid hh
        have HRUN := Lib.hid (fun w' hf => hrun w' ((HE.out.then HF.out).then hf))
        have HIX := Lib.hid hix
        have HGX := Lib.hid (HFI.out.good n1 x hq).1
        obtain ⟨x0, x1, x2, x3, rfl⟩ := is_agg hix
        obtain ⟨k2, s2, n2', aa2, mm2, cc2, rfl, rfl, rfl, rfl⟩ := is_cells hix
        have K0 := keep_alloc R0.out
        have q0 := fun o => cell_of (K0 o) 0
        have q1 := fun o => cell_of (K0 o) 1
        have q2 := fun o => cell_of (K0 o) 2
        have q3 := fun o => cell_of (K0 o) 3
        have y0 := fun o => free_of (K0 o) 0
        have y1 := fun o => free_of (K0 o) 1
        have y2 := fun o => free_of (K0 o) 2
        have y3 := fun o => free_of (K0 o) 3
        have KK := Lib.hid K0
        clear K0 hq hh HL hrun hix
        go_wp2_with fail
        go_region_held3 (fun w' => w'.cell? ⟨g, 1, none⟩ = some (.map (some mb)) ∧ w'.cell? ⟨gt, 2, none⟩ = some (.int .i64 n1) ∧ (Instr.lookup 59 (.map (some mb)) (.int .i64 n1) true).run Try.prog w' = .ok (.tuple #[.agg #[.int .u8 k2, .string s2, .int .i64 n2', .slice aa2 mm2 cc2], .bool true]) w')
          (exact rd_of HRUN.out b1 c2 (by first | exact Fr.drew _ | exact (Fr.drew _).then (Fr.alloc _ _) | exact Fr.set24 (Nat.le_refl _) ((Fr.drew _).then (Fr.alloc _ _)) _ _ _ _)) (fail)
        all_goals
          go_wp2_with fail
          go_roundg gk
          case measure => omega
          case rel => exact ⟨x, k2, s2, n2', aa2, mm2, cc2, Lib.hid (four_block (KK.out _) _ _ _ _), Lib.hid ((fr_four _ gt _ _ _ _).keeps (keep_alloc R1.out _) (Ne.symm hgg)), HIX, HHH, HGX, Lib.hid ((Fr.set24 hgs.1 (HF.out.then (Fr.alloc wr _)) _ _ _ _).then (Fr.drew _))⟩
    · have hkb : ((k1 : Int) == 1) = false := by simp only [beq_eq_false_iff_ne, ne_eq]; omega
      have hh := HH.out
      simp only [hd, if_neg hk, Option.some.injEq] at hh
      have HHH := Lib.hid hh
      have z0 := cell_of R1.out 0
      have z1 := cell_of R1.out 1
      have z2 := cell_of R1.out 2
      have z3 := cell_of R1.out 3
      have y0 := free_of R1.out 0
      have y1 := free_of R1.out 1
      have y2 := free_of R1.out 2
      have y3 := free_of R1.out 3
      clear hh hk
      go_wp2_with fail
      (try simp only [Exit.inBlock, Exit.then])
      refine bodyPost_ret (results_ty rfl _ _ g1 _ rfl rfl (four_block R1.out _ _ _ _)) rfl ?_
      exact ⟨_, rfl, isT_end (by rw [← HHH.out]; exact HI.out) (Fr.set24 hgs.2 HF.out _ _ _ _)⟩
end Go.Proofs.Ytfjddfcndammdaa
