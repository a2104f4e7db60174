/- Whether an argument may begin. -/
import Derived.Test.YtjabhmepafofmaaDoorG02
import Derived.Test.YtjabhmepafofmaaDoorG04
import Derived.Test.YtjabhmepafofmaaDoorG03
set_option linter.unusedVariables false
set_option linter.unusedSimpArgs false
namespace Go.Proofs.YtjabhmepafofmaaDoor
open Go.RowKit

/-- the row of texts lies in a block -/
theorem ss_any {gp : Nat} {a : Option Addr} {c : Nat} {l : List Tok} {p g n : Nat} {ts : List ByteArray} {w : World} {B : Bool} (h : Par w gp a c l p) (hg : w.heap[g]? = some (.cells (ts.map Value.string).toArray 9 (0, 0))) (hn : ts.length = n) (hb : n ≤ 1048576) (hB : seesB (l.getD p zTok) ts = B) :
    Calls Tryd.prog 49 #[.pointer (some ⟨gp, 0, none⟩), .slice (some ⟨g, 0, none⟩) n n] w (SaidB w B) := by
  rw [← hB]
  exact sees_any gp a c l p ts _ n n w h hn hb (Texts.row hg)
set_option maxHeartbeats 4000000 in
set_option maxRecDepth 100000 in
theorem starts_any {gp : Nat} {a : Option Addr} {c : Nat} {l : List Tok} {p : Nat} {w : World} {B : Bool} (h : Par w gp a c l p) (hB : Gr.startsB (l.getD p zTok) = B) :
    Calls Tryd.prog 84 #[.pointer (some ⟨gp, 0, none⟩)] w (SaidB w B) := by
  have HN := Lib.hid (next_any gp a c l p w h)
  have HP := Lib.hid h
  have HS : Hid (∀ w', Fr No w w' → ∀ g z, w'.heap[g]? = some (.cells #[.string ⟨#[116, 114, 117, 101]⟩, .string ⟨#[102, 97, 108, 115, 101]⟩, .string ⟨#[108, 101, 116]⟩, .string ⟨#[40]⟩, .string ⟨#[33]⟩, .string ⟨#[126]⟩] z (0, 0)) → Calls Tryd.prog 49 #[.pointer (some ⟨gp, 0, none⟩), .slice (some ⟨g, 0, none⟩) 6 6] w' (SaidB w' (seesB (l.getD p zTok) [⟨#[116, 114, 117, 101]⟩, ⟨#[102, 97, 108, 115, 101]⟩, ⟨#[108, 101, 116]⟩, ⟨#[40]⟩, ⟨#[33]⟩, ⟨#[126]⟩]))) :=
    Lib.hid (fun w' hf g z hb => sees_any gp a c l p [⟨#[116, 114, 117, 101]⟩, ⟨#[102, 97, 108, 115, 101]⟩, ⟨#[108, 101, 116]⟩, ⟨#[40]⟩, ⟨#[33]⟩, ⟨#[126]⟩] _ 6 6 w' (h.no hf) rfl (by omega) (Texts.row (l := [⟨#[116, 114, 117, 101]⟩, ⟨#[102, 97, 108, 115, 101]⟩, ⟨#[108, 101, 116]⟩, ⟨#[40]⟩, ⟨#[33]⟩, ⟨#[126]⟩]) hb))
  clear h
  obtain ⟨t, htk⟩ : ∃ t, l.getD p zTok = t := ⟨_, rfl⟩
  rw [htk] at HN hB HS
  simp only [Gr.startsB] at hB
  obtain ⟨S, hSB⟩ : ∃ S, seesB t [⟨#[116, 114, 117, 101]⟩, ⟨#[102, 97, 108, 115, 101]⟩, ⟨#[108, 101, 116]⟩, ⟨#[40]⟩, ⟨#[33]⟩, ⟨#[126]⟩] = S := ⟨_, rfl⟩
  rw [hSB] at HS hB
  clear htk hSB
  obtain ⟨kt, st, mt, qt⟩ := t
  simp only [] at hB
  simp only [tokV] at HN
  have HB := Lib.hid hB
  clear hB
  go_enter Tryd.func84, Tryd.ntmps84
  go_wp2_with fail
  refine HN.out.mono ?_
  rintro e w1 ⟨rfl, hf1⟩
  have HF1 := Lib.hid hf1
  clear hf1 HN
  go_wp2_with fail
  simp only [field49_0]
  by_cases h1 : kt = 1
  · have HE : Hid (B = true) := Lib.hid (by rw [← HB.out]; simp [h1])
    have hq1 : ((kt : Int) == 1) = true := by simp [h1]
    clear h1 
    go_wp2_with fail
    go_ret
    exact ⟨by rw [HE.out]; rfl, HF1.out⟩
  have hq1 : ((kt : Int) == 1) = false := by simp only [beq_eq_false_iff_ne, ne_eq]; omega
  by_cases h2 : kt = 2
  · have HE : Hid (B = true) := Lib.hid (by rw [← HB.out]; simp [h2])
    have hq2 : ((kt : Int) == 2) = true := by simp [h2]
    clear h2 h1
    go_wp2_with fail
    go_ret
    exact ⟨by rw [HE.out]; rfl, HF1.out⟩
  have hq2 : ((kt : Int) == 2) = false := by simp only [beq_eq_false_iff_ne, ne_eq]; omega
  by_cases h4 : kt = 4
  · have HE : Hid (B = true) := Lib.hid (by rw [← HB.out]; simp [h4])
    have hq4 : ((kt : Int) == 4) = true := by simp [h4]
    clear h4 h1 h2
    go_wp2_with fail
    go_ret
    exact ⟨by rw [HE.out]; rfl, HF1.out⟩
  have hq4 : ((kt : Int) == 4) = false := by simp only [beq_eq_false_iff_ne, ne_eq]; omega
  by_cases h5 : kt = 5
  · have HE : Hid (B = true) := Lib.hid (by rw [← HB.out]; simp [h5])
    have hq5 : ((kt : Int) == 5) = true := by simp [h5]
    clear h5 h1 h2 h4
    go_wp2_with fail
    go_ret
    exact ⟨by rw [HE.out]; rfl, HF1.out⟩
  have hq5 : ((kt : Int) == 5) = false := by simp only [beq_eq_false_iff_ne, ne_eq]; omega
  have HE : Hid (B = S) := Lib.hid (by rw [← HB.out, decide_eq_false h1, decide_eq_false h2, decide_eq_false h4, decide_eq_false h5]; rfl)
  clear h1 h2 h4 h5
  go_wp2_with fail
  refine (HS.out _ (HF1.out.then (Fr.alloc _ _)) _ _ (new_block _ _)).mono ?_
  rintro e w2 ⟨rfl, hf2⟩
  have HF2 : Hid (Fr No w w2) := Lib.hid ((HF1.out.then (Fr.alloc _ _)).then hf2)
  clear hf2
  go_wp2_with fail
  go_ret
  exact ⟨by rw [HE.out]; rfl, HF2.out⟩
end Go.Proofs.YtjabhmepafofmaaDoor
namespace Go.Proofs.YtjabhmepafofmaaDoor
open Go.RowKit
def intOf : Value → Nat
  | .int _ p => p.toNat
  | _ => 0
theorem Grows.keeps {B : Nat} {w w' : World} {v v' : Value} (h : Grows B w w' v v') {b : Nat} {o : Obj} (hb : w.heap[b]? = some o) (ha : Av v b) : w'.heap[b]? = some o := ((h.av b (lt_of_block hb) ha).1).trans hb
theorem Grows.avs {B : Nat} {w w' : World} {v v' : Value} (h : Grows B w w' v v') {b : Nat} {o : Obj} (hb : w.heap[b]? = some o) (ha : Av v b) : Av v' b := (h.av b (lt_of_block hb) ha).2
theorem av_ne {g b n c : Nat} (h : g ≠ b) : Av (.slice (some ⟨g, 0, none⟩) n c) b := by
  simp only [Av, Value.ownBlock, ne_eq, Option.some.injEq]
  exact h
theorem av_none {b n c : Nat} : Av (.slice none n c) b := by simp [Av, Value.ownBlock]
namespace Gr
variable (g : Gr)
def ifE (acc : List E) : Pr E := (must ⟨#[101, 108, 115, 101]⟩).bind fun _ => g.exp.bind fun e => .ret (mkE 9 nob (acc ++ [e]))
def ifT (acc : List E) : Pr E := (must ⟨#[116, 104, 101, 110]⟩).bind fun _ => g.exp.bind fun e => g.ifE (acc ++ [e])
end Gr
end Go.Proofs.YtjabhmepafofmaaDoor
namespace Go.Proofs.YtjabhmepafofmaaDoor
open Go.RowKit
theorem setCell_size (w : World) (a : Addr) (v : Value) : (w.setCell a v).heap.size = w.heap.size := by
  simp
theorem setFrom_size (g : Nat) : ∀ (i : Nat) (vs : List Value) (w : World), (setFrom g i vs w).heap.size = w.heap.size
  | _, [], w => rfl
  | i, v :: r, w => (setFrom_size g (i + 1) r _).trans (setCell_size w _ v)
theorem setL_size (g : Nat) : ∀ (vs : List (Nat × Value)) (w : World), (setL g vs w).heap.size = w.heap.size
  | [], w => rfl
  | (i, v) :: r, w => (setL_size g r _).trans (setCell_size w _ v)
end Go.Proofs.YtjabhmepafofmaaDoor
namespace Go.Proofs.YtjabhmepafofmaaDoor
open Go.RowKit
theorem alloc_size (w : World) (o : Obj) : (w.alloc o).heap.size = w.heap.size + 1 := by
  exact Array.size_push _
end Go.Proofs.YtjabhmepafofmaaDoor
namespace Go.Proofs.YtjabhmepafofmaaDoor
open Go.RowKit
theorem sees_lt {l : List Tok} {p : Nat} {ts : List ByteArray} (h : seesB (l.getD p zTok) ts = true) : p < l.length := by
  rcases Nat.lt_or_ge p l.length with h1 | h1
  · exact h1
  · rw [getD_end h1] at h
    cases h
end Go.Proofs.YtjabhmepafofmaaDoor
namespace Go.Proofs.YtjabhmepafofmaaDoor
open Go.RowKit
def putLs : List (Nat × Value) → List Value → List Value
  | [], cs => cs
  | (i, v) :: r, cs => putLs r (cs.set i v)
theorem setLs_block {g : Nat} {t : TypeId} {z : Nat × Nat} : ∀ (vs : List (Nat × Value)) (cs : List Value) (w : World), w.heap[g]? = some (.cells cs.toArray t z) → (setL g vs w).heap[g]? = some (.cells (putLs vs cs).toArray t z)
  | [], cs, w, h => h
  | (i, v) :: r, cs, w, h => setLs_block r _ _ ((block_setCell h i v).trans (by rw [List.setIfInBounds_toArray]))
end Go.Proofs.YtjabhmepafofmaaDoor
namespace Go.Proofs.YtjabhmepafofmaaDoor
open Go.RowKit

set_option maxHeartbeats 4000000 in
set_option maxRecDepth 100000 in
theorem calls_step {gp : Nat} {a : Option Addr} {c : Nat} {l : List Tok} {g : Gr} {n : Nat} (hpr : ∀ (p q : Nat) (x : E), Pr.run l g.prefix_ p = .ok x q → p < q) (h : Oks gp a c l g) : CT gp a c l 75 [] (stE xE) (g.pCalls n) := by
 intro w p hp0 ho
 have HO := Lib.hid ho
 have HP0 := Lib.hid hp0
 have HH := Lib.hid h
 have hq_p := hp0.le
 have hlen := hp0.len
 have HF : Hid (Fr (Just gp) w w) := Lib.hid (Fr.refl _ _)
 have R_gp : Hid (w.heap[gp]? = some (.cells #[.slice a l.length c, .int .i64 (p : Nat)] 60 (0, 0))) := Lib.hid hp0.blk
 obtain ⟨V, hV⟩ : ∃ V, Pr.run l ((g.pCalls n)) p = V := ⟨_, rfl⟩
 rw [hV] at HO ⊢
 clear ho hp0 h
 simp only [Gr.pCalls, run_bind, run_skip, run_must, run_take, Pr.run, next, if_true, if_false, Bool.false_eq_true] at hV
 have HV := Lib.hid hV
 clear hV
 go_enter Tryd.func75, Tryd.ntmps75
 have HPR := Lib.hid hpr
 clear hpr
 have hgw : gp < w.heap.size := lt_of_block HP0.out.blk
 go_wp2_with fail
 generalize hn : w.alloc _ = w1
 generalize hg : w.heap.size = g_r
 have HS := fa hn
 have R_r := nb hn hg
 have L_gp_r := lb hg R_gp
 have B_r := bs hg HF
 clear hn hg
 replace R_gp := kn HS R_gp
 replace HF := fn HF HS
 clear HS
 go_upto_region 1 with fail
 go_wp2_with fail
 cases hr_a : Pr.run l g.prefix_ p with
 | out =>
  simp only [hr_a, Re.andThen, run_bind, run_skip, run_must, run_take, Pr.run, next, if_true, if_false, Bool.false_eq_true] at HV
  exact absurd HV.out.symm HO.out
 | fail q =>
  simp only [hr_a, Re.andThen, run_bind, run_skip, run_must, run_take, Pr.run, next, if_true, if_false, Bool.false_eq_true] at HV
  refine ((HH.out.prefix_).bad (Par.of HP0.out HF.out R_gp.out hq_p) hr_a).mono ?_
  rintro e w2 ⟨rfl, hf, hp⟩
  have hv := HV.out
  subst hv
  exact ⟨rfl, rfl, HF.out.trans hf (fun _ _ h => h), hp⟩
 | ok x_a q3 =>
  simp only [hr_a, Re.andThen, run_bind, run_skip, run_must, run_take, Pr.run, next, if_true, if_false, Bool.false_eq_true] at HV
  have hsz_a : gp < w1.heap.size := lt_of_block R_gp.out
  obtain ⟨b_a, hB⟩ : ∃ bZ, w1.heap.size = bZ := ⟨_, rfl⟩
  have K_gp_a := lb hB R_gp
  have K_r_a := lb hB R_r
  have KB_a := bs hB HF
  clear hsz_a
  refine ((HH.out.prefix_).good (Par.of HP0.out HF.out R_gp.out hq_p) hr_a).mono ?_
  rintro e w4 ⟨⟨cs_a, rfl, hc⟩, hf, hp⟩
  rw [hB] at hc
  clear hB
  obtain ⟨h_a, hH⟩ : ∃ hZ, w4.heap.size = hZ := ⟨_, rfl⟩
  have I_a := im hH hc
  have Z_h_a : h_a ≤ w4.heap.size := Nat.le_of_eq hH.symm
  clear hc hH
  have HS := Lib.hid hf
  have RG := Lib.hid hp.blk
  have hq_q3 := hp.le
  clear hf hp
  replace R_r := kj HS R_r (by omega)
  replace HF := ft HF HS
  replace R_gp := RG
  clear HS RG
  obtain ⟨k_a, s_a, n_a, u_a, a1_a, m1_a, c1_a, a2_a, m2_a, c2_a, a3_a, m3_a, c3_a, ecs⟩ := hcE I_a.out
  subst ecs
  go_wp2_with fail
  generalize hn : w4.alloc _ = w5
  generalize hg : w4.heap.size = g_t
  have HS := fa hn
  have R_t := nb hn hg
  have L_gp_t := lb hg R_gp
  have L_r_t := lb hg R_r
  have B_t := bs hg HF
  have M_h_a_t := mz hg Z_h_a
  clear hn hg
  replace R_gp := kn HS R_gp
  replace R_r := kn HS R_r
  replace I_a := ik I_a HS
  replace HF := fn HF HS
  replace Z_h_a := zt Z_h_a HS
  clear HS
  go_wp2_with fail
  go_loopw [] (fun wx => ∃ (q j : Nat) (x : E) (k_x : Nat) (s_x : ByteArray) (n_x : Int) (u_x : ByteArray) (a1_x : Option Addr) (m1_x c1_x : Nat) (a2_x : Option Addr) (m2_x c2_x : Nat) (a3_x : Option Addr) (m3_x c3_x : Nat), q ≤ l.length ∧ posOf gp wx = q ∧ Hid (wx.heap[g_t]? = some (.cells #[.int .u8 k_x, .string s_x, .int .i64 n_x, .string u_x, .slice a1_x m1_x c1_x, .slice a2_x m2_x c2_x, .slice a3_x m3_x c3_x] 32 (0, 0))) ∧ Hid (wx.heap[g_r]? = some (.cells #[.int .u8 0, .string ⟨#[]⟩, .int .i64 0, .string ⟨#[]⟩, .slice none 0 0, .slice none 0 0, .slice none 0 0] 32 (0, 0))) ∧ Hid (Hc (fun b => w.heap.size ≤ b ∧ b ≠ g_t ∧ b ≠ g_r) wx (xE x) [.int .u8 k_x, .string s_x, .int .i64 n_x, .string u_x, .slice a1_x m1_x c1_x, .slice a2_x m2_x c2_x, .slice a3_x m3_x c3_x]) ∧ Hid (wx.heap[gp]? = some (.cells #[.slice a l.length c, .int .i64 (q : Nat)] 60 (0, 0))) ∧ Hid (Fr (Just gp) w wx) ∧ Hid (Pr.run l (Gr.callsL g j x) q = V)) (fun wx => l.length - posOf gp wx)
  case atStart => exact ⟨q3, n, x_a, _, _, _, _, _, _, _, _, _, _, _, _, _, hq_q3, posOf_at R_gp.out, R_t, R_r, Lib.hid (I_a.out.mono (fun b _ hb => ⟨by have := hb.1; omega, fun (h : b = g_t) => by have := hb.2; omega, fun (h : b = g_r) => by have := hb.1; omega⟩)), R_gp, HF, HV⟩
  case round =>
   clear R_t R_r I_a R_gp HF HV Z_h_a
   obtain ⟨q, j, x, k_x, s_x, n_x, u_x, a1_x, m1_x, c1_x, a2_x, m2_x, c2_x, a3_x, m3_x, c3_x, hq_q, hpq, R_t, R_r, I_x, R_gp, HF, HV⟩ := hrel
   obtain ⟨wL, hwL⟩ : ∃ wL, wL = wr := ⟨wr, rfl⟩
   rw [← hwL] at R_t R_r I_x R_gp HF ⊢
   try rw [← hwL] at hpq
   clear hwL
   have hv := HV.out
   cases j with
   | zero => exact absurd hv.symm HO.out
   | succ j =>
    simp only [Gr.callsL, Re.andThen, run_bind, run_skip, run_must, run_take, Pr.run, next, if_true, if_false, Bool.false_eq_true] at hv
    replace HV := Lib.hid hv
    clear hv
    have hbx : ∀ b, w.heap.size ≤ b ∧ b ≠ g_t ∧ b ≠ g_r → b ≠ gp := fun b hb h => by have := hb.1; omega
    go_wp2_with fail
    cases hst : Gr.startsB (l.getD q zTok) with
    | true =>
     simp only [hst, run_bind, run_skip, run_must, run_take, Pr.run, next, if_true, if_false, Bool.false_eq_true] at HV
     refine (starts_any (Par.of HP0.out HF.out R_gp.out hq_q) hst).mono ?_
     rintro e w6 ⟨rfl, hf⟩
     have HS := Lib.hid hf
     clear hf
     replace R_gp := kn HS R_gp
     replace R_r := kn HS R_r
     replace R_t := kn HS R_t
     replace I_x := Lib.hid (I_x.out.fr HS.out (fun _ _ => no_one))
     replace HF := fn HF HS
     clear HS
     go_upto_region 3 with fail
     refine region_e (fun w' => w'.cell? ⟨g_t, 0, none⟩ = some (.int .u8 k_x) ∧ w'.cell? ⟨g_t, 1, none⟩ = some (.string s_x) ∧ w'.cell? ⟨g_t, 2, none⟩ = some (.int .i64 n_x) ∧ w'.cell? ⟨g_t, 3, none⟩ = some (.string u_x) ∧ w'.cell? ⟨g_t, 4, none⟩ = some (.slice a1_x m1_x c1_x) ∧ w'.cell? ⟨g_t, 5, none⟩ = some (.slice a2_x m2_x c2_x) ∧ w'.cell? ⟨g_t, 6, none⟩ = some (.slice a3_x m3_x c3_x)) [5] (by kernel_rfl) ?_ (fun hHeld => ?_)
     · exact ⟨cell_of ((Fr.drew w6).keeps R_t.out no_one) 0, cell_of ((Fr.drew w6).keeps R_t.out no_one) 1, cell_of ((Fr.drew w6).keeps R_t.out no_one) 2, cell_of ((Fr.drew w6).keeps R_t.out no_one) 3, cell_of ((Fr.drew w6).keeps R_t.out no_one) 4, cell_of ((Fr.drew w6).keeps R_t.out no_one) 5, cell_of ((Fr.drew w6).keeps R_t.out no_one) 6⟩
     obtain ⟨w7, hwd⟩ : ∃ wZ, wZ = w6.drew := ⟨_, rfl⟩
     have HS : Hid (Fr No w6 w7) := Lib.hid (by rw [hwd]; exact Fr.drew _)
     rw [← hwd] at hHeld ⊢
     clear hwd
     replace R_gp := kn HS R_gp
     replace R_r := kn HS R_r
     replace R_t := kn HS R_t
     replace I_x := Lib.hid (I_x.out.fr HS.out (fun _ _ => no_one))
     replace HF := fn HF HS
     clear HS
     refine take_op 0 (some 8) (Op.load 32 ( .tmp 3)) 32 ?_ (by kernel_rfl) (by kernel_rfl) (by kernel_rfl) (fun _ _ _ h => h) ?_ (by assumption) ?_
     rotate_left
     · intro w hSw; (try dsimp only at hSw); go_simp; (try (with_reducible rfl))
     try simp only [Act.put, List.setIfInBounds_toArray, List.set_cons_zero, List.set_cons_succ]
     refine take_op 1 (some 9) (Op.move ( .tmp 0)) 58 ?_ (by kernel_rfl) (by kernel_rfl) (by kernel_rfl) (fun _ _ _ h => h) ?_ (by assumption) ?_
     rotate_left
     · intro w hSw; (try dsimp only at hSw); go_simp; (try (with_reducible rfl))
     try simp only [Act.put, List.setIfInBounds_toArray, List.set_cons_zero, List.set_cons_succ]
     refine ready_e (rs := [2]) (by kernel_rfl) (by simp) ?_
     refine (do_mid (o := _) rfl (fun K hK => ?_) none_e)
     go_simp
     go_at_call 83
     cases hr_e : Pr.run l g.prefix_ q with
     | out =>
      simp only [hr_e, Re.andThen, run_bind, run_skip, run_must, run_take, Pr.run, next, if_true, if_false, Bool.false_eq_true] at HV
      exact absurd HV.out.symm HO.out
     | fail q =>
      simp only [hr_e, Re.andThen, run_bind, run_skip, run_must, run_take, Pr.run, next, if_true, if_false, Bool.false_eq_true] at HV
      refine ((HH.out.prefix_).bad (Par.of HP0.out HF.out R_gp.out hq_q) hr_e).mono ?_
      rintro e w8 ⟨rfl, hf, hp⟩
      have hv := HV.out
      subst hv
      exact ⟨rfl, rfl, HF.out.trans hf (fun _ _ h => h), hp⟩
     | ok x_e q9 =>
      simp only [hr_e, Re.andThen, run_bind, run_skip, run_must, run_take, Pr.run, next, if_true, if_false, Bool.false_eq_true] at HV
      have hsz_e : gp < w7.heap.size := lt_of_block R_gp.out
      obtain ⟨b_e, hB⟩ : ∃ bZ, w7.heap.size = bZ := ⟨_, rfl⟩
      have K_gp_e := lb hB R_gp
      have K_r_e := lb hB R_r
      have K_t_e := lb hB R_t
      have KB_e := bs hB HF
      clear hsz_e
      refine ((HH.out.prefix_).good (Par.of HP0.out HF.out R_gp.out hq_q) hr_e).mono ?_
      rintro e w10 ⟨⟨cs_e, rfl, hc⟩, hf, hp⟩
      rw [hB] at hc
      clear hB
      obtain ⟨h_e, hH⟩ : ∃ hZ, w10.heap.size = hZ := ⟨_, rfl⟩
      have I_e := im hH hc
      have Z_h_e : h_e ≤ w10.heap.size := Nat.le_of_eq hH.symm
      clear hc hH
      have HS := Lib.hid hf
      have RG := Lib.hid hp.blk
      have hq_q9 := hp.le
      clear hf hp
      replace R_r := kj HS R_r (by omega)
      replace R_t := kj HS R_t (by omega)
      replace I_x := Lib.hid (I_x.out.fr HS.out (fun b hb (h : b = gp) => by have := hb.1; have := hb.2; omega))
      replace HF := ft HF HS
      replace R_gp := RG
      clear HS RG
      have hmono := HPR.out _ _ _ hr_e
      obtain ⟨k_e, s_e, n_e, u_e, a1_e, m1_e, c1_e, a2_e, m2_e, c2_e, a3_e, m3_e, c3_e, ecs⟩ := hcE I_e.out
      subst ecs
      refine hK.out _ _ ?_ (fun hHeld => ?_)
      · exact ⟨cell_of R_t.out 0, cell_of R_t.out 1, cell_of R_t.out 2, cell_of R_t.out 3, cell_of R_t.out 4, cell_of R_t.out 5, cell_of R_t.out 6⟩
      clear hK K
      try dsimp only
      try simp only [Act.put, List.setIfInBounds_toArray, List.set_cons_zero, List.set_cons_succ]
      refine ready_e (rs := [3]) (by kernel_rfl) (by simp) ?_
      refine (do_mid (o := _) rfl (fun K hK => ?_) none_e)
      go_simp
      generalize hn : w10.alloc _ = w11
      generalize hg : w10.heap.size = g_arr
      have HS := fa hn
      have R_arr := nb hn hg
      have L_gp_arr := lb hg R_gp
      have L_r_arr := lb hg R_r
      have L_t_arr := lb hg R_t
      have B_arr := bs hg HF
      have M_h_e_arr := mz hg Z_h_e
      clear hn hg
      replace R_gp := kn HS R_gp
      replace R_r := kn HS R_r
      replace R_t := kn HS R_t
      replace I_x := Lib.hid (I_x.out.fr HS.out (fun _ _ => no_one))
      replace I_e := ik I_e HS
      replace HF := fn HF HS
      replace Z_h_e := zt Z_h_e HS
      clear HS
      refine hK.out _ _ ?_ (fun hHeld => ?_)
      · exact ⟨cell_of R_t.out 0, cell_of R_t.out 1, cell_of R_t.out 2, cell_of R_t.out 3, cell_of R_t.out 4, cell_of R_t.out 5, cell_of R_t.out 6⟩
      clear hK K
      try dsimp only
      try simp only [Act.put, List.setIfInBounds_toArray, List.set_cons_zero, List.set_cons_succ]
      refine take_op 4 (some 12) (Op.build 32 #[(0,  .const (.int .u8 8)), (4,  .tmp 11)]) 32 ?_ (by kernel_rfl) (by kernel_rfl) (by kernel_rfl) (fun _ _ _ h => h) ?_ (by assumption) ?_
      rotate_left
      · intro w hSw; (try dsimp only at hSw); go_simp; (try (with_reducible rfl))
      try simp only [Act.put, List.setIfInBounds_toArray, List.set_cons_zero, List.set_cons_succ]
      obtain ⟨d0_t, d1_t, d2_t, d3_t, d4_t, d5_t, d6_t⟩ := z7c R_t.out
      obtain ⟨f0_t, f1_t, f2_t, f3_t, f4_t, f5_t, f6_t⟩ := y7c R_t.out
      refine ready_e (rs := [5]) (by kernel_rfl) (by simp) ?_
      refine (do_late (o := _) rfl (by kernel_rfl) (fun K hK => ?_) none_e)
      go_simp
      clear d0_t f0_t d1_t f1_t d2_t f2_t d3_t f3_t d4_t f4_t d5_t f5_t d6_t f6_t
      obtain ⟨w12, hn⟩ : ∃ wZ, setFrom g_t 0 [.int .u8 8, .string ⟨#[]⟩, .int .i64 0, .string ⟨#[]⟩, .slice (some ⟨g_arr, 0, none⟩) 2 2, .slice none 0 0, .slice none 0 0] w11 = wZ := ⟨_, rfl⟩
      have R_t' := sf hn R_t rfl
      have HS := sg hn
      have he := hn
      simp only [setFrom, Nat.reduceAdd] at he
      rw [he]
      clear he
      clear hn
      replace R_gp := kj HS R_gp (by omega)
      replace R_r := kj HS R_r (by omega)
      replace R_arr := kj HS R_arr (by omega)
      replace I_x := Lib.hid (I_x.out.fr HS.out (fun b hb (h : b = g_t) => by have := hb.1; have := hb.2; omega))
      replace I_e := ij I_e HS (by omega)
      replace HF := fb HF HS (by omega)
      replace Z_h_e := zt Z_h_e HS
      have R_t := R_t'
      clear R_t' HS
      refine hK.out _ _ ?_
      clear hK K
      try dsimp only
      try simp only [Act.put, List.setIfInBounds_toArray, List.set_cons_zero, List.set_cons_succ]
      refine done_e (by kernel_rfl) ?_ _
      (try simp only [Exit.inBlock, Exit.then])
      go_wp2_with fail
      exact ⟨⟨q9, j, Gr.mkE 8 nob [x, x_e], 8, nob, 0, nob, _, _, _, _, _, _, _, _, _, hq_q9, posOf_at R_gp.out, R_t, R_r, Lib.hid (hcE_kids 8 nob 0 nob (hx_two (c := [.int .u8 k_x, .string s_x, .int .i64 n_x, .string u_x, .slice a1_x m1_x c1_x, .slice a2_x m2_x c2_x, .slice a3_x m3_x c3_x]) (d := [.int .u8 k_e, .string s_e, .int .i64 n_e, .string u_e, .slice a1_e m1_e c1_e, .slice a2_e m2_e c2_e, .slice a3_e m3_e c3_e]) R_arr.out ⟨B_arr, by omega, by omega⟩ rfl rfl (by decide) I_x.out (I_e.out.mono (fun b _ hb => ⟨by have := hb.1; omega, fun h => by have := hb.1; omega, fun h => by have := hb.1; omega⟩)))), R_gp, HF, HV⟩, by rw [posOf_at R_gp.out, hpq]; omega⟩
    | false =>
     simp only [hst, run_bind, run_skip, run_must, run_take, Pr.run, next, if_true, if_false, Bool.false_eq_true] at HV
     refine (starts_any (Par.of HP0.out HF.out R_gp.out hq_q) hst).mono ?_
     rintro e w13 ⟨rfl, hf⟩
     have HS := Lib.hid hf
     clear hf
     replace R_gp := kn HS R_gp
     replace R_r := kn HS R_r
     replace R_t := kn HS R_t
     replace I_x := Lib.hid (I_x.out.fr HS.out (fun _ _ => no_one))
     replace HF := fn HF HS
     clear HS
     obtain ⟨d0_t, d1_t, d2_t, d3_t, d4_t, d5_t, d6_t⟩ := z7c R_t.out
     obtain ⟨f0_t, f1_t, f2_t, f3_t, f4_t, f5_t, f6_t⟩ := y7c R_t.out
     obtain ⟨d0_r, d1_r, d2_r, d3_r, d4_r, d5_r, d6_r⟩ := z7c R_r.out
     obtain ⟨f0_r, f1_r, f2_r, f3_r, f4_r, f5_r, f6_r⟩ := y7c R_r.out
     go_wp2_with fail
     clear d0_t f0_t d1_t f1_t d2_t f2_t d3_t f3_t d4_t f4_t d5_t f5_t d6_t f6_t
     clear d0_r f0_r d1_r f1_r d2_r f2_r d3_r f3_r d4_r f4_r d5_r f5_r d6_r f6_r
     obtain ⟨w14, hn⟩ : ∃ wZ, setFrom g_r 0 [.int .u8 k_x, .string s_x, .int .i64 n_x, .string u_x, .slice a1_x m1_x c1_x, .slice a2_x m2_x c2_x, .slice a3_x m3_x c3_x] w13 = wZ := ⟨_, rfl⟩
     have R_r' := sf hn R_r rfl
     have HS := sg hn
     have he := hn
     simp only [setFrom, Nat.reduceAdd] at he
     rw [he]
     clear he
     clear hn
     replace R_gp := kj HS R_gp (by omega)
     replace R_t := kj HS R_t (by omega)
     replace I_x := Lib.hid (I_x.out.fr HS.out (fun b hb (h : b = g_r) => by have := hb.1; have := hb.2; omega))
     replace HF := fb HF HS (by omega)
     have R_r := R_r'
     clear R_r' HS
     (try simp only [Exit.inBlock, Exit.then])
     have hv := HV.out
     subst hv
     refine bodyPost_ret (results_st rfl Tryd.underlying32 (by kernel_rfl) _ _ g_r _ rfl rfl R_r.out) rfl ?_
     exact ⟨⟨_, rfl, I_x.out.mono (fun b _ hb => hb.1)⟩, HF.out, (Par.of HP0.out HF.out R_gp.out hq_q)⟩
end Go.Proofs.YtjabhmepafofmaaDoor
namespace Go.Proofs.YtjabhmepafofmaaDoor
open Go.RowKit

set_option maxHeartbeats 4000000 in
set_option maxRecDepth 100000 in
theorem vars_step {gp : Nat} {a : Option Addr} {c : Nat} {l : List Tok} {g : Gr} {n : Nat} (h : Oks gp a c l g) : CT gp a c l 34 [] (rowE 1 (fun s => [xb s])) (Gr.pVars n) := by
 intro w p hp0 ho
 have HO := Lib.hid ho
 have HP0 := Lib.hid hp0
 have HH := Lib.hid h
 have hq_p := hp0.le
 have hlen := hp0.len
 have HF : Hid (Fr (Just gp) w w) := Lib.hid (Fr.refl _ _)
 have R_gp : Hid (w.heap[gp]? = some (.cells #[.slice a l.length c, .int .i64 (p : Nat)] 60 (0, 0))) := Lib.hid hp0.blk
 obtain ⟨V, hV⟩ : ∃ V, Pr.run l ((Gr.pVars n)) p = V := ⟨_, rfl⟩
 rw [hV] at HO ⊢
 clear ho hp0 h
 simp only [Gr.pVars, run_bind, run_skip, run_must, run_take, Pr.run, next, if_true, if_false, Bool.false_eq_true] at hV
 have HV := Lib.hid hV
 clear hV
 go_enter Tryd.func34, Tryd.ntmps34
 go_wp2_with fail
 generalize hn : w.alloc _ = w1
 generalize hg : w.heap.size = g_sk
 have HS := fa hn
 have R_sk := nb hn hg
 have L_gp_sk := lb hg R_gp
 have B_sk := bs hg HF
 clear hn hg
 replace R_gp := kn HS R_gp
 replace HF := fn HF HS
 clear HS
 cases hb_sk : seesB (l.getD p zTok) [⟨#[40]⟩] with
 | true =>
  simp only [hb_sk, run_bind, run_skip, run_must, run_take, Pr.run, next, if_true, if_false, Bool.false_eq_true] at HV
  refine (sk_any (ts := [⟨#[40]⟩]) (n := 1) (Par.of HP0.out HF.out R_gp.out hq_p) R_sk.out rfl (by omega) hb_sk).mono ?_
  rintro e w2 ⟨rfl, hf, hp⟩
  replace hp : Par w2 gp a c l (p + 1) := hp
  clear R_sk
  have HS := Lib.hid hf
  have RG := Lib.hid hp.blk
  have hq_pP1 := hp.le
  clear hf hp
  replace HF := ft HF HS
  replace R_gp := RG
  clear HS RG
  go_wp2_with fail
  cases hr_l : Pr.run l (some_ n ⟨#[44]⟩ (take 3)) (p + 1) with
  | out =>
   simp only [hr_l, Re.andThen, run_bind, run_skip, run_must, run_take, Pr.run, next, if_true, if_false, Bool.false_eq_true] at HV
   exact absurd HV.out.symm HO.out
  | fail q =>
   simp only [hr_l, Re.andThen, run_bind, run_skip, run_must, run_take, Pr.run, next, if_true, if_false, Bool.false_eq_true] at HV
   refine (((some_str enters55 tick_step ⟨#[44]⟩ n)).bad (Par.of HP0.out HF.out R_gp.out hq_pP1) hr_l).mono ?_
   rintro e w3 ⟨rfl, hf, hp⟩
   have hv := HV.out
   subst hv
   exact ⟨rfl, rfl, HF.out.trans hf (fun _ _ h => h), hp⟩
  | ok x_l q4 =>
   simp only [hr_l, Re.andThen, run_bind, run_skip, run_must, run_take, Pr.run, next, if_true, if_false, Bool.false_eq_true] at HV
   have hsz_l : gp < w2.heap.size := lt_of_block R_gp.out
   obtain ⟨b_l, hB⟩ : ∃ bZ, w2.heap.size = bZ := ⟨_, rfl⟩
   have K_gp_l := lb hB R_gp
   have KB_l := bs hB HF
   clear hsz_l
   refine (((some_str enters55 tick_step ⟨#[44]⟩ n)).good (Par.of HP0.out HF.out R_gp.out hq_pP1) hr_l).mono ?_
   rintro e w5 ⟨⟨v_l, rfl, hc⟩, hf, hp⟩
   rw [hB] at hc
   clear hB
   obtain ⟨h_l, hH⟩ : ∃ hZ, w5.heap.size = hZ := ⟨_, rfl⟩
   have I_l := imx hH hc
   have Z_h_l : h_l ≤ w5.heap.size := Nat.le_of_eq hH.symm
   clear hc hH
   have HS := Lib.hid hf
   have RG := Lib.hid hp.blk
   have hq_q4 := hp.le
   clear hf hp
   replace HF := ft HF HS
   replace R_gp := RG
   clear HS RG
   go_wp2_with fail
   cases hm_cl : seesB (l.getD q4 zTok) [⟨#[41]⟩] with
   | false =>
    simp only [hm_cl, Re.andThen, run_bind, run_skip, run_must, run_take, Pr.run, next, if_true, if_false, Bool.false_eq_true] at HV
    refine (must_bad (Par.of HP0.out HF.out R_gp.out hq_q4) hm_cl).mono ?_
    rintro e w6 ⟨rfl, hf, hp⟩
    have hv := HV.out
    subst hv
    exact ⟨rfl, rfl, HF.out.trans hf (fun _ _ h => h), hp⟩
   | true =>
    simp only [hm_cl, Re.andThen, run_bind, run_skip, run_must, run_take, Pr.run, next, if_true, if_false, Bool.false_eq_true] at HV
    refine (must_good (Par.of HP0.out HF.out R_gp.out hq_q4) hm_cl).mono ?_
    rintro e w7 ⟨rfl, hf, hp⟩
    have HS := Lib.hid hf
    have RG := Lib.hid hp.blk
    have hq_q4P1 := hp.le
    clear hf hp
    replace I_l := ijx I_l HS (by omega)
    replace HF := ft HF HS
    replace Z_h_l := zt Z_h_l HS
    replace R_gp := RG
    clear HS RG
    go_wp2_with fail
    go_ret
    have hv := HV.out
    subst hv
    exact ⟨⟨_, rfl, I_l.out.mono (fun b _ hb => by have := hb.1; omega)⟩, HF.out, (Par.of HP0.out HF.out R_gp.out hq_q4P1)⟩
 | false =>
  simp only [hb_sk, run_bind, run_skip, run_must, run_take, Pr.run, next, if_true, if_false, Bool.false_eq_true] at HV
  refine (sk_any (ts := [⟨#[40]⟩]) (n := 1) (Par.of HP0.out HF.out R_gp.out hq_p) R_sk.out rfl (by omega) hb_sk).mono ?_
  rintro e w8 ⟨rfl, hf, hp⟩
  replace hp : Par w8 gp a c l p := hp
  clear R_sk
  have HS := Lib.hid hf
  have RG := Lib.hid hp.blk
  have hq_p := hp.le
  clear hf hp
  replace HF := ft HF HS
  replace R_gp := RG
  clear HS RG
  go_wp2_with fail
  obtain ⟨⟨kt_t, st_t, mt_t, qt_t⟩, ht⟩ : ∃ t, l.getD p zTok = t := ⟨_, rfl⟩
  refine (next_any gp a c l p w8 (Par.of HP0.out HF.out R_gp.out hq_p)).mono ?_
  rintro e w9 ⟨rfl, hf⟩
  rw [ht]
  simp only [tokV]
  have hv := HV.out
  (try simp only [Re.andThen, run_bind, run_skip, run_must, run_take, Pr.run, next, if_true, if_false, Bool.false_eq_true] at hv)
  (try simp only [ht] at hv)
  replace HV := Lib.hid hv
  have HT_t := Lib.hid ht
  clear hv ht
  have HS := Lib.hid hf
  clear hf
  replace R_gp := kn HS R_gp
  replace HF := fn HF HS
  clear HS
  go_wp2_with fail
  simp only [field49_0]
  by_cases hk3_t : kt_t = 3
  ·
   have hv := HV.out
   rw [if_pos hk3_t] at hv
   replace HV := Lib.hid hv
   clear hv
   have hq3_t : ((kt_t : Int) == 3) = true := by simp [hk3_t]
   go_wp2_with fail
   have hk : (l.getD p zTok).kind = 3 := by rw [HT_t.out]; exact hk3_t
   have hr : Pr.run l (take 3) p = .ok st_t (p + 1) := by rw [run_take, if_pos hk, HT_t.out]
   refine (tick_step.good (Par.of HP0.out HF.out R_gp.out hq_p) hr).mono ?_
   rintro e w10 ⟨rfl, hf, hp⟩
   have hv := HV.out
   simp only [hr, Re.andThen, run_bind, run_skip, run_must, run_take, Pr.run, next, if_true, if_false, Bool.false_eq_true] at hv
   replace HV := Lib.hid hv
   clear hv hk hr
   have HS := Lib.hid hf
   have RG := Lib.hid hp.blk
   have hq_pP1 := hp.le
   clear hf hp
   replace HF := ft HF HS
   replace R_gp := RG
   clear HS RG
   go_upto_region 6 with fail
   generalize hn : w10.alloc _ = w11
   generalize hg : w10.heap.size = g_arr
   have HS := fa hn
   have R_arr := nb hn hg
   have L_gp_arr := lb hg R_gp
   have B_arr := bs hg HF
   clear hn hg
   replace R_gp := kn HS R_gp
   replace HF := fn HF HS
   clear HS
   go_wp2_with fail
   go_ret
   have hv := HV.out
   subst hv
   exact ⟨⟨_, rfl, hx_one (c := [.string st_t]) R_arr.out B_arr rfl (by decide) (hc_cons (hx_lit _) hc_end)⟩, HF.out, (Par.of HP0.out HF.out R_gp.out hq_pP1)⟩
  ·
   have hv := HV.out
   rw [if_neg hk3_t] at hv
   replace HV := Lib.hid hv
   clear hv
   have hq3_t : ((kt_t : Int) == 3) = false := by simp only [beq_eq_false_iff_ne, ne_eq]; omega
   go_wp2_with fail
   go_ret
   have hv := HV.out
   subst hv
   exact ⟨⟨_, rfl, hx_nil _⟩, HF.out, (Par.of HP0.out HF.out R_gp.out hq_p)⟩
end Go.Proofs.YtjabhmepafofmaaDoor
namespace Go.Proofs.YtjabhmepafofmaaDoor
open Go.RowKit

set_option maxHeartbeats 4000000 in
set_option maxRecDepth 100000 in
theorem patRound_step {gp : Nat} {a : Option Addr} {c : Nat} {l : List Tok} {g : Gr} {n : Nat} (h : Oks gp a c l g) : CT gp a c l 88 [] (stE xT) (g.pPatRound n) := by
 intro w p hp0 ho
 have HO := Lib.hid ho
 have HP0 := Lib.hid hp0
 have HH := Lib.hid h
 have hq_p := hp0.le
 have hlen := hp0.len
 have HF : Hid (Fr (Just gp) w w) := Lib.hid (Fr.refl _ _)
 have R_gp : Hid (w.heap[gp]? = some (.cells #[.slice a l.length c, .int .i64 (p : Nat)] 60 (0, 0))) := Lib.hid hp0.blk
 obtain ⟨V, hV⟩ : ∃ V, Pr.run l ((g.pPatRound n)) p = V := ⟨_, rfl⟩
 rw [hV] at HO ⊢
 clear ho hp0 h
 simp only [Gr.pPatRound, run_bind, run_skip, run_must, run_take, Pr.run, next, if_true, if_false, Bool.false_eq_true] at hV
 have HV := Lib.hid hV
 clear hV
 go_enter Tryd.func88, Tryd.ntmps88
 go_upto_region 1 with fail
 generalize hn : w.alloc _ = w1
 generalize hg : w.heap.size = g_r
 have HS := fa hn
 have R_r := nb hn hg
 have L_gp_r := lb hg R_gp
 have B_r := bs hg HF
 clear hn hg
 replace R_gp := kn HS R_gp
 replace HF := fn HF HS
 clear HS
 go_wp2_with fail
 generalize hn : w1.alloc _ = w2
 generalize hg : w1.heap.size = g_sk
 have HS := fa hn
 have R_sk := nb hn hg
 have L_gp_sk := lb hg R_gp
 have L_r_sk := lb hg R_r
 have B_sk := bs hg HF
 clear hn hg
 replace R_gp := kn HS R_gp
 replace R_r := kn HS R_r
 replace HF := fn HF HS
 clear HS
 cases hb_sk : seesB (l.getD p zTok) [⟨#[41]⟩] with
 | true =>
  simp only [hb_sk, Re.andThen, run_bind, run_skip, run_must, run_take, Pr.run, next, if_true, if_false, Bool.false_eq_true] at HV
  refine (sk_any (ts := [⟨#[41]⟩]) (n := 1) (Par.of HP0.out HF.out R_gp.out hq_p) R_sk.out rfl (by omega) hb_sk).mono ?_
  rintro e w3 ⟨rfl, hf, hp⟩
  replace hp : Par w3 gp a c l (p + 1) := hp
  clear R_sk
  have HS := Lib.hid hf
  have RG := Lib.hid hp.blk
  have hq_pP1 := hp.le
  clear hf hp
  replace R_r := kj HS R_r (by omega)
  replace HF := ft HF HS
  replace R_gp := RG
  clear HS RG
  go_upto_region 2 with fail
  obtain ⟨d0_r, d1_r, d2_r, d3_r⟩ := z4c R_r.out
  obtain ⟨f0_r, f1_r, f2_r, f3_r⟩ := y4c R_r.out
  go_wp2_with fail
  clear d0_r f0_r d1_r f1_r d2_r f2_r d3_r f3_r
  obtain ⟨w4, hn⟩ : ∃ wZ, setFrom g_r 0 [.int .u8 4, .string ⟨#[]⟩, .int .i64 0, .slice none 0 0] w3 = wZ := ⟨_, rfl⟩
  have R_r' := sf hn R_r rfl
  have HS := sg hn
  have he := hn
  simp only [setFrom, Nat.reduceAdd] at he
  rw [he]
  clear he
  clear hn
  replace R_gp := kj HS R_gp (by omega)
  replace HF := fb HF HS (by omega)
  have R_r := R_r'
  clear R_r' HS
  (try simp only [Exit.inBlock, Exit.then])
  have hv := HV.out
  subst hv
  refine bodyPost_ret (results_st rfl Tryd.underlying74 (by kernel_rfl) _ _ g_r _ rfl rfl R_r.out) rfl ?_
  exact ⟨⟨_, rfl, hcT_none 4 nob 0⟩, HF.out, (Par.of HP0.out HF.out R_gp.out hq_pP1)⟩
 | false =>
  simp only [hb_sk, Re.andThen, run_bind, run_skip, run_must, run_take, Pr.run, next, if_true, if_false, Bool.false_eq_true] at HV
  refine (sk_any (ts := [⟨#[41]⟩]) (n := 1) (Par.of HP0.out HF.out R_gp.out hq_p) R_sk.out rfl (by omega) hb_sk).mono ?_
  rintro e w5 ⟨rfl, hf, hp⟩
  replace hp : Par w5 gp a c l p := hp
  clear R_sk
  have HS := Lib.hid hf
  have RG := Lib.hid hp.blk
  have hq_p := hp.le
  clear hf hp
  replace R_r := kj HS R_r (by omega)
  replace HF := ft HF HS
  replace R_gp := RG
  clear HS RG
  go_wp2_with fail
  cases hr_l : Pr.run l (some_ n ⟨#[44]⟩ g.pat) p with
  | out =>
   simp only [hr_l, Re.andThen, run_bind, run_skip, run_must, run_take, Pr.run, next, if_true, if_false, Bool.false_eq_true] at HV
   exact absurd HV.out.symm HO.out
  | fail q =>
   simp only [hr_l, Re.andThen, run_bind, run_skip, run_must, run_take, Pr.run, next, if_true, if_false, Bool.false_eq_true] at HV
   refine (((some_pat enters74 HH.out.pat ⟨#[44]⟩ n)).bad (Par.of HP0.out HF.out R_gp.out hq_p) hr_l).mono ?_
   rintro e w6 ⟨rfl, hf, hp⟩
   have hv := HV.out
   subst hv
   exact ⟨rfl, rfl, HF.out.trans hf (fun _ _ h => h), hp⟩
  | ok x_l q7 =>
   simp only [hr_l, Re.andThen, run_bind, run_skip, run_must, run_take, Pr.run, next, if_true, if_false, Bool.false_eq_true] at HV
   have hsz_l : gp < w5.heap.size := lt_of_block R_gp.out
   obtain ⟨b_l, hB⟩ : ∃ bZ, w5.heap.size = bZ := ⟨_, rfl⟩
   have K_gp_l := lb hB R_gp
   have K_r_l := lb hB R_r
   have KB_l := bs hB HF
   clear hsz_l
   refine (((some_pat enters74 HH.out.pat ⟨#[44]⟩ n)).good (Par.of HP0.out HF.out R_gp.out hq_p) hr_l).mono ?_
   rintro e w8 ⟨⟨v_l, rfl, hc⟩, hf, hp⟩
   rw [hB] at hc
   clear hB
   obtain ⟨h_l, hH⟩ : ∃ hZ, w8.heap.size = hZ := ⟨_, rfl⟩
   have I_l := imx hH hc
   have Z_h_l : h_l ≤ w8.heap.size := Nat.le_of_eq hH.symm
   clear hc hH
   have HS := Lib.hid hf
   have RG := Lib.hid hp.blk
   have hq_q7 := hp.le
   clear hf hp
   replace R_r := kj HS R_r (by omega)
   replace HF := ft HF HS
   replace R_gp := RG
   clear HS RG
   go_wp2_with fail
   cases hm_cl : seesB (l.getD q7 zTok) [⟨#[41]⟩] with
   | false =>
    simp only [hm_cl, Re.andThen, run_bind, run_skip, run_must, run_take, Pr.run, next, if_true, if_false, Bool.false_eq_true] at HV
    refine (must_bad (Par.of HP0.out HF.out R_gp.out hq_q7) hm_cl).mono ?_
    rintro e w9 ⟨rfl, hf, hp⟩
    have hv := HV.out
    subst hv
    exact ⟨rfl, rfl, HF.out.trans hf (fun _ _ h => h), hp⟩
   | true =>
    simp only [hm_cl, Re.andThen, run_bind, run_skip, run_must, run_take, Pr.run, next, if_true, if_false, Bool.false_eq_true] at HV
    refine (must_good (Par.of HP0.out HF.out R_gp.out hq_q7) hm_cl).mono ?_
    rintro e w10 ⟨rfl, hf, hp⟩
    have HS := Lib.hid hf
    have RG := Lib.hid hp.blk
    have hq_q7P1 := hp.le
    clear hf hp
    replace R_r := kj HS R_r (by omega)
    replace I_l := ijx I_l HS (by omega)
    replace HF := ft HF HS
    replace Z_h_l := zt Z_h_l HS
    replace R_gp := RG
    clear HS RG
    obtain ⟨al_l, cl_l, evl⟩ := hx_slice I_l.out
    subst evl
    rw [List.length_map] at I_l ⊢
    rcases x_l with _ | ⟨y1, _ | ⟨y2, yr⟩⟩
    ·
     replace I_l : Hid (Hx _ _ (.row 4 (([] : List _).map xT)) (.slice al_l 0 cl_l)) := I_l
     simp only [run_bind, run_skip, run_must, run_take, Pr.run, next, if_true, if_false, Bool.false_eq_true] at HV
     obtain ⟨d0_r, d1_r, d2_r, d3_r⟩ := z4c R_r.out
     obtain ⟨f0_r, f1_r, f2_r, f3_r⟩ := y4c R_r.out
     go_wp2_with fail
     clear d0_r f0_r d1_r f1_r d2_r f2_r d3_r f3_r
     obtain ⟨w11, hn⟩ : ∃ wZ, setFrom g_r 0 [.int .u8 5, .string ⟨#[]⟩, .int .i64 0, .slice al_l 0 cl_l] w10 = wZ := ⟨_, rfl⟩
     have R_r' := sf hn R_r rfl
     have HS := sg hn
     have he := hn
     simp only [setFrom, Nat.reduceAdd] at he
     rw [he]
     clear he
     clear hn
     replace R_gp := kj HS R_gp (by omega)
     replace I_l := ijx I_l HS (by omega)
     replace HF := fb HF HS (by omega)
     replace Z_h_l := zt Z_h_l HS
     have R_r := R_r'
     clear R_r' HS
     (try simp only [Exit.inBlock, Exit.then])
     have hv := HV.out
     subst hv
     refine bodyPost_ret (results_st rfl Tryd.underlying74 (by kernel_rfl) _ _ g_r _ rfl rfl R_r.out) rfl ?_
     exact ⟨⟨_, rfl, hcT_mk 5 nob 0 (I_l.out.mono (fun b _ hb => by have := hb.1; omega))⟩, HF.out, (Par.of HP0.out HF.out R_gp.out hq_q7P1)⟩
    ·
     replace I_l : Hid (Hx _ _ (.row 4 ([y1].map xT)) (.slice al_l 1 cl_l)) := I_l
     simp only [run_bind, run_skip, run_must, run_take, Pr.run, next, if_true, if_false, Bool.false_eq_true] at HV
     obtain ⟨ge, oe, ce, eae, hge, hle, hce, hxe⟩ := hx_at I_l.out (j := 0) rfl
     subst eae
     obtain ⟨k_e, s_e, n_e, a_e, m_e, c_e, ecs⟩ := hcT hxe
     subst ecs
     obtain ⟨de0, de1, de2, de3⟩ : w10.cell? ⟨ge, oe, none⟩ = some (.int .u8 k_e) ∧ w10.cell? ⟨ge, oe + 1, none⟩ = some (.string s_e) ∧ w10.cell? ⟨ge, oe + 2, none⟩ = some (.int .i64 n_e) ∧ w10.cell? ⟨ge, oe + 3, none⟩ = some (.slice a_e m_e c_e) := ⟨by simpa using hce 0 _ rfl, by simpa using hce 1 _ rfl, by simpa using hce 2 _ rfl, by simpa using hce 3 _ rfl⟩
     have I_e := Lib.hid hxe
     clear hce hxe hle
     obtain ⟨d0_r, d1_r, d2_r, d3_r⟩ := z4c R_r.out
     obtain ⟨f0_r, f1_r, f2_r, f3_r⟩ := y4c R_r.out
     go_wp2_with fail
     clear d0_r f0_r d1_r f1_r d2_r f2_r d3_r f3_r
     clear de0 de1 de2 de3
     obtain ⟨w12, hn⟩ : ∃ wZ, setFrom g_r 0 [.int .u8 k_e, .string s_e, .int .i64 n_e, .slice a_e m_e c_e] w10 = wZ := ⟨_, rfl⟩
     have R_r' := sf hn R_r rfl
     have HS := sg hn
     have he := hn
     simp only [setFrom, Nat.reduceAdd] at he
     rw [he]
     clear he
     clear hn
     replace R_gp := kj HS R_gp (by omega)
     replace I_l := ijx I_l HS (by omega)
     replace I_e := ij I_e HS (by omega)
     replace HF := fb HF HS (by omega)
     replace Z_h_l := zt Z_h_l HS
     have R_r := R_r'
     clear R_r' HS
     (try simp only [Exit.inBlock, Exit.then])
     have hv := HV.out
     subst hv
     refine bodyPost_ret (results_st rfl Tryd.underlying74 (by kernel_rfl) _ _ g_r _ rfl rfl R_r.out) rfl ?_
     exact ⟨⟨_, rfl, I_e.out.mono (fun b _ hb => by have := hb.1; omega)⟩, HF.out, (Par.of HP0.out HF.out R_gp.out hq_q7P1)⟩
    ·
     obtain ⟨nl_l, hnl⟩ : ∃ nl, (y1 :: y2 :: yr).length = nl := ⟨_, rfl⟩
     rw [hnl] at I_l ⊢
     have hbl_l : ((nl_l : Int) == 1) = false := by
      simp only [beq_eq_false_iff_ne, ne_eq]
      simp only [List.length_cons] at hnl
      omega
     clear hnl
     simp only [run_bind, run_skip, run_must, run_take, Pr.run, next, if_true, if_false, Bool.false_eq_true] at HV
     obtain ⟨d0_r, d1_r, d2_r, d3_r⟩ := z4c R_r.out
     obtain ⟨f0_r, f1_r, f2_r, f3_r⟩ := y4c R_r.out
     go_wp2_with fail
     clear d0_r f0_r d1_r f1_r d2_r f2_r d3_r f3_r
     obtain ⟨w13, hn⟩ : ∃ wZ, setFrom g_r 0 [.int .u8 5, .string ⟨#[]⟩, .int .i64 0, .slice al_l nl_l cl_l] w10 = wZ := ⟨_, rfl⟩
     have R_r' := sf hn R_r rfl
     have HS := sg hn
     have he := hn
     simp only [setFrom, Nat.reduceAdd] at he
     rw [he]
     clear he
     clear hn
     replace R_gp := kj HS R_gp (by omega)
     replace I_l := ijx I_l HS (by omega)
     replace HF := fb HF HS (by omega)
     replace Z_h_l := zt Z_h_l HS
     have R_r := R_r'
     clear R_r' HS
     (try simp only [Exit.inBlock, Exit.then])
     have hv := HV.out
     subst hv
     refine bodyPost_ret (results_st rfl Tryd.underlying74 (by kernel_rfl) _ _ g_r _ rfl rfl R_r.out) rfl ?_
     exact ⟨⟨_, rfl, hcT_mk 5 nob 0 (I_l.out.mono (fun b _ hb => by have := hb.1; omega))⟩, HF.out, (Par.of HP0.out HF.out R_gp.out hq_q7P1)⟩
end Go.Proofs.YtjabhmepafofmaaDoor
namespace Go.Proofs.YtjabhmepafofmaaDoor
open Go.RowKit

set_option maxHeartbeats 4000000 in
set_option maxRecDepth 100000 in
theorem pat_step {gp : Nat} {a : Option Addr} {c : Nat} {l : List Tok} {g : Gr} (h : Oks gp a c l g) : CT gp a c l 74 [] (stE xT) g.pPat := by
 intro w p hp0 ho
 have HO := Lib.hid ho
 have HP0 := Lib.hid hp0
 have HH := Lib.hid h
 have hq_p := hp0.le
 have hlen := hp0.len
 have HF : Hid (Fr (Just gp) w w) := Lib.hid (Fr.refl _ _)
 have R_gp : Hid (w.heap[gp]? = some (.cells #[.slice a l.length c, .int .i64 (p : Nat)] 60 (0, 0))) := Lib.hid hp0.blk
 obtain ⟨V, hV⟩ : ∃ V, Pr.run l (g.pPat) p = V := ⟨_, rfl⟩
 rw [hV] at HO ⊢
 clear ho hp0 h
 simp only [Gr.pPat, run_bind, run_skip, run_must, run_take, Pr.run, next, if_true, if_false, Bool.false_eq_true] at hV
 have HV := Lib.hid hV
 clear hV
 go_enter Tryd.func74, Tryd.ntmps74
 go_upto_region 1 with fail
 generalize hn : w.alloc _ = w1
 generalize hg : w.heap.size = g_r
 have HS := fa hn
 have R_r := nb hn hg
 have L_gp_r := lb hg R_gp
 have B_r := bs hg HF
 clear hn hg
 replace R_gp := kn HS R_gp
 replace HF := fn HF HS
 clear HS
 go_wp2_with fail
 obtain ⟨⟨kt_t, st_t, mt_t, qt_t⟩, ht⟩ : ∃ t, l.getD p zTok = t := ⟨_, rfl⟩
 refine (next_any gp a c l p w1 (Par.of HP0.out HF.out R_gp.out hq_p)).mono ?_
 rintro e w2 ⟨rfl, hf⟩
 rw [ht]
 simp only [tokV]
 have hv := HV.out
 (try simp only [Re.andThen, run_bind, run_skip, run_must, run_take, Pr.run, next, if_true, if_false, Bool.false_eq_true] at hv)
 (try simp only [ht] at hv)
 replace HV := Lib.hid hv
 have HT_t := Lib.hid ht
 clear hv ht
 have HS := Lib.hid hf
 clear hf
 replace R_gp := kn HS R_gp
 replace R_r := kn HS R_r
 replace HF := fn HF HS
 clear HS
 go_wp2_with fail
 simp only [field49_0]
 by_cases hk2_t : kt_t = 2
 ·
  have hv := HV.out
  rw [if_pos hk2_t] at hv
  replace HV := Lib.hid hv
  clear hv
  have hq2_t : ((kt_t : Int) == 2) = true := by simp [hk2_t]
  have hn2_t : ((kt_t : Int) != 2) = false := by rw [bne, hq2_t]; rfl
  go_wp2_with fail
  have hk : (l.getD p zTok).kind = 2 := by rw [HT_t.out]; exact hk2_t
  refine (take_good (Par.of HP0.out HF.out R_gp.out hq_p) (by decide) hk).mono ?_
  rintro e w3 ⟨rfl, hf, hp⟩
  rw [HT_t.out]
  (try dsimp only)
  have hv := HV.out
  simp only [hk, hk2_t, Re.andThen, run_bind, run_skip, run_must, run_take, Pr.run, next, if_true, if_false, Bool.false_eq_true] at hv
  (try simp only [HT_t.out] at hv)
  replace HV := Lib.hid hv
  clear hv hk
  have HS := Lib.hid hf
  have RG := Lib.hid hp.blk
  have hq_pP1 := hp.le
  clear hf hp
  replace R_r := kj HS R_r (by omega)
  replace HF := ft HF HS
  replace R_gp := RG
  clear HS RG
  go_upto_region 4 with fail
  generalize hn : w3.alloc _ = w4
  generalize hg : w3.heap.size = g_t
  have HS := fa hn
  have R_t := nb hn hg
  have L_gp_t := lb hg R_gp
  have L_r_t := lb hg R_r
  have B_t := bs hg HF
  clear hn hg
  replace R_gp := kn HS R_gp
  replace R_r := kn HS R_r
  replace HF := fn HF HS
  clear HS
  go_wp2_with fail
  obtain ⟨⟨kt_u, st_u, mt_u, qt_u⟩, ht⟩ : ∃ t, l.getD (p + 1) zTok = t := ⟨_, rfl⟩
  refine (next_any gp a c l (p + 1) w4 (Par.of HP0.out HF.out R_gp.out hq_pP1)).mono ?_
  rintro e w5 ⟨rfl, hf⟩
  rw [ht]
  simp only [tokV]
  have hv := HV.out
  (try simp only [Re.andThen, run_bind, run_skip, run_must, run_take, Pr.run, next, if_true, if_false, Bool.false_eq_true] at hv)
  (try simp only [ht] at hv)
  replace HV := Lib.hid hv
  have HT_u := Lib.hid ht
  clear hv ht
  have HS := Lib.hid hf
  clear hf
  replace R_gp := kn HS R_gp
  replace R_r := kn HS R_r
  replace R_t := kn HS R_t
  replace HF := fn HF HS
  clear HS
  go_wp2_with fail
  simp only [field49_0]
  by_cases hk1_u : kt_u = 1
  ·
   have hq1_u : ((kt_u : Int) == 1) = true := by simp [hk1_u]
   have hn1_u : ((kt_u : Int) != 1) = false := by rw [bne, hq1_u]; rfl
   go_wp2_with fail
   have hpb : Gr.patB (⟨kt_u, st_u, mt_u, qt_u⟩ : Tok) = true := by simp [Gr.patB, hk1_u]
   have hv := HV.out
   rw [if_pos hpb] at hv
   replace HV := Lib.hid hv
   clear hv
   clear hpb
   cases hr_e : Pr.run l g.patAtom (p + 1) with
   | out =>
    simp only [hr_e, Re.andThen, run_bind, run_skip, run_must, run_take, Pr.run, next, if_true, if_false, Bool.false_eq_true] at HV
    exact absurd HV.out.symm HO.out
   | fail q =>
    simp only [hr_e, Re.andThen, run_bind, run_skip, run_must, run_take, Pr.run, next, if_true, if_false, Bool.false_eq_true] at HV
    refine ((HH.out.patAtom).bad (Par.of HP0.out HF.out R_gp.out hq_pP1) hr_e).mono ?_
    rintro e w6 ⟨rfl, hf, hp⟩
    have hv := HV.out
    subst hv
    exact ⟨rfl, rfl, HF.out.trans hf (fun _ _ h => h), hp⟩
   | ok x_e q7 =>
    simp only [hr_e, Re.andThen, run_bind, run_skip, run_must, run_take, Pr.run, next, if_true, if_false, Bool.false_eq_true] at HV
    have hsz_e : gp < w5.heap.size := lt_of_block R_gp.out
    obtain ⟨b_e, hB⟩ : ∃ bZ, w5.heap.size = bZ := ⟨_, rfl⟩
    have K_gp_e := lb hB R_gp
    have K_r_e := lb hB R_r
    have K_t_e := lb hB R_t
    have KB_e := bs hB HF
    clear hsz_e
    refine ((HH.out.patAtom).good (Par.of HP0.out HF.out R_gp.out hq_pP1) hr_e).mono ?_
    rintro e w8 ⟨⟨cs_e, rfl, hc⟩, hf, hp⟩
    rw [hB] at hc
    clear hB
    obtain ⟨h_e, hH⟩ : ∃ hZ, w8.heap.size = hZ := ⟨_, rfl⟩
    have I_e := im hH hc
    have Z_h_e : h_e ≤ w8.heap.size := Nat.le_of_eq hH.symm
    clear hc hH
    have HS := Lib.hid hf
    have RG := Lib.hid hp.blk
    have hq_q7 := hp.le
    clear hf hp
    replace R_r := kj HS R_r (by omega)
    replace R_t := kj HS R_t (by omega)
    replace HF := ft HF HS
    replace R_gp := RG
    clear HS RG
    obtain ⟨k_e, s_e, n_e, a_e, m_e, c_e, ecs⟩ := hcT I_e.out
    subst ecs
    obtain ⟨d0_t, d1_t, d2_t, d3_t⟩ := z4c R_t.out
    obtain ⟨f0_t, f1_t, f2_t, f3_t⟩ := y4c R_t.out
    have hltr : g_t < w8.heap.size := lt_of_block R_t.out
    go_upto_region 7 with fail
    clear d0_t f0_t d1_t f1_t d2_t f2_t d3_t f3_t
    clear hltr
    obtain ⟨g_arr, hg⟩ : ∃ gZ, w8.heap.size = gZ := ⟨_, rfl⟩
    rw [hg]
    have L_gp_arr := lb hg R_gp
    have L_r_arr := lb hg R_r
    have L_t_arr := lb hg R_t
    have B_arr := bs hg HF
    have M_h_e_arr := mz hg Z_h_e
    obtain ⟨w9, hn⟩ : ∃ wZ, setL g_t [(3, .slice (some ⟨g_arr, 0, none⟩) 1 1)] w8 = wZ := ⟨_, rfl⟩
    have R_t' : Hid (w9.heap[g_t]? = some (.cells #[.int .u8 6, .string st_t, .int .i64 0, .slice (some ⟨g_arr, 0, none⟩) 1 1] 74 (0, 0))) := Lib.hid (by rw [← hn]; exact setL_block [(3, .slice (some ⟨g_arr, 0, none⟩) 1 1)] _ _ R_t.out)
    have HS := sl hn
    have he := hn
    simp only [setL] at he
    rw [he]
    clear he
    have hsz := (congrArg (fun w => w.heap.size) hn).symm.trans ((setL_size _ _ _).trans hg)
    clear hg
    (try dsimp only at hsz)
    clear hn
    replace R_gp := kj HS R_gp (by omega)
    replace R_r := kj HS R_r (by omega)
    replace I_e := ij I_e HS (by omega)
    replace HF := fb HF HS (by omega)
    replace Z_h_e := zt Z_h_e HS
    have R_t := R_t'
    clear R_t' HS
    obtain ⟨w10, hn⟩ : ∃ wZ, w9.alloc (.cells #[.int .u8 k_e, .string s_e, .int .i64 n_e, .slice a_e m_e c_e] 74) = wZ := ⟨_, rfl⟩
    rw [hn]
    have HS := fa hn
    have R_arr : Hid (w10.heap[g_arr]? = some (.cells #[.int .u8 k_e, .string s_e, .int .i64 n_e, .slice a_e m_e c_e] 74 (0, 0))) := Lib.hid (by rw [← hn, ← hsz]; exact new_block _ _)
    clear hn hsz
    replace R_gp := kn HS R_gp
    replace R_r := kn HS R_r
    replace R_t := kn HS R_t
    replace I_e := ik I_e HS
    replace HF := fn HF HS
    replace Z_h_e := zt Z_h_e HS
    clear HS
    obtain ⟨d0_t, d1_t, d2_t, d3_t⟩ := z4c R_t.out
    obtain ⟨f0_t, f1_t, f2_t, f3_t⟩ := y4c R_t.out
    obtain ⟨d0_r, d1_r, d2_r, d3_r⟩ := z4c R_r.out
    obtain ⟨f0_r, f1_r, f2_r, f3_r⟩ := y4c R_r.out
    go_wp2_with fail
    clear d0_t f0_t d1_t f1_t d2_t f2_t d3_t f3_t
    clear d0_r f0_r d1_r f1_r d2_r f2_r d3_r f3_r
    obtain ⟨w11, hn⟩ : ∃ wZ, setFrom g_r 0 [.int .u8 6, .string st_t, .int .i64 0, .slice (some ⟨g_arr, 0, none⟩) 1 1] w10 = wZ := ⟨_, rfl⟩
    have R_r' := sf hn R_r rfl
    have HS := sg hn
    have he := hn
    simp only [setFrom, Nat.reduceAdd] at he
    rw [he]
    clear he
    clear hn
    replace R_gp := kj HS R_gp (by omega)
    replace R_t := kj HS R_t (by omega)
    replace R_arr := kj HS R_arr (by omega)
    replace I_e := ij I_e HS (by omega)
    replace HF := fb HF HS (by omega)
    replace Z_h_e := zt Z_h_e HS
    have R_r := R_r'
    clear R_r' HS
    (try simp only [Exit.inBlock, Exit.then])
    have hv := HV.out
    subst hv
    refine bodyPost_ret (results_st rfl Tryd.underlying74 (by kernel_rfl) _ _ g_r _ rfl rfl R_r.out) rfl ?_
    exact ⟨⟨_, rfl, hcT_mk 6 st_t 0 (hx_one (c := [.int .u8 k_e, .string s_e, .int .i64 n_e, .slice a_e m_e c_e]) R_arr.out B_arr rfl (by decide) (I_e.out.mono (fun b _ hb => by have := hb.1; omega)))⟩, HF.out, (Par.of HP0.out HF.out R_gp.out hq_q7)⟩
  ·
   have hq1_u : ((kt_u : Int) == 1) = false := by simp only [beq_eq_false_iff_ne, ne_eq]; omega
   have hn1_u : ((kt_u : Int) != 1) = true := by rw [bne, hq1_u]; rfl
   by_cases hk4_u : kt_u = 4
   ·
    have hq4_u : ((kt_u : Int) == 4) = true := by simp [hk4_u]
    have hn4_u : ((kt_u : Int) != 4) = false := by rw [bne, hq4_u]; rfl
    go_wp2_with fail
    have hpb : Gr.patB (⟨kt_u, st_u, mt_u, qt_u⟩ : Tok) = true := by simp [Gr.patB, hk4_u]
    have hv := HV.out
    rw [if_pos hpb] at hv
    replace HV := Lib.hid hv
    clear hv
    clear hpb
    cases hr_e : Pr.run l g.patAtom (p + 1) with
    | out =>
     simp only [hr_e, Re.andThen, run_bind, run_skip, run_must, run_take, Pr.run, next, if_true, if_false, Bool.false_eq_true] at HV
     exact absurd HV.out.symm HO.out
    | fail q =>
     simp only [hr_e, Re.andThen, run_bind, run_skip, run_must, run_take, Pr.run, next, if_true, if_false, Bool.false_eq_true] at HV
     refine ((HH.out.patAtom).bad (Par.of HP0.out HF.out R_gp.out hq_pP1) hr_e).mono ?_
     rintro e w12 ⟨rfl, hf, hp⟩
     have hv := HV.out
     subst hv
     exact ⟨rfl, rfl, HF.out.trans hf (fun _ _ h => h), hp⟩
    | ok x_e q13 =>
     simp only [hr_e, Re.andThen, run_bind, run_skip, run_must, run_take, Pr.run, next, if_true, if_false, Bool.false_eq_true] at HV
     have hsz_e : gp < w5.heap.size := lt_of_block R_gp.out
     obtain ⟨b_e, hB⟩ : ∃ bZ, w5.heap.size = bZ := ⟨_, rfl⟩
     have K_gp_e := lb hB R_gp
     have K_r_e := lb hB R_r
     have K_t_e := lb hB R_t
     have KB_e := bs hB HF
     clear hsz_e
     refine ((HH.out.patAtom).good (Par.of HP0.out HF.out R_gp.out hq_pP1) hr_e).mono ?_
     rintro e w14 ⟨⟨cs_e, rfl, hc⟩, hf, hp⟩
     rw [hB] at hc
     clear hB
     obtain ⟨h_e, hH⟩ : ∃ hZ, w14.heap.size = hZ := ⟨_, rfl⟩
     have I_e := im hH hc
     have Z_h_e : h_e ≤ w14.heap.size := Nat.le_of_eq hH.symm
     clear hc hH
     have HS := Lib.hid hf
     have RG := Lib.hid hp.blk
     have hq_q13 := hp.le
     clear hf hp
     replace R_r := kj HS R_r (by omega)
     replace R_t := kj HS R_t (by omega)
     replace HF := ft HF HS
     replace R_gp := RG
     clear HS RG
     obtain ⟨k_e, s_e, n_e, a_e, m_e, c_e, ecs⟩ := hcT I_e.out
     subst ecs
     obtain ⟨d0_t, d1_t, d2_t, d3_t⟩ := z4c R_t.out
     obtain ⟨f0_t, f1_t, f2_t, f3_t⟩ := y4c R_t.out
     have hltr : g_t < w14.heap.size := lt_of_block R_t.out
     go_upto_region 7 with fail
     clear d0_t f0_t d1_t f1_t d2_t f2_t d3_t f3_t
     clear hltr
     obtain ⟨g_arr, hg⟩ : ∃ gZ, w14.heap.size = gZ := ⟨_, rfl⟩
     rw [hg]
     have L_gp_arr := lb hg R_gp
     have L_r_arr := lb hg R_r
     have L_t_arr := lb hg R_t
     have B_arr := bs hg HF
     have M_h_e_arr := mz hg Z_h_e
     obtain ⟨w15, hn⟩ : ∃ wZ, setL g_t [(3, .slice (some ⟨g_arr, 0, none⟩) 1 1)] w14 = wZ := ⟨_, rfl⟩
     have R_t' : Hid (w15.heap[g_t]? = some (.cells #[.int .u8 6, .string st_t, .int .i64 0, .slice (some ⟨g_arr, 0, none⟩) 1 1] 74 (0, 0))) := Lib.hid (by rw [← hn]; exact setL_block [(3, .slice (some ⟨g_arr, 0, none⟩) 1 1)] _ _ R_t.out)
     have HS := sl hn
     have he := hn
     simp only [setL] at he
     rw [he]
     clear he
     have hsz := (congrArg (fun w => w.heap.size) hn).symm.trans ((setL_size _ _ _).trans hg)
     clear hg
     (try dsimp only at hsz)
     clear hn
     replace R_gp := kj HS R_gp (by omega)
     replace R_r := kj HS R_r (by omega)
     replace I_e := ij I_e HS (by omega)
     replace HF := fb HF HS (by omega)
     replace Z_h_e := zt Z_h_e HS
     have R_t := R_t'
     clear R_t' HS
     obtain ⟨w16, hn⟩ : ∃ wZ, w15.alloc (.cells #[.int .u8 k_e, .string s_e, .int .i64 n_e, .slice a_e m_e c_e] 74) = wZ := ⟨_, rfl⟩
     rw [hn]
     have HS := fa hn
     have R_arr : Hid (w16.heap[g_arr]? = some (.cells #[.int .u8 k_e, .string s_e, .int .i64 n_e, .slice a_e m_e c_e] 74 (0, 0))) := Lib.hid (by rw [← hn, ← hsz]; exact new_block _ _)
     clear hn hsz
     replace R_gp := kn HS R_gp
     replace R_r := kn HS R_r
     replace R_t := kn HS R_t
     replace I_e := ik I_e HS
     replace HF := fn HF HS
     replace Z_h_e := zt Z_h_e HS
     clear HS
     obtain ⟨d0_t, d1_t, d2_t, d3_t⟩ := z4c R_t.out
     obtain ⟨f0_t, f1_t, f2_t, f3_t⟩ := y4c R_t.out
     obtain ⟨d0_r, d1_r, d2_r, d3_r⟩ := z4c R_r.out
     obtain ⟨f0_r, f1_r, f2_r, f3_r⟩ := y4c R_r.out
     go_wp2_with fail
     clear d0_t f0_t d1_t f1_t d2_t f2_t d3_t f3_t
     clear d0_r f0_r d1_r f1_r d2_r f2_r d3_r f3_r
     obtain ⟨w17, hn⟩ : ∃ wZ, setFrom g_r 0 [.int .u8 6, .string st_t, .int .i64 0, .slice (some ⟨g_arr, 0, none⟩) 1 1] w16 = wZ := ⟨_, rfl⟩
     have R_r' := sf hn R_r rfl
     have HS := sg hn
     have he := hn
     simp only [setFrom, Nat.reduceAdd] at he
     rw [he]
     clear he
     clear hn
     replace R_gp := kj HS R_gp (by omega)
     replace R_t := kj HS R_t (by omega)
     replace R_arr := kj HS R_arr (by omega)
     replace I_e := ij I_e HS (by omega)
     replace HF := fb HF HS (by omega)
     replace Z_h_e := zt Z_h_e HS
     have R_r := R_r'
     clear R_r' HS
     (try simp only [Exit.inBlock, Exit.then])
     have hv := HV.out
     subst hv
     refine bodyPost_ret (results_st rfl Tryd.underlying74 (by kernel_rfl) _ _ g_r _ rfl rfl R_r.out) rfl ?_
     exact ⟨⟨_, rfl, hcT_mk 6 st_t 0 (hx_one (c := [.int .u8 k_e, .string s_e, .int .i64 n_e, .slice a_e m_e c_e]) R_arr.out B_arr rfl (by decide) (I_e.out.mono (fun b _ hb => by have := hb.1; omega)))⟩, HF.out, (Par.of HP0.out HF.out R_gp.out hq_q13)⟩
   ·
    have hq4_u : ((kt_u : Int) == 4) = false := by simp only [beq_eq_false_iff_ne, ne_eq]; omega
    have hn4_u : ((kt_u : Int) != 4) = true := by rw [bne, hq4_u]; rfl
    by_cases hk2_u : kt_u = 2
    ·
     have hq2_u : ((kt_u : Int) == 2) = true := by simp [hk2_u]
     have hn2_u : ((kt_u : Int) != 2) = false := by rw [bne, hq2_u]; rfl
     go_wp2_with fail
     have hpb : Gr.patB (⟨kt_u, st_u, mt_u, qt_u⟩ : Tok) = true := by simp [Gr.patB, hk2_u]
     have hv := HV.out
     rw [if_pos hpb] at hv
     replace HV := Lib.hid hv
     clear hv
     clear hpb
     cases hr_e : Pr.run l g.patAtom (p + 1) with
     | out =>
      simp only [hr_e, Re.andThen, run_bind, run_skip, run_must, run_take, Pr.run, next, if_true, if_false, Bool.false_eq_true] at HV
      exact absurd HV.out.symm HO.out
     | fail q =>
      simp only [hr_e, Re.andThen, run_bind, run_skip, run_must, run_take, Pr.run, next, if_true, if_false, Bool.false_eq_true] at HV
      refine ((HH.out.patAtom).bad (Par.of HP0.out HF.out R_gp.out hq_pP1) hr_e).mono ?_
      rintro e w18 ⟨rfl, hf, hp⟩
      have hv := HV.out
      subst hv
      exact ⟨rfl, rfl, HF.out.trans hf (fun _ _ h => h), hp⟩
     | ok x_e q19 =>
      simp only [hr_e, Re.andThen, run_bind, run_skip, run_must, run_take, Pr.run, next, if_true, if_false, Bool.false_eq_true] at HV
      have hsz_e : gp < w5.heap.size := lt_of_block R_gp.out
      obtain ⟨b_e, hB⟩ : ∃ bZ, w5.heap.size = bZ := ⟨_, rfl⟩
      have K_gp_e := lb hB R_gp
      have K_r_e := lb hB R_r
      have K_t_e := lb hB R_t
      have KB_e := bs hB HF
      clear hsz_e
      refine ((HH.out.patAtom).good (Par.of HP0.out HF.out R_gp.out hq_pP1) hr_e).mono ?_
      rintro e w20 ⟨⟨cs_e, rfl, hc⟩, hf, hp⟩
      rw [hB] at hc
      clear hB
      obtain ⟨h_e, hH⟩ : ∃ hZ, w20.heap.size = hZ := ⟨_, rfl⟩
      have I_e := im hH hc
      have Z_h_e : h_e ≤ w20.heap.size := Nat.le_of_eq hH.symm
      clear hc hH
      have HS := Lib.hid hf
      have RG := Lib.hid hp.blk
      have hq_q19 := hp.le
      clear hf hp
      replace R_r := kj HS R_r (by omega)
      replace R_t := kj HS R_t (by omega)
      replace HF := ft HF HS
      replace R_gp := RG
      clear HS RG
      obtain ⟨k_e, s_e, n_e, a_e, m_e, c_e, ecs⟩ := hcT I_e.out
      subst ecs
      obtain ⟨d0_t, d1_t, d2_t, d3_t⟩ := z4c R_t.out
      obtain ⟨f0_t, f1_t, f2_t, f3_t⟩ := y4c R_t.out
      have hltr : g_t < w20.heap.size := lt_of_block R_t.out
      go_upto_region 7 with fail
      clear d0_t f0_t d1_t f1_t d2_t f2_t d3_t f3_t
      clear hltr
      obtain ⟨g_arr, hg⟩ : ∃ gZ, w20.heap.size = gZ := ⟨_, rfl⟩
      rw [hg]
      have L_gp_arr := lb hg R_gp
      have L_r_arr := lb hg R_r
      have L_t_arr := lb hg R_t
      have B_arr := bs hg HF
      have M_h_e_arr := mz hg Z_h_e
      obtain ⟨w21, hn⟩ : ∃ wZ, setL g_t [(3, .slice (some ⟨g_arr, 0, none⟩) 1 1)] w20 = wZ := ⟨_, rfl⟩
      have R_t' : Hid (w21.heap[g_t]? = some (.cells #[.int .u8 6, .string st_t, .int .i64 0, .slice (some ⟨g_arr, 0, none⟩) 1 1] 74 (0, 0))) := Lib.hid (by rw [← hn]; exact setL_block [(3, .slice (some ⟨g_arr, 0, none⟩) 1 1)] _ _ R_t.out)
      have HS := sl hn
      have he := hn
      simp only [setL] at he
      rw [he]
      clear he
      have hsz := (congrArg (fun w => w.heap.size) hn).symm.trans ((setL_size _ _ _).trans hg)
      clear hg
      (try dsimp only at hsz)
      clear hn
      replace R_gp := kj HS R_gp (by omega)
      replace R_r := kj HS R_r (by omega)
      replace I_e := ij I_e HS (by omega)
      replace HF := fb HF HS (by omega)
      replace Z_h_e := zt Z_h_e HS
      have R_t := R_t'
      clear R_t' HS
      obtain ⟨w22, hn⟩ : ∃ wZ, w21.alloc (.cells #[.int .u8 k_e, .string s_e, .int .i64 n_e, .slice a_e m_e c_e] 74) = wZ := ⟨_, rfl⟩
      rw [hn]
      have HS := fa hn
      have R_arr : Hid (w22.heap[g_arr]? = some (.cells #[.int .u8 k_e, .string s_e, .int .i64 n_e, .slice a_e m_e c_e] 74 (0, 0))) := Lib.hid (by rw [← hn, ← hsz]; exact new_block _ _)
      clear hn hsz
      replace R_gp := kn HS R_gp
      replace R_r := kn HS R_r
      replace R_t := kn HS R_t
      replace I_e := ik I_e HS
      replace HF := fn HF HS
      replace Z_h_e := zt Z_h_e HS
      clear HS
      obtain ⟨d0_t, d1_t, d2_t, d3_t⟩ := z4c R_t.out
      obtain ⟨f0_t, f1_t, f2_t, f3_t⟩ := y4c R_t.out
      obtain ⟨d0_r, d1_r, d2_r, d3_r⟩ := z4c R_r.out
      obtain ⟨f0_r, f1_r, f2_r, f3_r⟩ := y4c R_r.out
      go_wp2_with fail
      clear d0_t f0_t d1_t f1_t d2_t f2_t d3_t f3_t
      clear d0_r f0_r d1_r f1_r d2_r f2_r d3_r f3_r
      obtain ⟨w23, hn⟩ : ∃ wZ, setFrom g_r 0 [.int .u8 6, .string st_t, .int .i64 0, .slice (some ⟨g_arr, 0, none⟩) 1 1] w22 = wZ := ⟨_, rfl⟩
      have R_r' := sf hn R_r rfl
      have HS := sg hn
      have he := hn
      simp only [setFrom, Nat.reduceAdd] at he
      rw [he]
      clear he
      clear hn
      replace R_gp := kj HS R_gp (by omega)
      replace R_t := kj HS R_t (by omega)
      replace R_arr := kj HS R_arr (by omega)
      replace I_e := ij I_e HS (by omega)
      replace HF := fb HF HS (by omega)
      replace Z_h_e := zt Z_h_e HS
      have R_r := R_r'
      clear R_r' HS
      (try simp only [Exit.inBlock, Exit.then])
      have hv := HV.out
      subst hv
      refine bodyPost_ret (results_st rfl Tryd.underlying74 (by kernel_rfl) _ _ g_r _ rfl rfl R_r.out) rfl ?_
      exact ⟨⟨_, rfl, hcT_mk 6 st_t 0 (hx_one (c := [.int .u8 k_e, .string s_e, .int .i64 n_e, .slice a_e m_e c_e]) R_arr.out B_arr rfl (by decide) (I_e.out.mono (fun b _ hb => by have := hb.1; omega)))⟩, HF.out, (Par.of HP0.out HF.out R_gp.out hq_q19)⟩
    ·
     have hq2_u : ((kt_u : Int) == 2) = false := by simp only [beq_eq_false_iff_ne, ne_eq]; omega
     have hn2_u : ((kt_u : Int) != 2) = true := by rw [bne, hq2_u]; rfl
     go_wp2_with fail
     generalize hn : w5.alloc _ = w24
     generalize hg : w5.heap.size = g_sk
     have HS := fa hn
     have R_sk := nb hn hg
     have L_gp_sk := lb hg R_gp
     have L_r_sk := lb hg R_r
     have L_t_sk := lb hg R_t
     have B_sk := bs hg HF
     clear hn hg
     replace R_gp := kn HS R_gp
     replace R_r := kn HS R_r
     replace R_t := kn HS R_t
     replace HF := fn HF HS
     clear HS
     cases hb_sk : seesB (l.getD (p + 1) zTok) [⟨#[95]⟩, ⟨#[126]⟩, ⟨#[40]⟩, ⟨#[116, 114, 117, 101]⟩, ⟨#[102, 97, 108, 115, 101]⟩] with
     | true =>
      have hb_sk' := hb_sk
      rw [HT_u.out] at hb_sk'
      refine (ss_any (ts := [⟨#[95]⟩, ⟨#[126]⟩, ⟨#[40]⟩, ⟨#[116, 114, 117, 101]⟩, ⟨#[102, 97, 108, 115, 101]⟩]) (n := 5) (Par.of HP0.out HF.out R_gp.out hq_pP1) R_sk.out rfl (by omega) hb_sk).mono ?_
      rintro e w25 ⟨rfl, hf⟩
      clear R_sk
      have HS := Lib.hid hf
      clear hf
      replace R_gp := kn HS R_gp
      replace R_r := kn HS R_r
      replace R_t := kn HS R_t
      replace HF := fn HF HS
      clear HS
      go_wp2_with fail
      have hpb : Gr.patB (⟨kt_u, st_u, mt_u, qt_u⟩ : Tok) = true := by simp only [Gr.patB]; rw [hb_sk']; simp
      have hv := HV.out
      rw [if_pos hpb] at hv
      replace HV := Lib.hid hv
      clear hv
      clear hpb
      cases hr_e : Pr.run l g.patAtom (p + 1) with
      | out =>
       simp only [hr_e, Re.andThen, run_bind, run_skip, run_must, run_take, Pr.run, next, if_true, if_false, Bool.false_eq_true] at HV
       exact absurd HV.out.symm HO.out
      | fail q =>
       simp only [hr_e, Re.andThen, run_bind, run_skip, run_must, run_take, Pr.run, next, if_true, if_false, Bool.false_eq_true] at HV
       refine ((HH.out.patAtom).bad (Par.of HP0.out HF.out R_gp.out hq_pP1) hr_e).mono ?_
       rintro e w26 ⟨rfl, hf, hp⟩
       have hv := HV.out
       subst hv
       exact ⟨rfl, rfl, HF.out.trans hf (fun _ _ h => h), hp⟩
      | ok x_e q27 =>
       simp only [hr_e, Re.andThen, run_bind, run_skip, run_must, run_take, Pr.run, next, if_true, if_false, Bool.false_eq_true] at HV
       have hsz_e : gp < w25.heap.size := lt_of_block R_gp.out
       obtain ⟨b_e, hB⟩ : ∃ bZ, w25.heap.size = bZ := ⟨_, rfl⟩
       have K_gp_e := lb hB R_gp
       have K_r_e := lb hB R_r
       have K_t_e := lb hB R_t
       have KB_e := bs hB HF
       clear hsz_e
       refine ((HH.out.patAtom).good (Par.of HP0.out HF.out R_gp.out hq_pP1) hr_e).mono ?_
       rintro e w28 ⟨⟨cs_e, rfl, hc⟩, hf, hp⟩
       rw [hB] at hc
       clear hB
       obtain ⟨h_e, hH⟩ : ∃ hZ, w28.heap.size = hZ := ⟨_, rfl⟩
       have I_e := im hH hc
       have Z_h_e : h_e ≤ w28.heap.size := Nat.le_of_eq hH.symm
       clear hc hH
       have HS := Lib.hid hf
       have RG := Lib.hid hp.blk
       have hq_q27 := hp.le
       clear hf hp
       replace R_r := kj HS R_r (by omega)
       replace R_t := kj HS R_t (by omega)
       replace HF := ft HF HS
       replace R_gp := RG
       clear HS RG
       obtain ⟨k_e, s_e, n_e, a_e, m_e, c_e, ecs⟩ := hcT I_e.out
       subst ecs
       obtain ⟨d0_t, d1_t, d2_t, d3_t⟩ := z4c R_t.out
       obtain ⟨f0_t, f1_t, f2_t, f3_t⟩ := y4c R_t.out
       have hltr : g_t < w28.heap.size := lt_of_block R_t.out
       go_upto_region 7 with fail
       clear d0_t f0_t d1_t f1_t d2_t f2_t d3_t f3_t
       clear hltr
       obtain ⟨g_arr, hg⟩ : ∃ gZ, w28.heap.size = gZ := ⟨_, rfl⟩
       rw [hg]
       have L_gp_arr := lb hg R_gp
       have L_r_arr := lb hg R_r
       have L_t_arr := lb hg R_t
       have B_arr := bs hg HF
       have M_h_e_arr := mz hg Z_h_e
       obtain ⟨w29, hn⟩ : ∃ wZ, setL g_t [(3, .slice (some ⟨g_arr, 0, none⟩) 1 1)] w28 = wZ := ⟨_, rfl⟩
       have R_t' : Hid (w29.heap[g_t]? = some (.cells #[.int .u8 6, .string st_t, .int .i64 0, .slice (some ⟨g_arr, 0, none⟩) 1 1] 74 (0, 0))) := Lib.hid (by rw [← hn]; exact setL_block [(3, .slice (some ⟨g_arr, 0, none⟩) 1 1)] _ _ R_t.out)
       have HS := sl hn
       have he := hn
       simp only [setL] at he
       rw [he]
       clear he
       have hsz := (congrArg (fun w => w.heap.size) hn).symm.trans ((setL_size _ _ _).trans hg)
       clear hg
       (try dsimp only at hsz)
       clear hn
       replace R_gp := kj HS R_gp (by omega)
       replace R_r := kj HS R_r (by omega)
       replace I_e := ij I_e HS (by omega)
       replace HF := fb HF HS (by omega)
       replace Z_h_e := zt Z_h_e HS
       have R_t := R_t'
       clear R_t' HS
       obtain ⟨w30, hn⟩ : ∃ wZ, w29.alloc (.cells #[.int .u8 k_e, .string s_e, .int .i64 n_e, .slice a_e m_e c_e] 74) = wZ := ⟨_, rfl⟩
       rw [hn]
       have HS := fa hn
       have R_arr : Hid (w30.heap[g_arr]? = some (.cells #[.int .u8 k_e, .string s_e, .int .i64 n_e, .slice a_e m_e c_e] 74 (0, 0))) := Lib.hid (by rw [← hn, ← hsz]; exact new_block _ _)
       clear hn hsz
       replace R_gp := kn HS R_gp
       replace R_r := kn HS R_r
       replace R_t := kn HS R_t
       replace I_e := ik I_e HS
       replace HF := fn HF HS
       replace Z_h_e := zt Z_h_e HS
       clear HS
       obtain ⟨d0_t, d1_t, d2_t, d3_t⟩ := z4c R_t.out
       obtain ⟨f0_t, f1_t, f2_t, f3_t⟩ := y4c R_t.out
       obtain ⟨d0_r, d1_r, d2_r, d3_r⟩ := z4c R_r.out
       obtain ⟨f0_r, f1_r, f2_r, f3_r⟩ := y4c R_r.out
       go_wp2_with fail
       clear d0_t f0_t d1_t f1_t d2_t f2_t d3_t f3_t
       clear d0_r f0_r d1_r f1_r d2_r f2_r d3_r f3_r
       obtain ⟨w31, hn⟩ : ∃ wZ, setFrom g_r 0 [.int .u8 6, .string st_t, .int .i64 0, .slice (some ⟨g_arr, 0, none⟩) 1 1] w30 = wZ := ⟨_, rfl⟩
       have R_r' := sf hn R_r rfl
       have HS := sg hn
       have he := hn
       simp only [setFrom, Nat.reduceAdd] at he
       rw [he]
       clear he
       clear hn
       replace R_gp := kj HS R_gp (by omega)
       replace R_t := kj HS R_t (by omega)
       replace R_arr := kj HS R_arr (by omega)
       replace I_e := ij I_e HS (by omega)
       replace HF := fb HF HS (by omega)
       replace Z_h_e := zt Z_h_e HS
       have R_r := R_r'
       clear R_r' HS
       (try simp only [Exit.inBlock, Exit.then])
       have hv := HV.out
       subst hv
       refine bodyPost_ret (results_st rfl Tryd.underlying74 (by kernel_rfl) _ _ g_r _ rfl rfl R_r.out) rfl ?_
       exact ⟨⟨_, rfl, hcT_mk 6 st_t 0 (hx_one (c := [.int .u8 k_e, .string s_e, .int .i64 n_e, .slice a_e m_e c_e]) R_arr.out B_arr rfl (by decide) (I_e.out.mono (fun b _ hb => by have := hb.1; omega)))⟩, HF.out, (Par.of HP0.out HF.out R_gp.out hq_q27)⟩
     | false =>
      have hb_sk' := hb_sk
      rw [HT_u.out] at hb_sk'
      refine (ss_any (ts := [⟨#[95]⟩, ⟨#[126]⟩, ⟨#[40]⟩, ⟨#[116, 114, 117, 101]⟩, ⟨#[102, 97, 108, 115, 101]⟩]) (n := 5) (Par.of HP0.out HF.out R_gp.out hq_pP1) R_sk.out rfl (by omega) hb_sk).mono ?_
      rintro e w32 ⟨rfl, hf⟩
      clear R_sk
      have HS := Lib.hid hf
      clear hf
      replace R_gp := kn HS R_gp
      replace R_r := kn HS R_r
      replace R_t := kn HS R_t
      replace HF := fn HF HS
      clear HS
      have hpb : ¬ Gr.patB (⟨kt_u, st_u, mt_u, qt_u⟩ : Tok) = true := by simp only [Gr.patB]; rw [hb_sk', decide_eq_false hk1_u, decide_eq_false hk4_u, decide_eq_false hk2_u]; simp
      have hv := HV.out
      rw [if_neg hpb] at hv
      replace HV := Lib.hid hv
      clear hv
      clear hpb
      simp only [run_bind, run_skip, run_must, run_take, Pr.run, next, if_true, if_false, Bool.false_eq_true] at HV
      obtain ⟨d0_t, d1_t, d2_t, d3_t⟩ := z4c R_t.out
      obtain ⟨f0_t, f1_t, f2_t, f3_t⟩ := y4c R_t.out
      obtain ⟨d0_r, d1_r, d2_r, d3_r⟩ := z4c R_r.out
      obtain ⟨f0_r, f1_r, f2_r, f3_r⟩ := y4c R_r.out
      go_wp2_with fail
      clear d0_t f0_t d1_t f1_t d2_t f2_t d3_t f3_t
      clear d0_r f0_r d1_r f1_r d2_r f2_r d3_r f3_r
      obtain ⟨w33, hn⟩ : ∃ wZ, setFrom g_r 0 [.int .u8 6, .string st_t, .int .i64 0, .slice none 0 0] w32 = wZ := ⟨_, rfl⟩
      have R_r' := sf hn R_r rfl
      have HS := sg hn
      have he := hn
      simp only [setFrom, Nat.reduceAdd] at he
      rw [he]
      clear he
      clear hn
      replace R_gp := kj HS R_gp (by omega)
      replace R_t := kj HS R_t (by omega)
      replace HF := fb HF HS (by omega)
      have R_r := R_r'
      clear R_r' HS
      (try simp only [Exit.inBlock, Exit.then])
      have hv := HV.out
      subst hv
      refine bodyPost_ret (results_st rfl Tryd.underlying74 (by kernel_rfl) _ _ g_r _ rfl rfl R_r.out) rfl ?_
      exact ⟨⟨_, rfl, hcT_none 6 st_t 0⟩, HF.out, (Par.of HP0.out HF.out R_gp.out hq_pP1)⟩
 ·
  have hv := HV.out
  rw [if_neg hk2_t] at hv
  replace HV := Lib.hid hv
  clear hv
  have hq2_t : ((kt_t : Int) == 2) = false := by simp only [beq_eq_false_iff_ne, ne_eq]; omega
  have hn2_t : ((kt_t : Int) != 2) = true := by rw [bne, hq2_t]; rfl
  go_wp2_with fail
  cases hr_e : Pr.run l g.patAtom p with
  | out =>
   simp only [hr_e, Re.andThen, run_bind, run_skip, run_must, run_take, Pr.run, next, if_true, if_false, Bool.false_eq_true] at HV
   exact absurd HV.out.symm HO.out
  | fail q =>
   simp only [hr_e, Re.andThen, run_bind, run_skip, run_must, run_take, Pr.run, next, if_true, if_false, Bool.false_eq_true] at HV
   refine ((HH.out.patAtom).bad (Par.of HP0.out HF.out R_gp.out hq_p) hr_e).mono ?_
   rintro e w34 ⟨rfl, hf, hp⟩
   have hv := HV.out
   subst hv
   exact ⟨rfl, rfl, HF.out.trans hf (fun _ _ h => h), hp⟩
  | ok x_e q35 =>
   simp only [hr_e, Re.andThen, run_bind, run_skip, run_must, run_take, Pr.run, next, if_true, if_false, Bool.false_eq_true] at HV
   have hsz_e : gp < w2.heap.size := lt_of_block R_gp.out
   obtain ⟨b_e, hB⟩ : ∃ bZ, w2.heap.size = bZ := ⟨_, rfl⟩
   have K_gp_e := lb hB R_gp
   have K_r_e := lb hB R_r
   have KB_e := bs hB HF
   clear hsz_e
   refine ((HH.out.patAtom).good (Par.of HP0.out HF.out R_gp.out hq_p) hr_e).mono ?_
   rintro e w36 ⟨⟨cs_e, rfl, hc⟩, hf, hp⟩
   rw [hB] at hc
   clear hB
   obtain ⟨h_e, hH⟩ : ∃ hZ, w36.heap.size = hZ := ⟨_, rfl⟩
   have I_e := im hH hc
   have Z_h_e : h_e ≤ w36.heap.size := Nat.le_of_eq hH.symm
   clear hc hH
   have HS := Lib.hid hf
   have RG := Lib.hid hp.blk
   have hq_q35 := hp.le
   clear hf hp
   replace R_r := kj HS R_r (by omega)
   replace HF := ft HF HS
   replace R_gp := RG
   clear HS RG
   obtain ⟨k_e, s_e, n_e, a_e, m_e, c_e, ecs⟩ := hcT I_e.out
   subst ecs
   obtain ⟨d0_r, d1_r, d2_r, d3_r⟩ := z4c R_r.out
   obtain ⟨f0_r, f1_r, f2_r, f3_r⟩ := y4c R_r.out
   go_wp2_with fail
   clear d0_r f0_r d1_r f1_r d2_r f2_r d3_r f3_r
   obtain ⟨w37, hn⟩ : ∃ wZ, setFrom g_r 0 [.int .u8 k_e, .string s_e, .int .i64 n_e, .slice a_e m_e c_e] w36 = wZ := ⟨_, rfl⟩
   have R_r' := sf hn R_r rfl
   have HS := sg hn
   have he := hn
   simp only [setFrom, Nat.reduceAdd] at he
   rw [he]
   clear he
   clear hn
   replace R_gp := kj HS R_gp (by omega)
   replace I_e := ij I_e HS (by omega)
   replace HF := fb HF HS (by omega)
   replace Z_h_e := zt Z_h_e HS
   have R_r := R_r'
   clear R_r' HS
   (try simp only [Exit.inBlock, Exit.then])
   have hv := HV.out
   subst hv
   refine bodyPost_ret (results_st rfl Tryd.underlying74 (by kernel_rfl) _ _ g_r _ rfl rfl R_r.out) rfl ?_
   exact ⟨⟨_, rfl, I_e.out.mono (fun b _ hb => by have := hb.1; omega)⟩, HF.out, (Par.of HP0.out HF.out R_gp.out hq_q35)⟩
end Go.Proofs.YtjabhmepafofmaaDoor
namespace Go.Proofs.YtjabhmepafofmaaDoor
open Go.RowKit

set_option maxHeartbeats 4000000 in
set_option maxRecDepth 100000 in
theorem patAtom_step {gp : Nat} {a : Option Addr} {c : Nat} {l : List Tok} {g : Gr} (h : Oks gp a c l g) : CT gp a c l 82 [] (stE xT) g.pPatAtom := by
 intro w p hp0 ho
 have HO := Lib.hid ho
 have HP0 := Lib.hid hp0
 have HH := Lib.hid h
 have hq_p := hp0.le
 have hlen := hp0.len
 have HF : Hid (Fr (Just gp) w w) := Lib.hid (Fr.refl _ _)
 have R_gp : Hid (w.heap[gp]? = some (.cells #[.slice a l.length c, .int .i64 (p : Nat)] 60 (0, 0))) := Lib.hid hp0.blk
 obtain ⟨V, hV⟩ : ∃ V, Pr.run l (g.pPatAtom) p = V := ⟨_, rfl⟩
 rw [hV] at HO ⊢
 clear ho hp0 h
 simp only [Gr.pPatAtom, run_bind, run_skip, run_must, run_take, Pr.run, next, if_true, if_false, Bool.false_eq_true] at hV
 have HV := Lib.hid hV
 clear hV
 go_enter Tryd.func82, Tryd.ntmps82
 go_upto_region 1 with fail
 generalize hn : w.alloc _ = w1
 generalize hg : w.heap.size = g_r
 have HS := fa hn
 have R_r := nb hn hg
 have L_gp_r := lb hg R_gp
 have B_r := bs hg HF
 clear hn hg
 replace R_gp := kn HS R_gp
 replace HF := fn HF HS
 clear HS
 go_wp2_with fail
 obtain ⟨⟨kt_t, st_t, mt_t, qt_t⟩, ht⟩ : ∃ t, l.getD p zTok = t := ⟨_, rfl⟩
 refine (next_any gp a c l p w1 (Par.of HP0.out HF.out R_gp.out hq_p)).mono ?_
 rintro e w2 ⟨rfl, hf⟩
 rw [ht]
 simp only [tokV]
 have hv := HV.out
 (try simp only [Re.andThen, run_bind, run_skip, run_must, run_take, Pr.run, next, if_true, if_false, Bool.false_eq_true] at hv)
 (try simp only [ht] at hv)
 replace HV := Lib.hid hv
 have HT_t := Lib.hid ht
 clear hv ht
 have HS := Lib.hid hf
 clear hf
 replace R_gp := kn HS R_gp
 replace R_r := kn HS R_r
 replace HF := fn HF HS
 clear HS
 go_upto_region 2 with fail
 generalize hn : w2.alloc _ = w3
 generalize hg : w2.heap.size = g_t
 have HS := fa hn
 have R_t := nb hn hg
 have L_gp_t := lb hg R_gp
 have L_r_t := lb hg R_r
 have B_t := bs hg HF
 clear hn hg
 replace R_gp := kn HS R_gp
 replace R_r := kn HS R_r
 replace HF := fn HF HS
 clear HS
 go_upto_region 5 with fail
 generalize hn : w3.alloc _ = w4
 generalize hg : w3.heap.size = g_x
 have HS := fa hn
 have R_x := nb hn hg
 have L_gp_x := lb hg R_gp
 have L_r_x := lb hg R_r
 have L_t_x := lb hg R_t
 have B_x := bs hg HF
 clear hn hg
 replace R_gp := kn HS R_gp
 replace R_r := kn HS R_r
 replace R_t := kn HS R_t
 replace HF := fn HF HS
 clear HS
 go_wp2_with fail
 generalize hn : w4.alloc _ = w5
 generalize hg : w4.heap.size = g_sk
 have HS := fa hn
 have R_sk := nb hn hg
 have L_gp_sk := lb hg R_gp
 have L_r_sk := lb hg R_r
 have L_t_sk := lb hg R_t
 have L_x_sk := lb hg R_x
 have B_sk := bs hg HF
 clear hn hg
 replace R_gp := kn HS R_gp
 replace R_r := kn HS R_r
 replace R_t := kn HS R_t
 replace R_x := kn HS R_x
 replace HF := fn HF HS
 clear HS
 cases hb_sk : seesB (l.getD p zTok) [⟨#[95]⟩] with
 | true =>
  have hb_sk' := hb_sk
  rw [HT_t.out] at hb_sk'
  refine (ss_any (ts := [⟨#[95]⟩]) (n := 1) (Par.of HP0.out HF.out R_gp.out hq_p) R_sk.out rfl (by omega) hb_sk).mono ?_
  rintro e w6 ⟨rfl, hf⟩
  clear R_sk
  have HS := Lib.hid hf
  clear hf
  replace R_gp := kn HS R_gp
  replace R_r := kn HS R_r
  replace R_t := kn HS R_t
  replace R_x := kn HS R_x
  replace HF := fn HF HS
  clear HS
  have hv := HV.out
  rw [if_pos hb_sk'] at hv
  replace HV := Lib.hid hv
  clear hv
  skip
  obtain ⟨d0_x, d1_x, d2_x, d3_x⟩ := z4c R_x.out
  obtain ⟨f0_x, f1_x, f2_x, f3_x⟩ := y4c R_x.out
  obtain ⟨d0_t, d1_t, d2_t, d3_t⟩ := z4c R_t.out
  obtain ⟨f0_t, f1_t, f2_t, f3_t⟩ := y4c R_t.out
  go_upto_region 17 with fail
  clear d0_x f0_x d1_x f1_x d2_x f2_x d3_x f3_x
  clear d0_t f0_t d1_t f1_t d2_t f2_t d3_t f3_t
  obtain ⟨w7, hn⟩ : ∃ wZ, setFrom g_x 0 [.int .u8 1, .string ⟨#[]⟩, .int .i64 0, .slice none 0 0] w6 = wZ := ⟨_, rfl⟩
  have R_x' := sf hn R_x rfl
  have HS := sg hn
  have he := hn
  simp only [setFrom, Nat.reduceAdd] at he
  rw [he]
  clear he
  clear hn
  replace R_gp := kj HS R_gp (by omega)
  replace R_r := kj HS R_r (by omega)
  replace R_t := kj HS R_t (by omega)
  replace HF := fb HF HS (by omega)
  have R_x := R_x'
  clear R_x' HS
  simp only [run_bind, run_skip, run_must, run_take, Pr.run, next, if_true, if_false, Bool.false_eq_true] at HV
  obtain ⟨d0_gp, d1_gp⟩ := z2c R_gp.out
  obtain ⟨f0_gp, f1_gp⟩ := y2c R_gp.out
  go_upto_region 18 with fail
  clear d0_gp f0_gp d1_gp f1_gp
  have hpl : p < l.length := sees_lt hb_sk
  obtain ⟨w8, hn⟩ : ∃ wZ, w7.setCell ⟨gp, 1, none⟩ (.int .i64 ((p : Nat) + 1)) = wZ := ⟨_, rfl⟩
  have hp : Par w8 gp a c l (p + 1) := by rw [← hn]; exact ((Par.of HP0.out HF.out R_gp.out hq_p)).set hpl
  have hf : Fr (Just gp) w7 w8 := by rw [← hn]; exact Fr.setCell w7 ⟨gp, 1, none⟩ _
  rw [hn]
  clear hn hpl
  have HS := Lib.hid hf
  have RG := Lib.hid hp.blk
  have hq_pP1 := hp.le
  clear hf hp
  replace R_r := kj HS R_r (by omega)
  replace R_t := kj HS R_t (by omega)
  replace R_x := kj HS R_x (by omega)
  replace HF := ft HF HS
  replace R_gp := RG
  clear HS RG
  obtain ⟨d0_x, d1_x, d2_x, d3_x⟩ := z4c R_x.out
  obtain ⟨f0_x, f1_x, f2_x, f3_x⟩ := y4c R_x.out
  obtain ⟨d0_r, d1_r, d2_r, d3_r⟩ := z4c R_r.out
  obtain ⟨f0_r, f1_r, f2_r, f3_r⟩ := y4c R_r.out
  go_wp2_with fail
  clear d0_x f0_x d1_x f1_x d2_x f2_x d3_x f3_x
  clear d0_r f0_r d1_r f1_r d2_r f2_r d3_r f3_r
  obtain ⟨w9, hn⟩ : ∃ wZ, setFrom g_r 0 [.int .u8 1, .string ⟨#[]⟩, .int .i64 0, .slice none 0 0] w8 = wZ := ⟨_, rfl⟩
  have R_r' := sf hn R_r rfl
  have HS := sg hn
  have he := hn
  simp only [setFrom, Nat.reduceAdd] at he
  rw [he]
  clear he
  clear hn
  replace R_gp := kj HS R_gp (by omega)
  replace R_t := kj HS R_t (by omega)
  replace R_x := kj HS R_x (by omega)
  replace HF := fb HF HS (by omega)
  have R_r := R_r'
  clear R_r' HS
  (try simp only [Exit.inBlock, Exit.then])
  have hv := HV.out
  subst hv
  refine bodyPost_ret (results_st rfl Tryd.underlying74 (by kernel_rfl) _ _ g_r _ rfl rfl R_r.out) rfl ?_
  exact ⟨⟨_, rfl, hcT_none 1 nob 0⟩, HF.out, (Par.of HP0.out HF.out R_gp.out hq_pP1)⟩
 | false =>
  have hb_sk' := hb_sk
  rw [HT_t.out] at hb_sk'
  refine (ss_any (ts := [⟨#[95]⟩]) (n := 1) (Par.of HP0.out HF.out R_gp.out hq_p) R_sk.out rfl (by omega) hb_sk).mono ?_
  rintro e w10 ⟨rfl, hf⟩
  clear R_sk
  have HS := Lib.hid hf
  clear hf
  replace R_gp := kn HS R_gp
  replace R_r := kn HS R_r
  replace R_t := kn HS R_t
  replace R_x := kn HS R_x
  replace HF := fn HF HS
  clear HS
  have hv := HV.out
  rw [if_neg (by rw [hb_sk']; exact Bool.false_ne_true)] at hv
  replace HV := Lib.hid hv
  clear hv
  obtain ⟨d0_t, d1_t, d2_t, d3_t⟩ := z4c R_t.out
  obtain ⟨f0_t, f1_t, f2_t, f3_t⟩ := y4c R_t.out
  skip
  clear d0_t f0_t d1_t f1_t d2_t f2_t d3_t f3_t
  by_cases hk1_t : kt_t = 1
  ·
   have hv := HV.out
   rw [if_pos hk1_t] at hv
   replace HV := Lib.hid hv
   clear hv
   have hq1_t : ((kt_t : Int) == 1) = true := by simp [hk1_t]
   have hn1_t : ((kt_t : Int) != 1) = false := by rw [bne, hq1_t]; rfl
   obtain ⟨d0_x, d1_x, d2_x, d3_x⟩ := z4c R_x.out
   obtain ⟨f0_x, f1_x, f2_x, f3_x⟩ := y4c R_x.out
   obtain ⟨d0_t, d1_t, d2_t, d3_t⟩ := z4c R_t.out
   obtain ⟨f0_t, f1_t, f2_t, f3_t⟩ := y4c R_t.out
   go_upto_region 17 with fail
   clear d0_x f0_x d1_x f1_x d2_x f2_x d3_x f3_x
   clear d0_t f0_t d1_t f1_t d2_t f2_t d3_t f3_t
   obtain ⟨w11, hn⟩ : ∃ wZ, setFrom g_x 0 [.int .u8 2, .string st_t, .int .i64 0, .slice none 0 0] w10 = wZ := ⟨_, rfl⟩
   have R_x' := sf hn R_x rfl
   have HS := sg hn
   have he := hn
   simp only [setFrom, Nat.reduceAdd] at he
   rw [he]
   clear he
   clear hn
   replace R_gp := kj HS R_gp (by omega)
   replace R_r := kj HS R_r (by omega)
   replace R_t := kj HS R_t (by omega)
   replace HF := fb HF HS (by omega)
   have R_x := R_x'
   clear R_x' HS
   simp only [run_bind, run_skip, run_must, run_take, Pr.run, next, if_true, if_false, Bool.false_eq_true] at HV
   obtain ⟨d0_gp, d1_gp⟩ := z2c R_gp.out
   obtain ⟨f0_gp, f1_gp⟩ := y2c R_gp.out
   go_upto_region 18 with fail
   clear d0_gp f0_gp d1_gp f1_gp
   have hpl : p < l.length := kind_lt (k := 1) (by rw [HT_t.out]; exact hk1_t) (by decide)
   obtain ⟨w12, hn⟩ : ∃ wZ, w11.setCell ⟨gp, 1, none⟩ (.int .i64 ((p : Nat) + 1)) = wZ := ⟨_, rfl⟩
   have hp : Par w12 gp a c l (p + 1) := by rw [← hn]; exact ((Par.of HP0.out HF.out R_gp.out hq_p)).set hpl
   have hf : Fr (Just gp) w11 w12 := by rw [← hn]; exact Fr.setCell w11 ⟨gp, 1, none⟩ _
   rw [hn]
   clear hn hpl
   have HS := Lib.hid hf
   have RG := Lib.hid hp.blk
   have hq_pP1 := hp.le
   clear hf hp
   replace R_r := kj HS R_r (by omega)
   replace R_t := kj HS R_t (by omega)
   replace R_x := kj HS R_x (by omega)
   replace HF := ft HF HS
   replace R_gp := RG
   clear HS RG
   obtain ⟨d0_x, d1_x, d2_x, d3_x⟩ := z4c R_x.out
   obtain ⟨f0_x, f1_x, f2_x, f3_x⟩ := y4c R_x.out
   obtain ⟨d0_r, d1_r, d2_r, d3_r⟩ := z4c R_r.out
   obtain ⟨f0_r, f1_r, f2_r, f3_r⟩ := y4c R_r.out
   go_wp2_with fail
   clear d0_x f0_x d1_x f1_x d2_x f2_x d3_x f3_x
   clear d0_r f0_r d1_r f1_r d2_r f2_r d3_r f3_r
   obtain ⟨w13, hn⟩ : ∃ wZ, setFrom g_r 0 [.int .u8 2, .string st_t, .int .i64 0, .slice none 0 0] w12 = wZ := ⟨_, rfl⟩
   have R_r' := sf hn R_r rfl
   have HS := sg hn
   have he := hn
   simp only [setFrom, Nat.reduceAdd] at he
   rw [he]
   clear he
   clear hn
   replace R_gp := kj HS R_gp (by omega)
   replace R_t := kj HS R_t (by omega)
   replace R_x := kj HS R_x (by omega)
   replace HF := fb HF HS (by omega)
   have R_r := R_r'
   clear R_r' HS
   (try simp only [Exit.inBlock, Exit.then])
   have hv := HV.out
   subst hv
   refine bodyPost_ret (results_st rfl Tryd.underlying74 (by kernel_rfl) _ _ g_r _ rfl rfl R_r.out) rfl ?_
   exact ⟨⟨_, rfl, hcT_none 2 st_t 0⟩, HF.out, (Par.of HP0.out HF.out R_gp.out hq_pP1)⟩
  ·
   have hv := HV.out
   rw [if_neg hk1_t] at hv
   replace HV := Lib.hid hv
   clear hv
   have hq1_t : ((kt_t : Int) == 1) = false := by simp only [beq_eq_false_iff_ne, ne_eq]; omega
   have hn1_t : ((kt_t : Int) != 1) = true := by rw [bne, hq1_t]; rfl
   by_cases hk4_t : kt_t = 4
   ·
    have hv := HV.out
    rw [if_pos hk4_t] at hv
    replace HV := Lib.hid hv
    clear hv
    have hq4_t : ((kt_t : Int) == 4) = true := by simp [hk4_t]
    have hn4_t : ((kt_t : Int) != 4) = false := by rw [bne, hq4_t]; rfl
    obtain ⟨d0_x, d1_x, d2_x, d3_x⟩ := z4c R_x.out
    obtain ⟨f0_x, f1_x, f2_x, f3_x⟩ := y4c R_x.out
    obtain ⟨d0_t, d1_t, d2_t, d3_t⟩ := z4c R_t.out
    obtain ⟨f0_t, f1_t, f2_t, f3_t⟩ := y4c R_t.out
    go_upto_region 17 with fail
    clear d0_x f0_x d1_x f1_x d2_x f2_x d3_x f3_x
    clear d0_t f0_t d1_t f1_t d2_t f2_t d3_t f3_t
    obtain ⟨w14, hn⟩ : ∃ wZ, setFrom g_x 0 [.int .u8 3, .string ⟨#[]⟩, .int .i64 mt_t, .slice none 0 0] w10 = wZ := ⟨_, rfl⟩
    have R_x' := sf hn R_x rfl
    have HS := sg hn
    have he := hn
    simp only [setFrom, Nat.reduceAdd] at he
    rw [he]
    clear he
    clear hn
    replace R_gp := kj HS R_gp (by omega)
    replace R_r := kj HS R_r (by omega)
    replace R_t := kj HS R_t (by omega)
    replace HF := fb HF HS (by omega)
    have R_x := R_x'
    clear R_x' HS
    simp only [run_bind, run_skip, run_must, run_take, Pr.run, next, if_true, if_false, Bool.false_eq_true] at HV
    obtain ⟨d0_gp, d1_gp⟩ := z2c R_gp.out
    obtain ⟨f0_gp, f1_gp⟩ := y2c R_gp.out
    go_upto_region 18 with fail
    clear d0_gp f0_gp d1_gp f1_gp
    have hpl : p < l.length := kind_lt (k := 4) (by rw [HT_t.out]; exact hk4_t) (by decide)
    obtain ⟨w15, hn⟩ : ∃ wZ, w14.setCell ⟨gp, 1, none⟩ (.int .i64 ((p : Nat) + 1)) = wZ := ⟨_, rfl⟩
    have hp : Par w15 gp a c l (p + 1) := by rw [← hn]; exact ((Par.of HP0.out HF.out R_gp.out hq_p)).set hpl
    have hf : Fr (Just gp) w14 w15 := by rw [← hn]; exact Fr.setCell w14 ⟨gp, 1, none⟩ _
    rw [hn]
    clear hn hpl
    have HS := Lib.hid hf
    have RG := Lib.hid hp.blk
    have hq_pP1 := hp.le
    clear hf hp
    replace R_r := kj HS R_r (by omega)
    replace R_t := kj HS R_t (by omega)
    replace R_x := kj HS R_x (by omega)
    replace HF := ft HF HS
    replace R_gp := RG
    clear HS RG
    obtain ⟨d0_x, d1_x, d2_x, d3_x⟩ := z4c R_x.out
    obtain ⟨f0_x, f1_x, f2_x, f3_x⟩ := y4c R_x.out
    obtain ⟨d0_r, d1_r, d2_r, d3_r⟩ := z4c R_r.out
    obtain ⟨f0_r, f1_r, f2_r, f3_r⟩ := y4c R_r.out
    go_wp2_with fail
    clear d0_x f0_x d1_x f1_x d2_x f2_x d3_x f3_x
    clear d0_r f0_r d1_r f1_r d2_r f2_r d3_r f3_r
    obtain ⟨w16, hn⟩ : ∃ wZ, setFrom g_r 0 [.int .u8 3, .string ⟨#[]⟩, .int .i64 mt_t, .slice none 0 0] w15 = wZ := ⟨_, rfl⟩
    have R_r' := sf hn R_r rfl
    have HS := sg hn
    have he := hn
    simp only [setFrom, Nat.reduceAdd] at he
    rw [he]
    clear he
    clear hn
    replace R_gp := kj HS R_gp (by omega)
    replace R_t := kj HS R_t (by omega)
    replace R_x := kj HS R_x (by omega)
    replace HF := fb HF HS (by omega)
    have R_r := R_r'
    clear R_r' HS
    (try simp only [Exit.inBlock, Exit.then])
    have hv := HV.out
    subst hv
    refine bodyPost_ret (results_st rfl Tryd.underlying74 (by kernel_rfl) _ _ g_r _ rfl rfl R_r.out) rfl ?_
    exact ⟨⟨_, rfl, hcT_none 3 nob mt_t⟩, HF.out, (Par.of HP0.out HF.out R_gp.out hq_pP1)⟩
   ·
    have hv := HV.out
    rw [if_neg hk4_t] at hv
    replace HV := Lib.hid hv
    clear hv
    have hq4_t : ((kt_t : Int) == 4) = false := by simp only [beq_eq_false_iff_ne, ne_eq]; omega
    have hn4_t : ((kt_t : Int) != 4) = true := by rw [bne, hq4_t]; rfl
    by_cases hk2_t : kt_t = 2
    ·
     have hq2_t : ((kt_t : Int) == 2) = true := by simp [hk2_t]
     have hn2_t : ((kt_t : Int) != 2) = false := by rw [bne, hq2_t]; rfl
     have hv := HV.out
     rw [if_pos (Or.inl hk2_t)] at hv
     replace HV := Lib.hid hv
     clear hv
     obtain ⟨d0_x, d1_x, d2_x, d3_x⟩ := z4c R_x.out
     obtain ⟨f0_x, f1_x, f2_x, f3_x⟩ := y4c R_x.out
     obtain ⟨d0_t, d1_t, d2_t, d3_t⟩ := z4c R_t.out
     obtain ⟨f0_t, f1_t, f2_t, f3_t⟩ := y4c R_t.out
     go_upto_region 17 with fail
     clear d0_x f0_x d1_x f1_x d2_x f2_x d3_x f3_x
     clear d0_t f0_t d1_t f1_t d2_t f2_t d3_t f3_t
     obtain ⟨w17, hn⟩ : ∃ wZ, setFrom g_x 0 [.int .u8 6, .string st_t, .int .i64 0, .slice none 0 0] w10 = wZ := ⟨_, rfl⟩
     have R_x' := sf hn R_x rfl
     have HS := sg hn
     have he := hn
     simp only [setFrom, Nat.reduceAdd] at he
     rw [he]
     clear he
     clear hn
     replace R_gp := kj HS R_gp (by omega)
     replace R_r := kj HS R_r (by omega)
     replace R_t := kj HS R_t (by omega)
     replace HF := fb HF HS (by omega)
     have R_x := R_x'
     clear R_x' HS
     simp only [run_bind, run_skip, run_must, run_take, Pr.run, next, if_true, if_false, Bool.false_eq_true] at HV
     obtain ⟨d0_gp, d1_gp⟩ := z2c R_gp.out
     obtain ⟨f0_gp, f1_gp⟩ := y2c R_gp.out
     go_upto_region 18 with fail
     clear d0_gp f0_gp d1_gp f1_gp
     have hpl : p < l.length := kind_lt (k := 2) (by rw [HT_t.out]; exact hk2_t) (by decide)
     obtain ⟨w18, hn⟩ : ∃ wZ, w17.setCell ⟨gp, 1, none⟩ (.int .i64 ((p : Nat) + 1)) = wZ := ⟨_, rfl⟩
     have hp : Par w18 gp a c l (p + 1) := by rw [← hn]; exact ((Par.of HP0.out HF.out R_gp.out hq_p)).set hpl
     have hf : Fr (Just gp) w17 w18 := by rw [← hn]; exact Fr.setCell w17 ⟨gp, 1, none⟩ _
     rw [hn]
     clear hn hpl
     have HS := Lib.hid hf
     have RG := Lib.hid hp.blk
     have hq_pP1 := hp.le
     clear hf hp
     replace R_r := kj HS R_r (by omega)
     replace R_t := kj HS R_t (by omega)
     replace R_x := kj HS R_x (by omega)
     replace HF := ft HF HS
     replace R_gp := RG
     clear HS RG
     obtain ⟨d0_x, d1_x, d2_x, d3_x⟩ := z4c R_x.out
     obtain ⟨f0_x, f1_x, f2_x, f3_x⟩ := y4c R_x.out
     obtain ⟨d0_r, d1_r, d2_r, d3_r⟩ := z4c R_r.out
     obtain ⟨f0_r, f1_r, f2_r, f3_r⟩ := y4c R_r.out
     go_wp2_with fail
     clear d0_x f0_x d1_x f1_x d2_x f2_x d3_x f3_x
     clear d0_r f0_r d1_r f1_r d2_r f2_r d3_r f3_r
     obtain ⟨w19, hn⟩ : ∃ wZ, setFrom g_r 0 [.int .u8 6, .string st_t, .int .i64 0, .slice none 0 0] w18 = wZ := ⟨_, rfl⟩
     have R_r' := sf hn R_r rfl
     have HS := sg hn
     have he := hn
     simp only [setFrom, Nat.reduceAdd] at he
     rw [he]
     clear he
     clear hn
     replace R_gp := kj HS R_gp (by omega)
     replace R_t := kj HS R_t (by omega)
     replace R_x := kj HS R_x (by omega)
     replace HF := fb HF HS (by omega)
     have R_r := R_r'
     clear R_r' HS
     (try simp only [Exit.inBlock, Exit.then])
     have hv := HV.out
     subst hv
     refine bodyPost_ret (results_st rfl Tryd.underlying74 (by kernel_rfl) _ _ g_r _ rfl rfl R_r.out) rfl ?_
     exact ⟨⟨_, rfl, hcT_none 6 st_t 0⟩, HF.out, (Par.of HP0.out HF.out R_gp.out hq_pP1)⟩
    ·
     have hq2_t : ((kt_t : Int) == 2) = false := by simp only [beq_eq_false_iff_ne, ne_eq]; omega
     have hn2_t : ((kt_t : Int) != 2) = true := by rw [bne, hq2_t]; rfl
     obtain ⟨d0_t, d1_t, d2_t, d3_t⟩ := z4c R_t.out
     obtain ⟨f0_t, f1_t, f2_t, f3_t⟩ := y4c R_t.out
     go_wp2_with fail
     clear d0_t f0_t d1_t f1_t d2_t f2_t d3_t f3_t
     generalize hn : w10.alloc _ = w20
     generalize hg : w10.heap.size = g_sk
     have HS := fa hn
     have R_sk := nb hn hg
     have L_gp_sk := lb hg R_gp
     have L_r_sk := lb hg R_r
     have L_t_sk := lb hg R_t
     have L_x_sk := lb hg R_x
     have B_sk := bs hg HF
     clear hn hg
     replace R_gp := kn HS R_gp
     replace R_r := kn HS R_r
     replace R_t := kn HS R_t
     replace R_x := kn HS R_x
     replace HF := fn HF HS
     clear HS
     cases hb_sk : seesB (l.getD p zTok) [⟨#[116, 114, 117, 101]⟩, ⟨#[102, 97, 108, 115, 101]⟩] with
     | true =>
      have hb_sk' := hb_sk
      rw [HT_t.out] at hb_sk'
      refine (ss_any (ts := [⟨#[116, 114, 117, 101]⟩, ⟨#[102, 97, 108, 115, 101]⟩]) (n := 2) (Par.of HP0.out HF.out R_gp.out hq_p) R_sk.out rfl (by omega) hb_sk).mono ?_
      rintro e w21 ⟨rfl, hf⟩
      clear R_sk
      have HS := Lib.hid hf
      clear hf
      replace R_gp := kn HS R_gp
      replace R_r := kn HS R_r
      replace R_t := kn HS R_t
      replace R_x := kn HS R_x
      replace HF := fn HF HS
      clear HS
      have hv := HV.out
      rw [if_pos (Or.inr hb_sk')] at hv
      replace HV := Lib.hid hv
      clear hv
      obtain ⟨d0_x, d1_x, d2_x, d3_x⟩ := z4c R_x.out
      obtain ⟨f0_x, f1_x, f2_x, f3_x⟩ := y4c R_x.out
      obtain ⟨d0_t, d1_t, d2_t, d3_t⟩ := z4c R_t.out
      obtain ⟨f0_t, f1_t, f2_t, f3_t⟩ := y4c R_t.out
      go_upto_region 17 with fail
      clear d0_x f0_x d1_x f1_x d2_x f2_x d3_x f3_x
      clear d0_t f0_t d1_t f1_t d2_t f2_t d3_t f3_t
      obtain ⟨w22, hn⟩ : ∃ wZ, setFrom g_x 0 [.int .u8 6, .string st_t, .int .i64 0, .slice none 0 0] w21 = wZ := ⟨_, rfl⟩
      have R_x' := sf hn R_x rfl
      have HS := sg hn
      have he := hn
      simp only [setFrom, Nat.reduceAdd] at he
      rw [he]
      clear he
      clear hn
      replace R_gp := kj HS R_gp (by omega)
      replace R_r := kj HS R_r (by omega)
      replace R_t := kj HS R_t (by omega)
      replace HF := fb HF HS (by omega)
      have R_x := R_x'
      clear R_x' HS
      simp only [run_bind, run_skip, run_must, run_take, Pr.run, next, if_true, if_false, Bool.false_eq_true] at HV
      obtain ⟨d0_gp, d1_gp⟩ := z2c R_gp.out
      obtain ⟨f0_gp, f1_gp⟩ := y2c R_gp.out
      go_upto_region 18 with fail
      clear d0_gp f0_gp d1_gp f1_gp
      have hpl : p < l.length := sees_lt hb_sk
      obtain ⟨w23, hn⟩ : ∃ wZ, w22.setCell ⟨gp, 1, none⟩ (.int .i64 ((p : Nat) + 1)) = wZ := ⟨_, rfl⟩
      have hp : Par w23 gp a c l (p + 1) := by rw [← hn]; exact ((Par.of HP0.out HF.out R_gp.out hq_p)).set hpl
      have hf : Fr (Just gp) w22 w23 := by rw [← hn]; exact Fr.setCell w22 ⟨gp, 1, none⟩ _
      rw [hn]
      clear hn hpl
      have HS := Lib.hid hf
      have RG := Lib.hid hp.blk
      have hq_pP1 := hp.le
      clear hf hp
      replace R_r := kj HS R_r (by omega)
      replace R_t := kj HS R_t (by omega)
      replace R_x := kj HS R_x (by omega)
      replace HF := ft HF HS
      replace R_gp := RG
      clear HS RG
      obtain ⟨d0_x, d1_x, d2_x, d3_x⟩ := z4c R_x.out
      obtain ⟨f0_x, f1_x, f2_x, f3_x⟩ := y4c R_x.out
      obtain ⟨d0_r, d1_r, d2_r, d3_r⟩ := z4c R_r.out
      obtain ⟨f0_r, f1_r, f2_r, f3_r⟩ := y4c R_r.out
      go_wp2_with fail
      clear d0_x f0_x d1_x f1_x d2_x f2_x d3_x f3_x
      clear d0_r f0_r d1_r f1_r d2_r f2_r d3_r f3_r
      obtain ⟨w24, hn⟩ : ∃ wZ, setFrom g_r 0 [.int .u8 6, .string st_t, .int .i64 0, .slice none 0 0] w23 = wZ := ⟨_, rfl⟩
      have R_r' := sf hn R_r rfl
      have HS := sg hn
      have he := hn
      simp only [setFrom, Nat.reduceAdd] at he
      rw [he]
      clear he
      clear hn
      replace R_gp := kj HS R_gp (by omega)
      replace R_t := kj HS R_t (by omega)
      replace R_x := kj HS R_x (by omega)
      replace HF := fb HF HS (by omega)
      have R_r := R_r'
      clear R_r' HS
      (try simp only [Exit.inBlock, Exit.then])
      have hv := HV.out
      subst hv
      refine bodyPost_ret (results_st rfl Tryd.underlying74 (by kernel_rfl) _ _ g_r _ rfl rfl R_r.out) rfl ?_
      exact ⟨⟨_, rfl, hcT_none 6 st_t 0⟩, HF.out, (Par.of HP0.out HF.out R_gp.out hq_pP1)⟩
     | false =>
      have hb_sk' := hb_sk
      rw [HT_t.out] at hb_sk'
      refine (ss_any (ts := [⟨#[116, 114, 117, 101]⟩, ⟨#[102, 97, 108, 115, 101]⟩]) (n := 2) (Par.of HP0.out HF.out R_gp.out hq_p) R_sk.out rfl (by omega) hb_sk).mono ?_
      rintro e w25 ⟨rfl, hf⟩
      clear R_sk
      have HS := Lib.hid hf
      clear hf
      replace R_gp := kn HS R_gp
      replace R_r := kn HS R_r
      replace R_t := kn HS R_t
      replace R_x := kn HS R_x
      replace HF := fn HF HS
      clear HS
      have hv := HV.out
      rw [if_neg (fun h => h.elim (fun h => hk2_t h) (fun h => Bool.false_ne_true (hb_sk'.symm.trans h)))] at hv
      replace HV := Lib.hid hv
      clear hv
      simp only [run_bind, run_skip, run_must, run_take, Pr.run, next, if_true, if_false, Bool.false_eq_true] at HV
      go_wp2_with fail
      generalize hn : w25.alloc _ = w26
      generalize hg : w25.heap.size = g_sk
      have HS := fa hn
      have R_sk := nb hn hg
      have L_gp_sk := lb hg R_gp
      have L_r_sk := lb hg R_r
      have L_t_sk := lb hg R_t
      have L_x_sk := lb hg R_x
      have B_sk := bs hg HF
      clear hn hg
      replace R_gp := kn HS R_gp
      replace R_r := kn HS R_r
      replace R_t := kn HS R_t
      replace R_x := kn HS R_x
      replace HF := fn HF HS
      clear HS
      cases hb_sk : seesB (l.getD p zTok) [⟨#[126]⟩] with
      | true =>
       have hb_sk' := hb_sk
       rw [HT_t.out] at hb_sk'
       simp only [hb_sk, hb_sk', Re.andThen, run_bind, run_skip, run_must, run_take, Pr.run, next, if_true, if_false, Bool.false_eq_true] at HV
       refine (sk_any (ts := [⟨#[126]⟩]) (n := 1) (Par.of HP0.out HF.out R_gp.out hq_p) R_sk.out rfl (by omega) hb_sk).mono ?_
       rintro e w27 ⟨rfl, hf, hp⟩
       replace hp : Par w27 gp a c l (p + 1) := hp
       clear R_sk
       have HS := Lib.hid hf
       have RG := Lib.hid hp.blk
       have hq_pP1 := hp.le
       clear hf hp
       replace R_r := kj HS R_r (by omega)
       replace R_t := kj HS R_t (by omega)
       replace R_x := kj HS R_x (by omega)
       replace HF := ft HF HS
       replace R_gp := RG
       clear HS RG
       go_wp2_with fail
       obtain ⟨⟨kt_u, st_u, mt_u, qt_u⟩, ht⟩ : ∃ t, l.getD (p + 1) zTok = t := ⟨_, rfl⟩
       refine (next_any gp a c l (p + 1) w27 (Par.of HP0.out HF.out R_gp.out hq_pP1)).mono ?_
       rintro e w28 ⟨rfl, hf⟩
       rw [ht]
       simp only [tokV]
       have hv := HV.out
       (try simp only [Re.andThen, run_bind, run_skip, run_must, run_take, Pr.run, next, if_true, if_false, Bool.false_eq_true] at hv)
       (try simp only [ht] at hv)
       replace HV := Lib.hid hv
       have HT_u := Lib.hid ht
       clear hv ht
       have HS := Lib.hid hf
       clear hf
       replace R_gp := kn HS R_gp
       replace R_r := kn HS R_r
       replace R_t := kn HS R_t
       replace R_x := kn HS R_x
       replace HF := fn HF HS
       clear HS
       go_wp2_with fail
       simp only [field49_2]
       go_wp2_with fail
       by_cases hk4_u : kt_u = 4
       ·
        have hq4_u : ((kt_u : Int) == 4) = true := by simp [hk4_u]
        have hn4_u : ((kt_u : Int) != 4) = false := by rw [bne, hq4_u]; rfl
        have hk : (l.getD (p + 1) zTok).kind = 4 := by rw [HT_u.out]; exact hk4_u
        refine (take_good (Par.of HP0.out HF.out R_gp.out hq_pP1) (by decide) hk).mono ?_
        rintro e w29 ⟨rfl, hf, hp⟩
        rw [HT_u.out]
        (try dsimp only)
        have hv := HV.out
        simp only [hk, hk4_u, Re.andThen, run_bind, run_skip, run_must, run_take, Pr.run, next, if_true, if_false, Bool.false_eq_true] at hv
        (try simp only [HT_u.out] at hv)
        replace HV := Lib.hid hv
        clear hv hk
        have HS := Lib.hid hf
        have RG := Lib.hid hp.blk
        have hq_pP1P1 := hp.le
        clear hf hp
        replace R_r := kj HS R_r (by omega)
        replace R_t := kj HS R_t (by omega)
        replace R_x := kj HS R_x (by omega)
        replace HF := ft HF HS
        replace R_gp := RG
        clear HS RG
        obtain ⟨d0_r, d1_r, d2_r, d3_r⟩ := z4c R_r.out
        obtain ⟨f0_r, f1_r, f2_r, f3_r⟩ := y4c R_r.out
        go_wp2_with fail
        clear d0_r f0_r d1_r f1_r d2_r f2_r d3_r f3_r
        obtain ⟨w30, hn⟩ : ∃ wZ, setFrom g_r 0 [.int .u8 3, .string ⟨#[]⟩, .int .i64 (wrap64 (-mt_u)), .slice none 0 0] w29 = wZ := ⟨_, rfl⟩
        have R_r' := sf hn R_r rfl
        have HS := sg hn
        have he := hn
        simp only [setFrom, Nat.reduceAdd] at he
        rw [he]
        clear he
        clear hn
        replace R_gp := kj HS R_gp (by omega)
        replace R_t := kj HS R_t (by omega)
        replace R_x := kj HS R_x (by omega)
        replace HF := fb HF HS (by omega)
        have R_r := R_r'
        clear R_r' HS
        (try simp only [Exit.inBlock, Exit.then])
        have hv := HV.out
        subst hv
        refine bodyPost_ret (results_st rfl Tryd.underlying74 (by kernel_rfl) _ _ g_r _ rfl rfl R_r.out) rfl ?_
        exact ⟨⟨_, rfl, (by rw [IntKind.wrap_i64 (-mt_u)]; unfold wrap64; exact hcT_none 3 nob _)⟩, HF.out, (Par.of HP0.out HF.out R_gp.out hq_pP1P1)⟩
       ·
        have hq4_u : ((kt_u : Int) == 4) = false := by simp only [beq_eq_false_iff_ne, ne_eq]; omega
        have hn4_u : ((kt_u : Int) != 4) = true := by rw [bne, hq4_u]; rfl
        have hk : ¬ (l.getD (p + 1) zTok).kind = 4 := by rw [HT_u.out]; exact hk4_u
        simp only [hk, hk4_u, Re.andThen, run_bind, run_skip, run_must, run_take, Pr.run, next, if_true, if_false, Bool.false_eq_true] at HV
        refine (take_bad (Par.of HP0.out HF.out R_gp.out hq_pP1) (by decide) hk).mono ?_
        rintro e w31 ⟨rfl, hf, hp⟩
        have hv := HV.out
        subst hv
        exact ⟨rfl, rfl, HF.out.trans hf (fun _ _ h => h), hp⟩
      | false =>
       have hb_sk' := hb_sk
       rw [HT_t.out] at hb_sk'
       simp only [hb_sk, hb_sk', Re.andThen, run_bind, run_skip, run_must, run_take, Pr.run, next, if_true, if_false, Bool.false_eq_true] at HV
       refine (sk_any (ts := [⟨#[126]⟩]) (n := 1) (Par.of HP0.out HF.out R_gp.out hq_p) R_sk.out rfl (by omega) hb_sk).mono ?_
       rintro e w32 ⟨rfl, hf, hp⟩
       replace hp : Par w32 gp a c l p := hp
       clear R_sk
       have HS := Lib.hid hf
       have RG := Lib.hid hp.blk
       have hq_p := hp.le
       clear hf hp
       replace R_r := kj HS R_r (by omega)
       replace R_t := kj HS R_t (by omega)
       replace R_x := kj HS R_x (by omega)
       replace HF := ft HF HS
       replace R_gp := RG
       clear HS RG
       go_wp2_with fail
       cases hm_op : seesB (l.getD p zTok) [⟨#[40]⟩] with
       | false =>
        have hm_op' := hm_op
        rw [HT_t.out] at hm_op'
        simp only [hm_op, hm_op', Re.andThen, run_bind, run_skip, run_must, run_take, Pr.run, next, if_true, if_false, Bool.false_eq_true] at HV
        refine (must_bad (Par.of HP0.out HF.out R_gp.out hq_p) hm_op).mono ?_
        rintro e w33 ⟨rfl, hf, hp⟩
        have hv := HV.out
        subst hv
        exact ⟨rfl, rfl, HF.out.trans hf (fun _ _ h => h), hp⟩
       | true =>
        have hm_op' := hm_op
        rw [HT_t.out] at hm_op'
        simp only [hm_op, hm_op', Re.andThen, run_bind, run_skip, run_must, run_take, Pr.run, next, if_true, if_false, Bool.false_eq_true] at HV
        refine (must_good (Par.of HP0.out HF.out R_gp.out hq_p) hm_op).mono ?_
        rintro e w34 ⟨rfl, hf, hp⟩
        have HS := Lib.hid hf
        have RG := Lib.hid hp.blk
        have hq_pP1 := hp.le
        clear hf hp
        replace R_r := kj HS R_r (by omega)
        replace R_t := kj HS R_t (by omega)
        replace R_x := kj HS R_x (by omega)
        replace HF := ft HF HS
        replace R_gp := RG
        clear HS RG
        go_wp2_with fail
        cases hr_e : Pr.run l g.patRound (p + 1) with
        | out =>
         simp only [hr_e, Re.andThen, run_bind, run_skip, run_must, run_take, Pr.run, next, if_true, if_false, Bool.false_eq_true] at HV
         exact absurd HV.out.symm HO.out
        | fail q =>
         simp only [hr_e, Re.andThen, run_bind, run_skip, run_must, run_take, Pr.run, next, if_true, if_false, Bool.false_eq_true] at HV
         refine ((HH.out.patRound).bad (Par.of HP0.out HF.out R_gp.out hq_pP1) hr_e).mono ?_
         rintro e w35 ⟨rfl, hf, hp⟩
         have hv := HV.out
         subst hv
         exact ⟨rfl, rfl, HF.out.trans hf (fun _ _ h => h), hp⟩
        | ok x_e q36 =>
         simp only [hr_e, Re.andThen, run_bind, run_skip, run_must, run_take, Pr.run, next, if_true, if_false, Bool.false_eq_true] at HV
         have hsz_e : gp < w34.heap.size := lt_of_block R_gp.out
         obtain ⟨b_e, hB⟩ : ∃ bZ, w34.heap.size = bZ := ⟨_, rfl⟩
         have K_gp_e := lb hB R_gp
         have K_r_e := lb hB R_r
         have K_t_e := lb hB R_t
         have K_x_e := lb hB R_x
         have KB_e := bs hB HF
         clear hsz_e
         refine ((HH.out.patRound).good (Par.of HP0.out HF.out R_gp.out hq_pP1) hr_e).mono ?_
         rintro e w37 ⟨⟨cs_e, rfl, hc⟩, hf, hp⟩
         rw [hB] at hc
         clear hB
         obtain ⟨h_e, hH⟩ : ∃ hZ, w37.heap.size = hZ := ⟨_, rfl⟩
         have I_e := im hH hc
         have Z_h_e : h_e ≤ w37.heap.size := Nat.le_of_eq hH.symm
         clear hc hH
         have HS := Lib.hid hf
         have RG := Lib.hid hp.blk
         have hq_q36 := hp.le
         clear hf hp
         replace R_r := kj HS R_r (by omega)
         replace R_t := kj HS R_t (by omega)
         replace R_x := kj HS R_x (by omega)
         replace HF := ft HF HS
         replace R_gp := RG
         clear HS RG
         obtain ⟨k_e, s_e, n_e, a_e, m_e, c_e, ecs⟩ := hcT I_e.out
         subst ecs
         obtain ⟨d0_r, d1_r, d2_r, d3_r⟩ := z4c R_r.out
         obtain ⟨f0_r, f1_r, f2_r, f3_r⟩ := y4c R_r.out
         go_wp2_with fail
         clear d0_r f0_r d1_r f1_r d2_r f2_r d3_r f3_r
         obtain ⟨w38, hn⟩ : ∃ wZ, setFrom g_r 0 [.int .u8 k_e, .string s_e, .int .i64 n_e, .slice a_e m_e c_e] w37 = wZ := ⟨_, rfl⟩
         have R_r' := sf hn R_r rfl
         have HS := sg hn
         have he := hn
         simp only [setFrom, Nat.reduceAdd] at he
         rw [he]
         clear he
         clear hn
         replace R_gp := kj HS R_gp (by omega)
         replace R_t := kj HS R_t (by omega)
         replace R_x := kj HS R_x (by omega)
         replace I_e := ij I_e HS (by omega)
         replace HF := fb HF HS (by omega)
         replace Z_h_e := zt Z_h_e HS
         have R_r := R_r'
         clear R_r' HS
         (try simp only [Exit.inBlock, Exit.then])
         have hv := HV.out
         subst hv
         refine bodyPost_ret (results_st rfl Tryd.underlying74 (by kernel_rfl) _ _ g_r _ rfl rfl R_r.out) rfl ?_
         exact ⟨⟨_, rfl, I_e.out.mono (fun b _ hb => by have := hb.1; omega)⟩, HF.out, (Par.of HP0.out HF.out R_gp.out hq_q36)⟩
end Go.Proofs.YtjabhmepafofmaaDoor
