/- Dr -/
import Derived.Test.YtjabhmepafofmaaGreatDoorG04
import Derived.Test.YtjabhmepafofmaaGreatDoorH02
set_option linter.unusedVariables false
set_option linter.unusedSimpArgs false
namespace Go.Proofs.YtjabhmepafofmaaGreatDoor
open Go.RowKit
theorem hcT_parts {ok : Nat → Prop} {w : World} {k : Nat} {s : ByteArray} {n : Int} {l : List T} {cs : List Value} (h : Hc ok w (xT (.mk k s n l)) cs) : ∃ (b : Option Addr) (cp : Nat), cs = [.int .u8 k, .string s, .int .i64 n, .slice b l.length cp] ∧ Hx ok w (.row 4 (l.map xT)) (.slice b l.length cp) := by
 simp only [xT, xk, xb, xi, xTs_map] at h
 obtain ⟨_, rfl, y1⟩ := hc_lit h
 obtain ⟨_, rfl, y2⟩ := hc_lit y1
 obtain ⟨_, rfl, y3⟩ := hc_lit y2
 obtain ⟨b, cp, _, rfl, hx, y4⟩ := hc_row y3
 rw [hc_nil y4]
 rw [List.length_map] at hx ⊢
 exact ⟨b, cp, rfl, hx⟩
theorem hcE_parts {ok : Nat → Prop} {w : World} {k : Nat} {s : ByteArray} {n : Int} {u : ByteArray} {l : List E} {r : List R} {d : List D} {cs : List Value} (h : Hc ok w (xE (.mk k s n u l r d)) cs) : ∃ (b1 : Option Addr) (c1 : Nat) (b2 : Option Addr) (c2 : Nat) (b3 : Option Addr) (c3 : Nat),
  cs = [.int .u8 k, .string s, .int .i64 n, .string u, .slice b1 l.length c1, .slice b2 r.length c2, .slice b3 d.length c3] ∧ Hx ok w (.row 7 (l.map xE)) (.slice b1 l.length c1) ∧ Hx ok w (.row 11 (r.map xR)) (.slice b2 r.length c2) ∧ Hx ok w (.row 16 (d.map xD)) (.slice b3 d.length c3) := by
 simp only [xE, xk, xb, xi, xEs_map, xRs_map, xDs_map] at h
 obtain ⟨_, rfl, y1⟩ := hc_lit h
 obtain ⟨_, rfl, y2⟩ := hc_lit y1
 obtain ⟨_, rfl, y3⟩ := hc_lit y2
 obtain ⟨_, rfl, y4⟩ := hc_lit y3
 obtain ⟨b1, c1, _, rfl, h1, y5⟩ := hc_row y4
 obtain ⟨b2, c2, _, rfl, h2, y6⟩ := hc_row y5
 obtain ⟨b3, c3, _, rfl, h3, y7⟩ := hc_row y6
 rw [hc_nil y7]
 rw [List.length_map] at h1 h2 h3 ⊢
 simp only [List.length_map]
 exact ⟨b1, c1, b2, c2, b3, c3, rfl, h1, h2, h3⟩
theorem hcD_parts {ok : Nat → Prop} {w : World} {k : Nat} {s : ByteArray} {v : List ByteArray} {c : List C} {f : List F} {t : T} {e : E} {cs : List Value} (h : Hc ok w (xD (.mk k s v c f t e)) cs) : ∃ (b1 : Option Addr) (c1 : Nat) (b2 : Option Addr) (c2 : Nat) (b3 : Option Addr) (c3 : Nat) (ct ce : List Value),
  cs = [.int .u8 k, .string s, .slice b1 v.length c1, .slice b2 c.length c2, .slice b3 f.length c3] ++ (ct ++ ce) ∧ Hx ok w (.row 1 (v.map fun s => [xb s])) (.slice b1 v.length c1) ∧ Hx ok w (.row 6 (c.map xC)) (.slice b2 c.length c2) ∧ Hx ok w (.row 9 (f.map xF)) (.slice b3 f.length c3) ∧ Hc ok w (xT t) ct ∧ Hc ok w (xE e) ce := by
 simp only [xD, xk, xFs_map] at h
 obtain ⟨d1, d2, rfl, h, h2⟩ := Hc.split h
 obtain ⟨_, rfl, y1⟩ := hc_lit h
 obtain ⟨_, rfl, y2⟩ := hc_lit y1
 obtain ⟨b1, c1, _, rfl, x1, y3⟩ := hc_row y2
 obtain ⟨b2, c2, _, rfl, x2, y4⟩ := hc_row y3
 obtain ⟨b3, c3, _, rfl, x3, y5⟩ := hc_row y4
 obtain ⟨ct, ce, rfl, h3, h4⟩ := Hc.split h2
 rw [hc_nil y5]
 rw [List.length_map] at x1 x2 x3 ⊢
 simp only [List.length_map]
 exact ⟨b1, c1, b2, c2, b3, c3, ct, ce, rfl, x1, x2, x3, h3, h4⟩
theorem ret_up {x y : Int} (h : x = y) : Ending.returned (.int .i64 (IntKind.i64.wrap (1 + x))) = Ending.returned (.int .i64 (up y)) := by
 rw [h]
 unfold up wrap64
 rw [IntKind.wrap_i64]
theorem ret_n {x y : Int} (h : x = y) : Ending.returned (.int .i64 x) = Ending.returned (.int .i64 y) := by rw [h]
theorem run_max2 (P : Program) (a b : Int) (w : World) : Sem.run P (Builtin.max2 (.int .i64 a) (.int .i64 b)) w = .ok (.int .i64 (max a b)) w := by
 simp only [Builtin.max2]
 by_cases h : a < b
 · simp [h, Int.max_eq_right (Int.le_of_lt h)]
 · simp [h, Int.max_eq_left (Int.not_lt.1 h)]
theorem run_max4 (P : Program) (a b c d : Int) (w : World) : Sem.run P (Builtin.max_ #[3, 3, 3, 3] 3 #[.int .i64 a, .int .i64 b, .int .i64 c, .int .i64 d]) w = .ok (.int .i64 (max (max (max a b) c) d)) w := by
 simp only [Builtin.max_, List.foldlM_cons, List.foldlM_nil, Sem.run_bind, run_max2, Result.andThen_ok, Sem.run_pure]
def DT (t : T) : Prop := ∀ (ok : Nat → Prop) (w : World) (cs : List Value), Hc ok w (xT t) cs → Calls Tryz.prog 47 #[.agg cs.toArray] w (IntE (dT t) w)
def DPt (t : T) : Prop := ∀ (ok : Nat → Prop) (w : World) (cs : List Value), Hc ok w (xT t) cs → Calls Tryz.prog 77 #[.agg cs.toArray] w (IntE (dP t) w)
def DEx (t : E) : Prop := ∀ (ok : Nat → Prop) (w : World) (cs : List Value), Hc ok w (xE t) cs → Calls Tryz.prog 50 #[.agg cs.toArray] w (IntE (dE t) w)
def DRu (t : R) : Prop := ∀ (ok : Nat → Prop) (w : World) (cs : List Value), Hc ok w (xR t) cs → Calls Tryz.prog 76 #[.agg cs.toArray] w (IntE (dR t) w)
def DFu (t : F) : Prop := ∀ (ok : Nat → Prop) (w : World) (cs : List Value), Hc ok w (xF t) cs → Calls Tryz.prog 49 #[.agg cs.toArray] w (IntE (dF t) w)
def DCo (t : C) : Prop := ∀ (ok : Nat → Prop) (w : World) (cs : List Value), Hc ok w (xC t) cs → Calls Tryz.prog 46 #[.agg cs.toArray] w (IntE (dT t.ty) w)
def DDe (t : D) : Prop := ∀ (ok : Nat → Prop) (w : World) (cs : List Value), Hc ok w (xD t) cs → Calls Tryz.prog 21 #[.agg cs.toArray] w (IntE (dD t) w)
theorem enters47 (args : Array Value) (u : World) : Sem.run Tryz.prog (callFunc 47 args) u = .ok (.enter 47 args) u := by kernel_rfl
theorem enters77 (args : Array Value) (u : World) : Sem.run Tryz.prog (callFunc 77 args) u = .ok (.enter 77 args) u := by kernel_rfl
theorem enters50 (args : Array Value) (u : World) : Sem.run Tryz.prog (callFunc 50 args) u = .ok (.enter 50 args) u := by kernel_rfl
theorem enters76 (args : Array Value) (u : World) : Sem.run Tryz.prog (callFunc 76 args) u = .ok (.enter 76 args) u := by kernel_rfl
theorem enters49 (args : Array Value) (u : World) : Sem.run Tryz.prog (callFunc 49 args) u = .ok (.enter 49 args) u := by kernel_rfl
theorem enters46 (args : Array Value) (u : World) : Sem.run Tryz.prog (callFunc 46 args) u = .ok (.enter 46 args) u := by kernel_rfl
theorem enters21 (args : Array Value) (u : World) : Sem.run Tryz.prog (callFunc 21 args) u = .ok (.enter 21 args) u := by kernel_rfl
set_option maxHeartbeats 4000000 in
set_option maxRecDepth 100000 in
theorem ty_walk (k : Nat) (s : ByteArray) (n : Int) (l : List T) (h : ∀ t ∈ l, DT t) : DT (.mk k s n l) := by
 intro ok w cs hc
 obtain ⟨b, cp, rfl, hx⟩ := hcT_parts hc
 clear hc
 obtain ⟨N, hN⟩ : ∃ N, l.length = N := ⟨_, rfl⟩
 rw [hN] at hx ⊢
 have HX := Lib.hid hx
 have HH := Lib.hid h
 clear hx h hN
 go_enter Tryz.func47, Tryz.ntmps47
 go_upto_region 1 with fail
 generalize hn : w.alloc _ = w1
 generalize hg : w.heap.size = g_x
 have HF : Hid (Fr No w w1) := Lib.hid (by rw [← hn]; exact Fr.alloc _ _)
 have R_x := nb hn hg
 clear hn hg
 by_cases hk : k = 0
 ·
  have hq : ((k : Int) == 0) = true := by simp [hk]
  obtain ⟨d0, d1, d2, d3⟩ := z4c R_x.out
  go_wp2_with fail
  go_ret
  exact ⟨by simp only [dT]; rw [if_pos hk]; rfl, HF.out⟩
 ·
  have hq : ((k : Int) == 0) = false := by simp only [beq_eq_false_iff_ne, ne_eq]; omega
  obtain ⟨d0, d1, d2, d3⟩ := z4c R_x.out
  go_wp2_with fail
  clear d0 d1 d2 d3
  refine (deep_ty enters47 (HX.out.no HF.out) (fun t ht cs w' hf hc => HH.out t ht ok w' cs hc)).mono ?_
  rintro e w6 ⟨rfl, hf⟩
  have HS := Lib.hid hf
  clear hf
  replace R_x := kn HS R_x
  replace HF := Lib.hid (HF.out.then HS.out)
  clear HS
  go_wp2_with fail
  go_ret
  exact ⟨by simp only [dT]; rw [if_neg hk, dTs_mx]; rfl, HF.out⟩
set_option maxHeartbeats 4000000 in
set_option maxRecDepth 100000 in
theorem pat_walk (k : Nat) (s : ByteArray) (n : Int) (l : List T) (h : ∀ t ∈ l, DPt t) : DPt (.mk k s n l) := by
 intro ok w cs hc
 obtain ⟨b, cp, rfl, hx⟩ := hcT_parts hc
 clear hc
 obtain ⟨N, hN⟩ : ∃ N, l.length = N := ⟨_, rfl⟩
 rw [hN] at hx ⊢
 have HX := Lib.hid hx
 have HH := Lib.hid h
 clear hx h hN
 go_enter Tryz.func77, Tryz.ntmps77
 go_upto_region 1 with fail
 generalize hn : w.alloc _ = w1
 generalize hg : w.heap.size = g_x
 have HF : Hid (Fr No w w1) := Lib.hid (by rw [← hn]; exact Fr.alloc _ _)
 have R_x := nb hn hg
 clear hn hg
 obtain ⟨d0, d1, d2, d3⟩ := z4c R_x.out
 go_wp2_with fail
 clear d0 d1 d2 d3
 refine (deep_pat enters77 (HX.out.no HF.out) (fun t ht cs w' hf hc => HH.out t ht ok w' cs hc)).mono ?_
 rintro e w6 ⟨rfl, hf⟩
 have HS := Lib.hid hf
 clear hf
 replace R_x := kn HS R_x
 replace HF := Lib.hid (HF.out.then HS.out)
 clear HS
 go_wp2_with fail
 go_ret
 exact ⟨by simp only [dP]; rw [dPs_mx]; rfl, HF.out⟩
set_option maxHeartbeats 4000000 in
set_option maxRecDepth 100000 in
theorem exp_walk (k : Nat) (s : ByteArray) (n : Int) (u : ByteArray) (l : List E) (r : List R) (d : List D) (h1 : ∀ t ∈ l, DEx t) (h2 : ∀ t ∈ r, DRu t) (h3 : ∀ t ∈ d, DDe t) : DEx (.mk k s n u l r d) := by
 intro ok w cs hc
 obtain ⟨b1, c1, b2, c2, b3, c3, rfl, x1, x2, x3⟩ := hcE_parts hc
 clear hc
 obtain ⟨N1, hN⟩ : ∃ N, l.length = N := ⟨_, rfl⟩
 rw [hN] at x1 ⊢
 have HX1 := Lib.hid x1
 have HH1 := Lib.hid h1
 clear x1 h1 hN
 obtain ⟨N2, hN⟩ : ∃ N, r.length = N := ⟨_, rfl⟩
 rw [hN] at x2 ⊢
 have HX2 := Lib.hid x2
 have HH2 := Lib.hid h2
 clear x2 h2 hN
 obtain ⟨N3, hN⟩ : ∃ N, d.length = N := ⟨_, rfl⟩
 rw [hN] at x3 ⊢
 have HX3 := Lib.hid x3
 have HH3 := Lib.hid h3
 clear x3 h3 hN
 go_enter Tryz.func50, Tryz.ntmps50
 go_upto_region 1 with fail
 generalize hn : w.alloc _ = w1
 generalize hg : w.heap.size = g_x
 have HF : Hid (Fr No w w1) := Lib.hid (by rw [← hn]; exact Fr.alloc _ _)
 have R_x := nb hn hg
 clear hn hg
 by_cases hk : k = 0
 ·
  have hq : ((k : Int) == 0) = true := by simp [hk]
  obtain ⟨d0, d1, d2, d3, d4, d5, d6⟩ := z7c R_x.out
  go_wp2_with fail
  go_ret
  exact ⟨by simp only [dE]; rw [if_pos hk]; rfl, HF.out⟩
 ·
  have hq : ((k : Int) == 0) = false := by simp only [beq_eq_false_iff_ne, ne_eq]; omega
  obtain ⟨d0, d1, d2, d3, d4, d5, d6⟩ := z7c R_x.out
  go_wp2_with fail
  clear d0 d1 d2 d3 d4 d5 d6
  refine (deep_rule enters76 (HX2.out.no HF.out) (fun t ht cs w' hf hc => HH2.out t ht ok w' cs hc)).mono ?_
  rintro e w6 ⟨rfl, hf⟩
  have HS := Lib.hid hf
  clear hf
  replace R_x := kn HS R_x
  replace HF := Lib.hid (HF.out.then HS.out)
  clear HS
  obtain ⟨m2, hm2⟩ : ∃ m, mx (r.map dR) = m := ⟨_, rfl⟩
  rw [hm2]
  have HM2 := Lib.hid hm2
  clear hm2
  go_wp2_with fail
  refine region_e (fun w' => w'.cell? ⟨g_x, 0, none⟩ = some (.int .u8 k) ∧ w'.cell? ⟨g_x, 1, none⟩ = some (.string s) ∧ w'.cell? ⟨g_x, 2, none⟩ = some (.int .i64 n) ∧ w'.cell? ⟨g_x, 3, none⟩ = some (.string u) ∧ w'.cell? ⟨g_x, 4, none⟩ = some (.slice b1 N1 c1) ∧ w'.cell? ⟨g_x, 5, none⟩ = some (.slice b2 N2 c2) ∧ w'.cell? ⟨g_x, 6, none⟩ = some (.slice b3 N3 c3)) [] (by kernel_rfl) ?_ (fun hHeld => ?_)
  · exact ⟨cell_of ((Fr.drew w6).keeps R_x.out no_one) 0, cell_of ((Fr.drew w6).keeps R_x.out no_one) 1, cell_of ((Fr.drew w6).keeps R_x.out no_one) 2, cell_of ((Fr.drew w6).keeps R_x.out no_one) 3, cell_of ((Fr.drew w6).keeps R_x.out no_one) 4, cell_of ((Fr.drew w6).keeps R_x.out no_one) 5, cell_of ((Fr.drew w6).keeps R_x.out no_one) 6⟩
  obtain ⟨w7, hwd⟩ : ∃ wZ, wZ = w6.drew := ⟨_, rfl⟩
  have HS : Hid (Fr No w6 w7) := Lib.hid (by rw [hwd]; exact Fr.drew _)
  rw [← hwd] at hHeld ⊢
  clear hwd
  replace R_x := kn HS R_x
  replace HF := Lib.hid (HF.out.then HS.out)
  clear HS
  refine take_op 0 (some 10) (Op.fieldAddr 44 ( .tmp 1) 4) 0 ?_ (by kernel_rfl) (by kernel_rfl) (by kernel_rfl) (fun _ _ _ h => h) ?_ (by assumption) ?_
  rotate_left
  · intro w hSw; (try dsimp only at hSw); go_simp; (try (with_reducible rfl))
  try simp only [Act.put, List.setIfInBounds_toArray, List.set_cons_zero, List.set_cons_succ]
  refine take_op 1 (some 11) (Op.load 41 ( .tmp 10)) 41 ?_ (by kernel_rfl) (by kernel_rfl) (by kernel_rfl) (fun _ _ _ h => h) ?_ (by assumption) ?_
  rotate_left
  · intro w hSw; (try dsimp only at hSw); go_simp; (try (with_reducible rfl))
  try simp only [Act.put, List.setIfInBounds_toArray, List.set_cons_zero, List.set_cons_succ]
  refine take_op 3 (some 13) (Op.move ( .tmp 3)) 3 ?_ (by kernel_rfl) (by kernel_rfl) (by kernel_rfl) (fun _ _ _ h => h) ?_ (by assumption) ?_
  rotate_left
  · intro w hSw; (try dsimp only at hSw); go_simp; (try (with_reducible rfl))
  try simp only [Act.put, List.setIfInBounds_toArray, List.set_cons_zero, List.set_cons_succ]
  refine take_op 4 (some 14) (Op.fieldAddr 44 ( .tmp 1) 6) 0 ?_ (by kernel_rfl) (by kernel_rfl) (by kernel_rfl) (fun _ _ _ h => h) ?_ (by assumption) ?_
  rotate_left
  · intro w hSw; (try dsimp only at hSw); go_simp; (try (with_reducible rfl))
  try simp only [Act.put, List.setIfInBounds_toArray, List.set_cons_zero, List.set_cons_succ]
  refine take_op 5 (some 15) (Op.load 25 ( .tmp 14)) 25 ?_ (by kernel_rfl) (by kernel_rfl) (by kernel_rfl) (fun _ _ _ h => h) ?_ (by assumption) ?_
  rotate_left
  · intro w hSw; (try dsimp only at hSw); go_simp; (try (with_reducible rfl))
  try simp only [Act.put, List.setIfInBounds_toArray, List.set_cons_zero, List.set_cons_succ]
  refine ready_e (rs := [2]) (by kernel_rfl) (by simp) ?_
  refine (do_mid (o := _) rfl (fun K hK => ?_) none_e)
  go_simp
  go_at_call 78
  refine (deep_exp enters50 (HX1.out.no HF.out) (fun t ht cs w' hf hc => HH1.out t ht ok w' cs hc)).mono ?_
  rintro e w8 ⟨rfl, hf⟩
  have HS := Lib.hid hf
  clear hf
  replace R_x := kn HS R_x
  replace HF := Lib.hid (HF.out.then HS.out)
  clear HS
  obtain ⟨m1, hm1⟩ : ∃ m, mx (l.map dE) = m := ⟨_, rfl⟩
  rw [hm1]
  have HM1 := Lib.hid hm1
  clear hm1
  refine hK.out _ _ ?_ (fun hHeld => ?_)
  · exact ⟨cell_of R_x.out 0, cell_of R_x.out 1, cell_of R_x.out 2, cell_of R_x.out 3, cell_of R_x.out 4, cell_of R_x.out 5, cell_of R_x.out 6⟩
  clear hK K
  try dsimp only
  try simp only [Act.put, List.setIfInBounds_toArray, List.set_cons_zero, List.set_cons_succ]
  refine ready_e (rs := [6]) (by kernel_rfl) (by simp) ?_
  refine (do_mid (o := _) rfl (fun K hK => ?_) none_e)
  go_simp
  go_at_call 20
  refine (deep_dec enters21 (HX3.out.no HF.out) (fun t ht cs w' hf hc => HH3.out t ht ok w' cs hc)).mono ?_
  rintro e w9 ⟨rfl, hf⟩
  have HS := Lib.hid hf
  clear hf
  replace R_x := kn HS R_x
  replace HF := Lib.hid (HF.out.then HS.out)
  clear HS
  obtain ⟨m3, hm3⟩ : ∃ m, mx (d.map dD) = m := ⟨_, rfl⟩
  rw [hm3]
  have HM3 := Lib.hid hm3
  clear hm3
  refine hK.out _ _ ?_ (fun hHeld => ?_)
  · exact ⟨cell_of R_x.out 0, cell_of R_x.out 1, cell_of R_x.out 2, cell_of R_x.out 3, cell_of R_x.out 4, cell_of R_x.out 5, cell_of R_x.out 6⟩
  clear hK K
  try dsimp only
  try simp only [Act.put, List.setIfInBounds_toArray, List.set_cons_zero, List.set_cons_succ]
  refine take_op 7 (some 17) (Op.call { callee := Callee.builtin Builtin.max, args := #[ .tmp 12,  .tmp 13,  .tmp 16], argTypes := #[3, 3, 3] }) 3 ?_ (by kernel_rfl) (by kernel_rfl) (by kernel_rfl) (fun _ _ _ h => h) ?_ (by assumption) ?_
  rotate_left
  · intro w hSw; (try dsimp only at hSw); go_simp; (try (with_reducible rfl))
  try simp only [Act.put, List.setIfInBounds_toArray, List.set_cons_zero, List.set_cons_succ]
  refine take_op 8 (some 18) (Op.binOp BinOp.add 3 ( .const (.int .i64 1)) ( .tmp 17) 3) 3 ?_ (by kernel_rfl) (by kernel_rfl) (by kernel_rfl) (fun _ _ _ h => h) ?_ (by assumption) ?_
  rotate_left
  · intro w hSw; (try dsimp only at hSw); go_simp; (try (with_reducible rfl))
  try simp only [Act.put, List.setIfInBounds_toArray, List.set_cons_zero, List.set_cons_succ]
  refine take_op 9 (some 2) (Op.assign ( .tmp 18)) 3 ?_ (by kernel_rfl) (by kernel_rfl) (by kernel_rfl) (fun _ _ _ h => h) ?_ (by assumption) ?_
  rotate_left
  · intro w hSw; (try dsimp only at hSw); go_simp; (try (with_reducible rfl))
  try simp only [Act.put, List.setIfInBounds_toArray, List.set_cons_zero, List.set_cons_succ]
  refine done_e (by kernel_rfl) ?_ _
  (try simp only [Exit.inBlock, Exit.then])
  go_wp2_with fail
  all_goals
   go_ret
   exact ⟨by simp only [dE]; rw [if_neg hk, dEs_mx, dRs_mx, dDs_mx, HM1.out, HM2.out, HM3.out]; exact ret_up (by omega), HF.out⟩
set_option maxHeartbeats 4000000 in
set_option maxRecDepth 100000 in
theorem rule_walk (p : T) (x : E) (h1 : DPt p) (h2 : DEx x) : DRu (.mk p x) := by
 intro ok w cs hc
 simp only [xR] at hc
 obtain ⟨d1, d2, rfl, hc1, hc2⟩ := Hc.split hc
 clear hc
 have HC1 := Lib.hid hc1
 have HC2 := Lib.hid hc2
 have HH1 := Lib.hid h1
 have HH2 := Lib.hid h2
 obtain ⟨k, s, n, b, N, cp, rfl⟩ := hcT hc1
 obtain ⟨k2, s2, n2, u, b1, N1, c1, b2, N2, c2, b3, N3, c3, rfl⟩ := hcE hc2
 clear hc1 hc2 h1 h2
 simp only [List.cons_append, List.nil_append]
 go_enter Tryz.func76, Tryz.ntmps76
 go_upto_region 1 with fail
 generalize hn : w.alloc _ = w1
 generalize hg : w.heap.size = g_x
 have HF : Hid (Fr No w w1) := Lib.hid (by rw [← hn]; exact Fr.alloc _ _)
 have R_x := nb hn hg
 clear hn hg
 go_wp2_with fail
 refine region_e (fun w' => w'.cell? ⟨g_x, 0, none⟩ = some (.int .u8 k) ∧ w'.cell? ⟨g_x, 1, none⟩ = some (.string s) ∧ w'.cell? ⟨g_x, 2, none⟩ = some (.int .i64 n) ∧ w'.cell? ⟨g_x, 3, none⟩ = some (.slice b N cp) ∧ w'.cell? ⟨g_x, 4, none⟩ = some (.int .u8 k2) ∧ w'.cell? ⟨g_x, 5, none⟩ = some (.string s2) ∧ w'.cell? ⟨g_x, 6, none⟩ = some (.int .i64 n2) ∧ w'.cell? ⟨g_x, 7, none⟩ = some (.string u) ∧ w'.cell? ⟨g_x, 8, none⟩ = some (.slice b1 N1 c1) ∧ w'.cell? ⟨g_x, 9, none⟩ = some (.slice b2 N2 c2) ∧ w'.cell? ⟨g_x, 10, none⟩ = some (.slice b3 N3 c3)) [] (by kernel_rfl) ?_ (fun hHeld => ?_)
 · exact ⟨cell_of ((Fr.drew w1).keeps R_x.out no_one) 0, cell_of ((Fr.drew w1).keeps R_x.out no_one) 1, cell_of ((Fr.drew w1).keeps R_x.out no_one) 2, cell_of ((Fr.drew w1).keeps R_x.out no_one) 3, cell_of ((Fr.drew w1).keeps R_x.out no_one) 4, cell_of ((Fr.drew w1).keeps R_x.out no_one) 5, cell_of ((Fr.drew w1).keeps R_x.out no_one) 6, cell_of ((Fr.drew w1).keeps R_x.out no_one) 7, cell_of ((Fr.drew w1).keeps R_x.out no_one) 8, cell_of ((Fr.drew w1).keeps R_x.out no_one) 9, cell_of ((Fr.drew w1).keeps R_x.out no_one) 10⟩
 obtain ⟨w6, hwd⟩ : ∃ wZ, wZ = w1.drew := ⟨_, rfl⟩
 have HS : Hid (Fr No w1 w6) := Lib.hid (by rw [hwd]; exact Fr.drew _)
 rw [← hwd] at hHeld ⊢
 clear hwd
 replace R_x := kn HS R_x
 replace HF := Lib.hid (HF.out.then HS.out)
 clear HS
 refine take_op 0 (some 3) (Op.fieldAddr 99 ( .tmp 1) 0) 0 ?_ (by kernel_rfl) (by kernel_rfl) (by kernel_rfl) (fun _ _ _ h => h) ?_ (by assumption) ?_
 rotate_left
 · intro w hSw; (try dsimp only at hSw); go_simp; (try (with_reducible rfl))
 try simp only [Act.put, List.setIfInBounds_toArray, List.set_cons_zero, List.set_cons_succ]
 refine take_op 1 (some 4) (Op.load 97 ( .tmp 3)) 97 ?_ (by kernel_rfl) (by kernel_rfl) (by kernel_rfl) (fun _ _ _ h => h) ?_ (by assumption) ?_
 rotate_left
 · intro w hSw; (try dsimp only at hSw); go_simp; (try (with_reducible rfl))
 try simp only [Act.put, List.setIfInBounds_toArray, List.set_cons_zero, List.set_cons_succ]
 refine take_op 3 (some 6) (Op.fieldAddr 99 ( .tmp 1) 1) 0 ?_ (by kernel_rfl) (by kernel_rfl) (by kernel_rfl) (fun _ _ _ h => h) ?_ (by assumption) ?_
 rotate_left
 · intro w hSw; (try dsimp only at hSw); go_simp; (try (with_reducible rfl))
 try simp only [Act.put, List.setIfInBounds_toArray, List.set_cons_zero, List.set_cons_succ]
 refine take_op 4 (some 7) (Op.load 44 ( .tmp 6)) 44 ?_ (by kernel_rfl) (by kernel_rfl) (by kernel_rfl) (fun _ _ _ h => h) ?_ (by assumption) ?_
 rotate_left
 · intro w hSw; (try dsimp only at hSw); go_simp; (try (with_reducible rfl))
 try simp only [Act.put, List.setIfInBounds_toArray, List.set_cons_zero, List.set_cons_succ]
 refine ready_e (rs := [2]) (by kernel_rfl) (by simp) ?_
 refine (do_mid (o := _) rfl (fun K hK => ?_) none_e)
 go_simp
 go_at_call 77
 refine (HH1.out ok _ _ (HC1.out.no HF.out)).mono ?_
 rintro e w7 ⟨rfl, hf⟩
 have HS := Lib.hid hf
 clear hf
 replace R_x := kn HS R_x
 replace HF := Lib.hid (HF.out.then HS.out)
 clear HS
 obtain ⟨m1, hm1⟩ : ∃ m, dP p = m := ⟨_, rfl⟩
 rw [hm1]
 have HM1 := Lib.hid hm1
 clear hm1
 refine hK.out _ _ ?_ (fun hHeld => ?_)
 · exact ⟨cell_of R_x.out 0, cell_of R_x.out 1, cell_of R_x.out 2, cell_of R_x.out 3, cell_of R_x.out 4, cell_of R_x.out 5, cell_of R_x.out 6, cell_of R_x.out 7, cell_of R_x.out 8, cell_of R_x.out 9, cell_of R_x.out 10⟩
 clear hK K
 try dsimp only
 try simp only [Act.put, List.setIfInBounds_toArray, List.set_cons_zero, List.set_cons_succ]
 refine ready_e (rs := [5]) (by kernel_rfl) (by simp) ?_
 refine (do_mid (o := _) rfl (fun K hK => ?_) none_e)
 go_simp
 go_at_call 50
 refine (HH2.out ok _ _ (HC2.out.no HF.out)).mono ?_
 rintro e w8 ⟨rfl, hf⟩
 have HS := Lib.hid hf
 clear hf
 replace R_x := kn HS R_x
 replace HF := Lib.hid (HF.out.then HS.out)
 clear HS
 obtain ⟨m2, hm2⟩ : ∃ m, dE x = m := ⟨_, rfl⟩
 rw [hm2]
 have HM2 := Lib.hid hm2
 clear hm2
 refine hK.out _ _ ?_ (fun hHeld => ?_)
 · exact ⟨cell_of R_x.out 0, cell_of R_x.out 1, cell_of R_x.out 2, cell_of R_x.out 3, cell_of R_x.out 4, cell_of R_x.out 5, cell_of R_x.out 6, cell_of R_x.out 7, cell_of R_x.out 8, cell_of R_x.out 9, cell_of R_x.out 10⟩
 clear hK K
 try dsimp only
 try simp only [Act.put, List.setIfInBounds_toArray, List.set_cons_zero, List.set_cons_succ]
 refine take_op 6 (some 9) (Op.call { callee := Callee.builtin Builtin.max, args := #[ .tmp 5,  .tmp 8], argTypes := #[3, 3] }) 3 ?_ (by kernel_rfl) (by kernel_rfl) (by kernel_rfl) (fun _ _ _ h => h) ?_ (by assumption) ?_
 rotate_left
 · intro w hSw; (try dsimp only at hSw); go_simp; (try (with_reducible rfl))
 try simp only [Act.put, List.setIfInBounds_toArray, List.set_cons_zero, List.set_cons_succ]
 refine take_op 7 (some 2) (Op.assign ( .tmp 9)) 3 ?_ (by kernel_rfl) (by kernel_rfl) (by kernel_rfl) (fun _ _ _ h => h) ?_ (by assumption) ?_
 rotate_left
 · intro w hSw; (try dsimp only at hSw); go_simp; (try (with_reducible rfl))
 try simp only [Act.put, List.setIfInBounds_toArray, List.set_cons_zero, List.set_cons_succ]
 refine done_e (by kernel_rfl) ?_ _
 (try simp only [Exit.inBlock, Exit.then])
 go_wp2_with fail
 all_goals
  go_ret
  exact ⟨by simp only [dR]; rw [HM1.out, HM2.out]; exact ret_n (by omega), HF.out⟩
set_option maxHeartbeats 4000000 in
set_option maxRecDepth 100000 in
theorem con_walk (c : C) (h1 : DT c.ty) : DCo c := by
 intro ok w cs hc
 simp only [xC] at hc
 obtain ⟨d1, d2, rfl, hc1, hc2⟩ := Hc.split hc
 clear hc
 have HC2 := Lib.hid hc2
 have HH1 := Lib.hid h1
 simp only [xb] at hc1
 obtain ⟨_, rfl, h5⟩ := hc_lit hc1
 obtain ⟨_, rfl, h6⟩ := hc_lit h5
 rw [hc_nil h6]
 obtain ⟨k, s, n, b, N, cp, rfl⟩ := hcT hc2
 obtain ⟨nm, q, t⟩ := c
 dsimp only at HC2 HH1 ⊢
 clear hc1 hc2 h1 h5 h6
 simp only [List.cons_append, List.nil_append]
 go_enter Tryz.func46, Tryz.ntmps46
 go_upto_region 1 with fail
 generalize hn : w.alloc _ = w1
 generalize hg : w.heap.size = g_x
 have HF : Hid (Fr No w w1) := Lib.hid (by rw [← hn]; exact Fr.alloc _ _)
 have R_x := nb hn hg
 clear hn hg
 obtain ⟨d0, d1, d2, d3, d4, d5⟩ := z6c R_x.out
 go_wp2_with fail
 clear d0 d1 d2 d3 d4 d5
 refine (HH1.out ok _ _ (HC2.out.no HF.out)).mono ?_
 rintro e w6 ⟨rfl, hf⟩
 have HS := Lib.hid hf
 clear hf
 replace R_x := kn HS R_x
 replace HF := Lib.hid (HF.out.then HS.out)
 clear HS
 go_wp2_with fail
 go_ret
 exact ⟨rfl, HF.out⟩
set_option maxHeartbeats 4000000 in
set_option maxRecDepth 100000 in
theorem fun_walk (nm : ByteArray) (l : List ByteArray) (x : E) (h1 : DEx x) : DFu (.mk nm l x) := by
 intro ok w cs hc
 simp only [xF] at hc
 obtain ⟨d1, d2, rfl, hc1, hc2⟩ := Hc.split hc
 clear hc
 have HC2 := Lib.hid hc2
 have HH1 := Lib.hid h1
 simp only [xb] at hc1
 obtain ⟨_, rfl, h5⟩ := hc_lit hc1
 obtain ⟨b, cp, _, rfl, _, h6⟩ := hc_row h5
 rw [hc_nil h6]
 obtain ⟨N, hN⟩ : ∃ N, (l.map fun s => [X.lit (.string s)]).length = N := ⟨_, rfl⟩
 rw [hN]
 clear hN
 obtain ⟨k, s, n, u, b1, N1, c1, b2, N2, c2, b3, N3, c3, rfl⟩ := hcE hc2
 clear hc1 hc2 h1 h5 h6
 simp only [List.cons_append, List.nil_append]
 go_enter Tryz.func49, Tryz.ntmps49
 go_upto_region 1 with fail
 generalize hn : w.alloc _ = w1
 generalize hg : w.heap.size = g_x
 have HF : Hid (Fr No w w1) := Lib.hid (by rw [← hn]; exact Fr.alloc _ _)
 have R_x := nb hn hg
 clear hn hg
 obtain ⟨d0, d1, d2, d3, d4, d5, d6, d7, d8⟩ := z9c R_x.out
 go_wp2_with fail
 clear d0 d1 d2 d3 d4 d5 d6 d7 d8
 refine (HH1.out ok _ _ (HC2.out.no HF.out)).mono ?_
 rintro e w6 ⟨rfl, hf⟩
 have HS := Lib.hid hf
 clear hf
 replace R_x := kn HS R_x
 replace HF := Lib.hid (HF.out.then HS.out)
 clear HS
 go_wp2_with fail
 go_ret
 exact ⟨by simp only [dF]; rfl, HF.out⟩
set_option maxHeartbeats 4000000 in
set_option maxRecDepth 100000 in
theorem dec_walk (k0 : Nat) (s0 : ByteArray) (v : List ByteArray) (c : List C) (f : List F) (t : T) (x : E) (h1 : ∀ t ∈ c, DCo t) (h2 : ∀ t ∈ f, DFu t) (h3 : DT t) (h4 : DEx x) : DDe (.mk k0 s0 v c f t x) := by
 intro ok w cs hc
 obtain ⟨p1, q1, p2, q2, p3, q3, ct, ce, rfl, x1, x2, x3, hc3, hc4⟩ := hcD_parts hc
 clear hc x1
 obtain ⟨M1, hN⟩ : ∃ N, v.length = N := ⟨_, rfl⟩
 rw [hN]
 clear hN
 obtain ⟨M2, hN⟩ : ∃ N, c.length = N := ⟨_, rfl⟩
 rw [hN] at x2 ⊢
 have HX2 := Lib.hid x2
 clear x2 hN
 obtain ⟨M3, hN⟩ : ∃ N, f.length = N := ⟨_, rfl⟩
 rw [hN] at x3 ⊢
 have HX3 := Lib.hid x3
 clear x3 hN
 have HC3 := Lib.hid hc3
 have HC4 := Lib.hid hc4
 have HH1 := Lib.hid h1
 have HH2 := Lib.hid h2
 have HH3 := Lib.hid h3
 have HH4 := Lib.hid h4
 obtain ⟨k, s, n, b, N, cp, rfl⟩ := hcT hc3
 obtain ⟨k2, s2, n2, u, b1, N1, c1, b2, N2, c2, b3, N3, c3, rfl⟩ := hcE hc4
 clear hc3 hc4 h1 h2 h3 h4
 simp only [List.cons_append, List.nil_append]
 go_enter Tryz.func21, Tryz.ntmps21
 go_upto_region 1 with fail
 generalize hn : w.alloc _ = w1
 generalize hg : w.heap.size = g_x
 have HF : Hid (Fr No w w1) := Lib.hid (by rw [← hn]; exact Fr.alloc _ _)
 have R_x := nb hn hg
 clear hn hg
 obtain ⟨d0, d1, d2, d3, d4, d5, d6, d7, d8, d9, d10, d11, d12, d13, d14, d15⟩ := z16c R_x.out
 go_wp2_with fail
 clear d0 d1 d2 d3 d4 d5 d6 d7 d8 d9 d10 d11 d12 d13 d14 d15
 refine (deep_con (d := fun c => dT c.ty) enters46 (HX2.out.no HF.out) (fun t ht cs w' hf hc => HH1.out t ht ok w' cs hc)).mono ?_
 rintro e w6 ⟨rfl, hf⟩
 have HS := Lib.hid hf
 clear hf
 replace R_x := kn HS R_x
 replace HF := Lib.hid (HF.out.then HS.out)
 clear HS
 obtain ⟨m3, hm⟩ : ∃ m, mx (c.map fun c => dT c.ty) = m := ⟨_, rfl⟩
 rw [hm]
 have HM3 := Lib.hid hm
 clear hm
 obtain ⟨d0, d1, d2, d3, d4, d5, d6, d7, d8, d9, d10, d11, d12, d13, d14, d15⟩ := z16c R_x.out
 go_wp2_with fail
 clear d0 d1 d2 d3 d4 d5 d6 d7 d8 d9 d10 d11 d12 d13 d14 d15
 refine (deep_fun enters49 (HX3.out.no HF.out) (fun t ht cs w' hf hc => HH2.out t ht ok w' cs hc)).mono ?_
 rintro e w7 ⟨rfl, hf⟩
 have HS := Lib.hid hf
 clear hf
 replace R_x := kn HS R_x
 replace HF := Lib.hid (HF.out.then HS.out)
 clear HS
 obtain ⟨m4, hm⟩ : ∃ m, mx (f.map dF) = m := ⟨_, rfl⟩
 rw [hm]
 have HM4 := Lib.hid hm
 clear hm
 go_wp2_with fail
 have hmax := run_max4 Tryz.prog
 refine region_e (fun w' => w'.cell? ⟨g_x, 0, none⟩ = some (.int .u8 k0) ∧ w'.cell? ⟨g_x, 1, none⟩ = some (.string s0) ∧ w'.cell? ⟨g_x, 2, none⟩ = some (.slice p1 M1 q1) ∧ w'.cell? ⟨g_x, 3, none⟩ = some (.slice p2 M2 q2) ∧ w'.cell? ⟨g_x, 4, none⟩ = some (.slice p3 M3 q3) ∧ w'.cell? ⟨g_x, 5, none⟩ = some (.int .u8 k) ∧ w'.cell? ⟨g_x, 6, none⟩ = some (.string s) ∧ w'.cell? ⟨g_x, 7, none⟩ = some (.int .i64 n) ∧ w'.cell? ⟨g_x, 8, none⟩ = some (.slice b N cp) ∧ w'.cell? ⟨g_x, 9, none⟩ = some (.int .u8 k2) ∧ w'.cell? ⟨g_x, 10, none⟩ = some (.string s2) ∧ w'.cell? ⟨g_x, 11, none⟩ = some (.int .i64 n2) ∧ w'.cell? ⟨g_x, 12, none⟩ = some (.string u) ∧ w'.cell? ⟨g_x, 13, none⟩ = some (.slice b1 N1 c1) ∧ w'.cell? ⟨g_x, 14, none⟩ = some (.slice b2 N2 c2) ∧ w'.cell? ⟨g_x, 15, none⟩ = some (.slice b3 N3 c3)) [] (by kernel_rfl) ?_ (fun hHeld => ?_)
 · exact ⟨cell_of ((Fr.drew w7).keeps R_x.out no_one) 0, cell_of ((Fr.drew w7).keeps R_x.out no_one) 1, cell_of ((Fr.drew w7).keeps R_x.out no_one) 2, cell_of ((Fr.drew w7).keeps R_x.out no_one) 3, cell_of ((Fr.drew w7).keeps R_x.out no_one) 4, cell_of ((Fr.drew w7).keeps R_x.out no_one) 5, cell_of ((Fr.drew w7).keeps R_x.out no_one) 6, cell_of ((Fr.drew w7).keeps R_x.out no_one) 7, cell_of ((Fr.drew w7).keeps R_x.out no_one) 8, cell_of ((Fr.drew w7).keeps R_x.out no_one) 9, cell_of ((Fr.drew w7).keeps R_x.out no_one) 10, cell_of ((Fr.drew w7).keeps R_x.out no_one) 11, cell_of ((Fr.drew w7).keeps R_x.out no_one) 12, cell_of ((Fr.drew w7).keeps R_x.out no_one) 13, cell_of ((Fr.drew w7).keeps R_x.out no_one) 14, cell_of ((Fr.drew w7).keeps R_x.out no_one) 15⟩
 obtain ⟨w8, hwd⟩ : ∃ wZ, wZ = w7.drew := ⟨_, rfl⟩
 have HS : Hid (Fr No w7 w8) := Lib.hid (by rw [hwd]; exact Fr.drew _)
 rw [← hwd] at hHeld ⊢
 clear hwd
 replace R_x := kn HS R_x
 replace HF := Lib.hid (HF.out.then HS.out)
 clear HS
 refine take_op 0 (some 11) (Op.fieldAddr 46 ( .tmp 1) 6) 0 ?_ (by kernel_rfl) (by kernel_rfl) (by kernel_rfl) (fun _ _ _ h => h) ?_ (by assumption) ?_
 rotate_left
 · intro w hSw; (try dsimp only at hSw); go_simp; (try (with_reducible rfl))
 try simp only [Act.put, List.setIfInBounds_toArray, List.set_cons_zero, List.set_cons_succ]
 refine take_op 1 (some 12) (Op.load 44 ( .tmp 11)) 44 ?_ (by kernel_rfl) (by kernel_rfl) (by kernel_rfl) (fun _ _ _ h => h) ?_ (by assumption) ?_
 rotate_left
 · intro w hSw; (try dsimp only at hSw); go_simp; (try (with_reducible rfl))
 try simp only [Act.put, List.setIfInBounds_toArray, List.set_cons_zero, List.set_cons_succ]
 refine take_op 3 (some 14) (Op.fieldAddr 46 ( .tmp 1) 5) 0 ?_ (by kernel_rfl) (by kernel_rfl) (by kernel_rfl) (fun _ _ _ h => h) ?_ (by assumption) ?_
 rotate_left
 · intro w hSw; (try dsimp only at hSw); go_simp; (try (with_reducible rfl))
 try simp only [Act.put, List.setIfInBounds_toArray, List.set_cons_zero, List.set_cons_succ]
 refine take_op 4 (some 15) (Op.load 40 ( .tmp 14)) 40 ?_ (by kernel_rfl) (by kernel_rfl) (by kernel_rfl) (fun _ _ _ h => h) ?_ (by assumption) ?_
 rotate_left
 · intro w hSw; (try dsimp only at hSw); go_simp; (try (with_reducible rfl))
 try simp only [Act.put, List.setIfInBounds_toArray, List.set_cons_zero, List.set_cons_succ]
 refine take_op 6 (some 17) (Op.move ( .tmp 3)) 3 ?_ (by kernel_rfl) (by kernel_rfl) (by kernel_rfl) (fun _ _ _ h => h) ?_ (by assumption) ?_
 rotate_left
 · intro w hSw; (try dsimp only at hSw); go_simp; (try (with_reducible rfl))
 try simp only [Act.put, List.setIfInBounds_toArray, List.set_cons_zero, List.set_cons_succ]
 refine take_op 7 (some 18) (Op.move ( .tmp 4)) 3 ?_ (by kernel_rfl) (by kernel_rfl) (by kernel_rfl) (fun _ _ _ h => h) ?_ (by assumption) ?_
 rotate_left
 · intro w hSw; (try dsimp only at hSw); go_simp; (try (with_reducible rfl))
 try simp only [Act.put, List.setIfInBounds_toArray, List.set_cons_zero, List.set_cons_succ]
 refine ready_e (rs := [2]) (by kernel_rfl) (by simp) ?_
 refine (do_mid (o := _) rfl (fun K hK => ?_) none_e)
 go_simp
 go_at_call 50
 refine (HH4.out ok _ _ (HC4.out.no HF.out)).mono ?_
 rintro e w9 ⟨rfl, hf⟩
 have HS := Lib.hid hf
 clear hf
 replace R_x := kn HS R_x
 replace HF := Lib.hid (HF.out.then HS.out)
 clear HS
 obtain ⟨m1, hm1⟩ : ∃ m, dE x = m := ⟨_, rfl⟩
 rw [hm1]
 have HM1 := Lib.hid hm1
 clear hm1
 refine hK.out _ _ ?_ (fun hHeld => ?_)
 · exact ⟨cell_of R_x.out 0, cell_of R_x.out 1, cell_of R_x.out 2, cell_of R_x.out 3, cell_of R_x.out 4, cell_of R_x.out 5, cell_of R_x.out 6, cell_of R_x.out 7, cell_of R_x.out 8, cell_of R_x.out 9, cell_of R_x.out 10, cell_of R_x.out 11, cell_of R_x.out 12, cell_of R_x.out 13, cell_of R_x.out 14, cell_of R_x.out 15⟩
 clear hK K
 try dsimp only
 try simp only [Act.put, List.setIfInBounds_toArray, List.set_cons_zero, List.set_cons_succ]
 refine ready_e (rs := [5]) (by kernel_rfl) (by simp) ?_
 refine (do_mid (o := _) rfl (fun K hK => ?_) none_e)
 go_simp
 go_at_call 47
 refine (HH3.out ok _ _ (HC3.out.no HF.out)).mono ?_
 rintro e w10 ⟨rfl, hf⟩
 have HS := Lib.hid hf
 clear hf
 replace R_x := kn HS R_x
 replace HF := Lib.hid (HF.out.then HS.out)
 clear HS
 obtain ⟨m2, hm2⟩ : ∃ m, dT t = m := ⟨_, rfl⟩
 rw [hm2]
 have HM2 := Lib.hid hm2
 clear hm2
 refine hK.out _ _ ?_ (fun hHeld => ?_)
 · exact ⟨cell_of R_x.out 0, cell_of R_x.out 1, cell_of R_x.out 2, cell_of R_x.out 3, cell_of R_x.out 4, cell_of R_x.out 5, cell_of R_x.out 6, cell_of R_x.out 7, cell_of R_x.out 8, cell_of R_x.out 9, cell_of R_x.out 10, cell_of R_x.out 11, cell_of R_x.out 12, cell_of R_x.out 13, cell_of R_x.out 14, cell_of R_x.out 15⟩
 clear hK K
 try dsimp only
 try simp only [Act.put, List.setIfInBounds_toArray, List.set_cons_zero, List.set_cons_succ]
 refine take_op 8 (some 19) (Op.call { callee := Callee.builtin Builtin.max, args := #[ .tmp 13,  .tmp 16,  .tmp 17,  .tmp 18], argTypes := #[3, 3, 3, 3] }) 3 ?_ (by kernel_rfl) (by kernel_rfl) (by kernel_rfl) (fun _ _ _ h => h) ?_ (by assumption) ?_
 rotate_left
 · intro w hSw; (try dsimp only at hSw); go_simp; (try (with_reducible rfl))
 try simp only [Act.put, List.setIfInBounds_toArray, List.set_cons_zero, List.set_cons_succ]
 refine take_op 9 (some 20) (Op.binOp BinOp.add 3 ( .const (.int .i64 1)) ( .tmp 19) 3) 3 ?_ (by kernel_rfl) (by kernel_rfl) (by kernel_rfl) (fun _ _ _ h => h) ?_ (by assumption) ?_
 rotate_left
 · intro w hSw; (try dsimp only at hSw); go_simp; (try (with_reducible rfl))
 try simp only [Act.put, List.setIfInBounds_toArray, List.set_cons_zero, List.set_cons_succ]
 refine take_op 10 (some 2) (Op.assign ( .tmp 20)) 3 ?_ (by kernel_rfl) (by kernel_rfl) (by kernel_rfl) (fun _ _ _ h => h) ?_ (by assumption) ?_
 rotate_left
 · intro w hSw; (try dsimp only at hSw); go_simp; (try (with_reducible rfl))
 try simp only [Act.put, List.setIfInBounds_toArray, List.set_cons_zero, List.set_cons_succ]
 refine done_e (by kernel_rfl) ?_ _
 (try simp only [Exit.inBlock, Exit.then])
 go_wp2_with fail
 all_goals
  go_ret
  exact ⟨by simp only [dD]; rw [dFs_mx, HM1.out, HM2.out, HM3.out, HM4.out]; exact ret_up (by omega), HF.out⟩
theorem ty_all : ∀ (n : Nat) (t : T), SizeOf.sizeOf t < n → DT t
 | 0, _, h => absurd h (Nat.not_lt_zero _)
 | n + 1, .mk k s m l, h => by
  refine ty_walk k s m l fun t ht => ?_
  have := List.sizeOf_lt_of_mem ht
  simp only [T.mk.sizeOf_spec] at h
  exact ty_all n t (by omega)
theorem ty_depth (t : T) : DT t := ty_all _ t (Nat.lt_succ_self _)
theorem pat_all : ∀ (n : Nat) (t : T), SizeOf.sizeOf t < n → DPt t
 | 0, _, h => absurd h (Nat.not_lt_zero _)
 | n + 1, .mk k s m l, h => by
  refine pat_walk k s m l fun t ht => ?_
  have := List.sizeOf_lt_of_mem ht
  simp only [T.mk.sizeOf_spec] at h
  exact pat_all n t (by omega)
theorem pat_depth (t : T) : DPt t := pat_all _ t (Nat.lt_succ_self _)
theorem exp_all : ∀ (n : Nat), (∀ t : E, SizeOf.sizeOf t < n → DEx t) ∧ (∀ t : D, SizeOf.sizeOf t < n → DDe t)
 | 0 => ⟨fun _ h => absurd h (Nat.not_lt_zero _), fun _ h => absurd h (Nat.not_lt_zero _)⟩
 | n + 1 => by
  obtain ⟨h1, h2⟩ := exp_all n
  refine ⟨fun t h => ?_, fun t h => ?_⟩
  ·
   obtain ⟨k, s, m, u, l, r, d⟩ := t
   simp only [E.mk.sizeOf_spec] at h
   refine exp_walk k s m u l r d (fun t ht => h1 t (by have := List.sizeOf_lt_of_mem ht; omega)) (fun t ht => ?_) (fun t ht => h2 t (by have := List.sizeOf_lt_of_mem ht; omega))
   have := List.sizeOf_lt_of_mem ht
   obtain ⟨p, e⟩ := t
   simp only [R.mk.sizeOf_spec] at this
   exact rule_walk p e (pat_depth p) (h1 e (by omega))
  ·
   obtain ⟨k, s, v, c, f, t, e⟩ := t
   simp only [D.mk.sizeOf_spec] at h
   refine dec_walk k s v c f t e (fun c _ => con_walk c (ty_depth c.ty)) (fun t ht => ?_) (ty_depth t) (h1 e (by omega))
   have := List.sizeOf_lt_of_mem ht
   obtain ⟨s, a, e⟩ := t
   simp only [F.mk.sizeOf_spec] at this
   exact fun_walk s a e (h1 e (by omega))
theorem dec_depth (t : D) : DDe t := (exp_all _).2 t (Nat.lt_succ_self _)
/-- the depth of a program -/
def dProg (l : List D) : Int := mx (l.map dD)
set_option maxRecDepth 100000 in
set_option maxHeartbeats 1000000 in
theorem depth_any {ok : Nat → Prop} {l : List D} {v : Value} {w : World} (hv : Hx ok w (.row 16 (l.map xD)) v) : Calls Tryz.prog 10 #[v] w (IntE (dProg l) w) := by
 obtain ⟨a, c, rfl⟩ := hx_slice hv
 obtain ⟨N, hN⟩ : ∃ N, (l.map xD).length = N := ⟨_, rfl⟩
 rw [hN] at hv ⊢
 have HV := Lib.hid hv
 obtain ⟨M, hM⟩ : ∃ M, dProg l = M := ⟨_, rfl⟩
 rw [hM]
 have HM := Lib.hid hM
 clear hv hN hM
 go_enter Tryz.func10, Tryz.ntmps10
 go_wp2_with fail
 refine (deep_dec enters21 HV.out (fun t ht cs w' hf hc => dec_depth t ok w' cs hc)).mono ?_
 rw [show mx (l.map dD) = M from HM.out]
 rintro e w1 ⟨rfl, hf⟩
 go_wp2_with fail
 go_ret
 exact ⟨rfl, hf⟩
end Go.Proofs.YtjabhmepafofmaaGreatDoor
