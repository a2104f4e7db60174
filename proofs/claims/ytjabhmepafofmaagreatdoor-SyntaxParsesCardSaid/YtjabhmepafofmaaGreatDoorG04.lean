/- Dp, Dq, Mk -/
import Derived.Test.YtjabhmepafofmaaGreatDoorG03
set_option linter.unusedVariables false
set_option linter.unusedSimpArgs false
namespace Go.Proofs.YtjabhmepafofmaaGreatDoor
open Go.RowKit
/-- one more, as an int of 64 bits -/
def up (x : Int) : Int := wrap64 (1 + x)
/-- the greatest of some, nought at least -/
def mx : List Int → Int
 | [] => 0
 | x :: r => max x (mx r)
theorem mx_nonneg : ∀ l : List Int, 0 ≤ mx l
 | [] => Int.le_refl _
 | x :: r => Int.le_trans (mx_nonneg r) (Int.le_max_right _ _)
theorem mx_snoc : ∀ (l : List Int) (x : Int), mx (l ++ [x]) = max (mx l) x
 | [], x => by simp only [List.nil_append, mx]; omega
 | y :: l, x => by
  simp only [List.cons_append, mx, mx_snoc l x]
  omega
theorem mx_append : ∀ (l m : List Int), mx (l ++ m) = max (mx l) (mx m)
 | [], m => by
  have := mx_nonneg m
  simp only [List.nil_append, mx]
  omega
 | y :: l, m => by
  simp only [List.cons_append, mx, mx_append l m]
  omega
mutual
def dT : T → Int
 | .mk k _ _ l => if k = 0 then 0 else up (dTs l)
def dTs : List T → Int
 | [] => 0
 | t :: r => max (dT t) (dTs r)
end
mutual
def dP : T → Int
 | .mk _ _ _ l => up (dPs l)
def dPs : List T → Int
 | [] => 0
 | t :: r => max (dP t) (dPs r)
end
mutual
def dE : E → Int
 | .mk k _ _ _ l r d => if k = 0 then 0 else up (max (max (dEs l) (dRs r)) (dDs d))
def dEs : List E → Int
 | [] => 0
 | t :: r => max (dE t) (dEs r)
def dR : R → Int
 | .mk p e => max (dP p) (dE e)
def dRs : List R → Int
 | [] => 0
 | t :: r => max (dR t) (dRs r)
def dF : F → Int
 | .mk _ _ e => dE e
def dFs : List F → Int
 | [] => 0
 | t :: r => max (dF t) (dFs r)
def dD : D → Int
 | .mk _ _ _ c f t e => up (max (max (max (dE e) (dT t)) (mx (c.map fun c => dT c.ty))) (dFs f))
def dDs : List D → Int
 | [] => 0
 | t :: r => max (dD t) (dDs r)
end
theorem dTs_mx : ∀ l : List T, dTs l = mx (l.map dT)
 | [] => by simp only [dTs, List.map_nil, mx]
 | t :: r => by simp only [dTs, List.map_cons, mx, dTs_mx r]
theorem dPs_mx : ∀ l : List T, dPs l = mx (l.map dP)
 | [] => by simp only [dPs, List.map_nil, mx]
 | t :: r => by simp only [dPs, List.map_cons, mx, dPs_mx r]
theorem dEs_mx : ∀ l : List E, dEs l = mx (l.map dE)
 | [] => by simp only [dEs, List.map_nil, mx]
 | t :: r => by simp only [dEs, List.map_cons, mx, dEs_mx r]
theorem dRs_mx : ∀ l : List R, dRs l = mx (l.map dR)
 | [] => by simp only [dRs, List.map_nil, mx]
 | t :: r => by simp only [dRs, List.map_cons, mx, dRs_mx r]
theorem dFs_mx : ∀ l : List F, dFs l = mx (l.map dF)
 | [] => by simp only [dFs, List.map_nil, mx]
 | t :: r => by simp only [dFs, List.map_cons, mx, dFs_mx r]
theorem dDs_mx : ∀ l : List D, dDs l = mx (l.map dD)
 | [] => by simp only [dDs, List.map_nil, mx]
 | t :: r => by simp only [dDs, List.map_cons, mx, dDs_mx r]
/-- the greatest of the first ones -/
def mxUp {α : Type} (d : α → Int) (l : List α) (j : Nat) : Int := mx ((l.map d).take j)
theorem mxUp_zero {α : Type} (d : α → Int) (l : List α) : mxUp d l 0 = 0 := by simp [mxUp, mx]
theorem mxUp_all {α : Type} (d : α → Int) (l : List α) {n : Nat} (h : l.length = n) : mxUp d l n = mx (l.map d) := by rw [mxUp, List.take_of_length_le (by simp; omega)]
theorem if_max (a b : Int) : (if a < b then b else a) = max a b := by omega
theorem mxUp_succ {α : Type} (d : α → Int) {l : List α} {k : Nat} {t : α} (h : l[k]? = some t) : (if mxUp d l k < d t then d t else mxUp d l k) = mxUp d l (k + 1) := by
 obtain ⟨hk, rfl⟩ := List.getElem?_eq_some_iff.1 h
 rw [if_max, mxUp, mxUp, List.take_succ_eq_append_getElem (by simpa using hk), mx_snoc, List.getElem_map]
theorem hx_max {ok : Nat → Prop} {w : World} {k : Nat} {ls : List (List X)} {v : Value} (h : Hx ok w (.row k ls) v) : ls.length ≤ 9223372036854775807 := by
 simp only [Hx] at h
 obtain ⟨a, c, _, _, h1, _⟩ := h
 have h2 := h1.1
 have h3 : c ≤ 2 ^ 63 - 1 := h1.2
 omega
/-- an int is handed back; what was there stays -/
def IntE (n : Int) (w : World) (e : Ending) (w' : World) : Prop := e = .returned (.int .i64 n) ∧ Fr No w w'
end Go.Proofs.YtjabhmepafofmaaGreatDoor
namespace Go.Proofs.YtjabhmepafofmaaGreatDoor
open Go.RowKit
set_option maxHeartbeats 2000000 in
set_option maxRecDepth 100000 in
theorem deep_ty {ok : Nat → Prop} {l : List T} {v : Value} {d : T → Int} {f1 : FuncId} {w : World} (he : ∀ (args : Array Value) (u : World), Sem.run Tryz.prog (callFunc f1 args) u = .ok (.enter f1 args) u) (hv : Hx ok w (.row 4 (l.map xT)) v)
  (hd : ∀ t ∈ l, ∀ (cs : List Value) (w' : World), Fr No w w' → Hc ok w' (xT t) cs → Calls Tryz.prog f1 #[.agg cs.toArray] w' (IntE (d t) w')) :
  Calls Tryz.prog 74 #[v, .func (.func f1) #[] #[]] w (IntE (mx (l.map d)) w) := by
 obtain ⟨a, c, rfl⟩ := hx_slice hv
 have hmax := hx_max hv
 rw [List.length_map] at hv hmax ⊢
 obtain ⟨N, hN⟩ : ∃ N, l.length = N := ⟨_, rfl⟩
 rw [hN] at hv hmax ⊢
 have HN := Lib.hid hN
 have HV := Lib.hid hv
 have HD := Lib.hid hd
 have HF : Hid (Fr No w w) := Lib.hid (Fr.refl _ _)
 clear hv hd hN
 go_enter Tryz.func74, Tryz.ntmps74
 go_wp2_with fail
 go_loopw [5, 10] (fun n i wr => ∃ j : Nat, j ≤ N ∧ i = .int .i64 (j : Nat) ∧ n = .int .i64 (mxUp d l j) ∧ Hid (Fr No w wr)) (fun _ i _ => N - (intOf i).toNat)
 case atStart => exact ⟨0, Nat.zero_le _, rfl, by rw [mxUp_zero], HF⟩
 case round =>
  clear HF
  obtain ⟨j, hj, rfl, rfl, HF⟩ := hrel
  obtain ⟨wL, hwL⟩ : ∃ wL, wL = wr := ⟨wr, rfl⟩
  rw [← hwL] at HF ⊢
  clear hwL wr
  by_cases hlt : j < N
  ·
   obtain ⟨t, ht⟩ : ∃ t, l[j]? = some t := ⟨_, List.getElem?_eq_getElem (by rw [HN.out]; exact hlt)⟩
   have HM := Lib.hid (mxUp_succ d ht)
   have hmem := List.mem_of_getElem? ht
   obtain ⟨g, off, cc, rfl, ho, hcl, hcell, hx⟩ := hx_at HV.out (j := j) (x := xT t) (by rw [List.getElem?_map, ht]; rfl)
   have HX := Lib.hid (hx.no (HF.out))
   obtain ⟨k_y, s_y, n_y, b_y, m_y, cp_y, ecs⟩ := hcT hx
   subst ecs
   obtain ⟨d0, d1, d2, d3⟩ : wL.cell? ⟨g, off + j * 4, none⟩ = some (.int .u8 k_y) ∧ wL.cell? ⟨g, off + j * 4 + 1, none⟩ = some (.string s_y) ∧ wL.cell? ⟨g, off + j * 4 + 2, none⟩ = some (.int .i64 n_y) ∧ wL.cell? ⟨g, off + j * 4 + 3, none⟩ = some (.slice b_y m_y cp_y) := ⟨HF.out.cell (hcell 0 _ rfl), HF.out.cell (hcell 1 _ rfl), HF.out.cell (hcell 2 _ rfl), HF.out.cell (hcell 3 _ rfl)⟩
   clear hcell hcl ho ht hx
   go_wp2_with fail
   obtain ⟨w2, hn⟩ : ∃ wZ, wL.alloc (.cells #[.int .u8 k_y, .string s_y, .int .i64 n_y, .slice b_y m_y cp_y] 40) = wZ := ⟨_, rfl⟩
   have HF2 : Hid (Fr No w w2) := Lib.hid (by rw [← hn]; exact HF.out.then (Fr.alloc _ _))
   have HX2 : Hid (Hc ok w2 (xT t) [.int .u8 k_y, .string s_y, .int .i64 n_y, .slice b_y m_y cp_y]) := Lib.hid (by rw [← hn]; exact HX.out.no (Fr.alloc _ _))
   rw [hn]
   clear hn d0 d1 d2 d3
   refine (HD.out t hmem _ w2 HF2.out HX2.out).mono ?_
   rintro e w3 ⟨rfl, hf⟩
   have HF3 : Hid (Fr No w w3) := Lib.hid (HF2.out.then hf)
   clear hf
   go_wp2_with fail
   exact ⟨⟨j + 1, hlt, by go_num, by rw [HM.out], HF3⟩, by simp [intOf]; omega⟩
  ·
   have hd0 : decide (j < N) = false := decide_eq_false hlt
   go_wp2_with fail
   go_ret
   have hjN : j = N := by omega
   subst hjN
   exact ⟨congrArg (fun n => Ending.returned (.int .i64 n)) (mxUp_all d l HN.out), HF.out⟩
set_option maxHeartbeats 2000000 in
set_option maxRecDepth 100000 in
theorem deep_pat {ok : Nat → Prop} {l : List T} {v : Value} {d : T → Int} {f1 : FuncId} {w : World} (he : ∀ (args : Array Value) (u : World), Sem.run Tryz.prog (callFunc f1 args) u = .ok (.enter f1 args) u) (hv : Hx ok w (.row 4 (l.map xT)) v)
  (hd : ∀ t ∈ l, ∀ (cs : List Value) (w' : World), Fr No w w' → Hc ok w' (xT t) cs → Calls Tryz.prog f1 #[.agg cs.toArray] w' (IntE (d t) w')) :
  Calls Tryz.prog 92 #[v, .func (.func f1) #[] #[]] w (IntE (mx (l.map d)) w) := by
 obtain ⟨a, c, rfl⟩ := hx_slice hv
 have hmax := hx_max hv
 rw [List.length_map] at hv hmax ⊢
 obtain ⟨N, hN⟩ : ∃ N, l.length = N := ⟨_, rfl⟩
 rw [hN] at hv hmax ⊢
 have HN := Lib.hid hN
 have HV := Lib.hid hv
 have HD := Lib.hid hd
 have HF : Hid (Fr No w w) := Lib.hid (Fr.refl _ _)
 clear hv hd hN
 go_enter Tryz.func92, Tryz.ntmps92
 go_wp2_with fail
 go_loopw [5, 10] (fun n i wr => ∃ j : Nat, j ≤ N ∧ i = .int .i64 (j : Nat) ∧ n = .int .i64 (mxUp d l j) ∧ Hid (Fr No w wr)) (fun _ i _ => N - (intOf i).toNat)
 case atStart => exact ⟨0, Nat.zero_le _, rfl, by rw [mxUp_zero], HF⟩
 case round =>
  clear HF
  obtain ⟨j, hj, rfl, rfl, HF⟩ := hrel
  obtain ⟨wL, hwL⟩ : ∃ wL, wL = wr := ⟨wr, rfl⟩
  rw [← hwL] at HF ⊢
  clear hwL wr
  by_cases hlt : j < N
  ·
   obtain ⟨t, ht⟩ : ∃ t, l[j]? = some t := ⟨_, List.getElem?_eq_getElem (by rw [HN.out]; exact hlt)⟩
   have HM := Lib.hid (mxUp_succ d ht)
   have hmem := List.mem_of_getElem? ht
   obtain ⟨g, off, cc, rfl, ho, hcl, hcell, hx⟩ := hx_at HV.out (j := j) (x := xT t) (by rw [List.getElem?_map, ht]; rfl)
   have HX := Lib.hid (hx.no (HF.out))
   obtain ⟨k_y, s_y, n_y, b_y, m_y, cp_y, ecs⟩ := hcT hx
   subst ecs
   obtain ⟨d0, d1, d2, d3⟩ : wL.cell? ⟨g, off + j * 4, none⟩ = some (.int .u8 k_y) ∧ wL.cell? ⟨g, off + j * 4 + 1, none⟩ = some (.string s_y) ∧ wL.cell? ⟨g, off + j * 4 + 2, none⟩ = some (.int .i64 n_y) ∧ wL.cell? ⟨g, off + j * 4 + 3, none⟩ = some (.slice b_y m_y cp_y) := ⟨HF.out.cell (hcell 0 _ rfl), HF.out.cell (hcell 1 _ rfl), HF.out.cell (hcell 2 _ rfl), HF.out.cell (hcell 3 _ rfl)⟩
   clear hcell hcl ho ht hx
   go_wp2_with fail
   obtain ⟨w2, hn⟩ : ∃ wZ, wL.alloc (.cells #[.int .u8 k_y, .string s_y, .int .i64 n_y, .slice b_y m_y cp_y] 97) = wZ := ⟨_, rfl⟩
   have HF2 : Hid (Fr No w w2) := Lib.hid (by rw [← hn]; exact HF.out.then (Fr.alloc _ _))
   have HX2 : Hid (Hc ok w2 (xT t) [.int .u8 k_y, .string s_y, .int .i64 n_y, .slice b_y m_y cp_y]) := Lib.hid (by rw [← hn]; exact HX.out.no (Fr.alloc _ _))
   rw [hn]
   clear hn d0 d1 d2 d3
   refine (HD.out t hmem _ w2 HF2.out HX2.out).mono ?_
   rintro e w3 ⟨rfl, hf⟩
   have HF3 : Hid (Fr No w w3) := Lib.hid (HF2.out.then hf)
   clear hf
   go_wp2_with fail
   exact ⟨⟨j + 1, hlt, by go_num, by rw [HM.out], HF3⟩, by simp [intOf]; omega⟩
  ·
   have hd0 : decide (j < N) = false := decide_eq_false hlt
   go_wp2_with fail
   go_ret
   have hjN : j = N := by omega
   subst hjN
   exact ⟨congrArg (fun n => Ending.returned (.int .i64 n)) (mxUp_all d l HN.out), HF.out⟩
set_option maxHeartbeats 2000000 in
set_option maxRecDepth 100000 in
theorem deep_exp {ok : Nat → Prop} {l : List E} {v : Value} {d : E → Int} {f1 : FuncId} {w : World} (he : ∀ (args : Array Value) (u : World), Sem.run Tryz.prog (callFunc f1 args) u = .ok (.enter f1 args) u) (hv : Hx ok w (.row 7 (l.map xE)) v)
  (hd : ∀ t ∈ l, ∀ (cs : List Value) (w' : World), Fr No w w' → Hc ok w' (xE t) cs → Calls Tryz.prog f1 #[.agg cs.toArray] w' (IntE (d t) w')) :
  Calls Tryz.prog 78 #[v, .func (.func f1) #[] #[]] w (IntE (mx (l.map d)) w) := by
 obtain ⟨a, c, rfl⟩ := hx_slice hv
 have hmax := hx_max hv
 rw [List.length_map] at hv hmax ⊢
 obtain ⟨N, hN⟩ : ∃ N, l.length = N := ⟨_, rfl⟩
 rw [hN] at hv hmax ⊢
 have HN := Lib.hid hN
 have HV := Lib.hid hv
 have HD := Lib.hid hd
 have HF : Hid (Fr No w w) := Lib.hid (Fr.refl _ _)
 clear hv hd hN
 go_enter Tryz.func78, Tryz.ntmps78
 go_wp2_with fail
 go_loopw [5, 10] (fun n i wr => ∃ j : Nat, j ≤ N ∧ i = .int .i64 (j : Nat) ∧ n = .int .i64 (mxUp d l j) ∧ Hid (Fr No w wr)) (fun _ i _ => N - (intOf i).toNat)
 case atStart => exact ⟨0, Nat.zero_le _, rfl, by rw [mxUp_zero], HF⟩
 case round =>
  clear HF
  obtain ⟨j, hj, rfl, rfl, HF⟩ := hrel
  obtain ⟨wL, hwL⟩ : ∃ wL, wL = wr := ⟨wr, rfl⟩
  rw [← hwL] at HF ⊢
  clear hwL wr
  by_cases hlt : j < N
  ·
   obtain ⟨t, ht⟩ : ∃ t, l[j]? = some t := ⟨_, List.getElem?_eq_getElem (by rw [HN.out]; exact hlt)⟩
   have HM := Lib.hid (mxUp_succ d ht)
   have hmem := List.mem_of_getElem? ht
   obtain ⟨g, off, cc, rfl, ho, hcl, hcell, hx⟩ := hx_at HV.out (j := j) (x := xE t) (by rw [List.getElem?_map, ht]; rfl)
   have HX := Lib.hid (hx.no (HF.out))
   obtain ⟨k_y, s_y, n_y, u_y, b1_y, m1_y, c1_y, b2_y, m2_y, c2_y, b3_y, m3_y, c3_y, ecs⟩ := hcE hx
   subst ecs
   obtain ⟨d0, d1, d2, d3, d4, d5, d6⟩ : wL.cell? ⟨g, off + j * 7, none⟩ = some (.int .u8 k_y) ∧ wL.cell? ⟨g, off + j * 7 + 1, none⟩ = some (.string s_y) ∧ wL.cell? ⟨g, off + j * 7 + 2, none⟩ = some (.int .i64 n_y) ∧ wL.cell? ⟨g, off + j * 7 + 3, none⟩ = some (.string u_y) ∧ wL.cell? ⟨g, off + j * 7 + 4, none⟩ = some (.slice b1_y m1_y c1_y) ∧ wL.cell? ⟨g, off + j * 7 + 5, none⟩ = some (.slice b2_y m2_y c2_y) ∧ wL.cell? ⟨g, off + j * 7 + 6, none⟩ = some (.slice b3_y m3_y c3_y) := ⟨HF.out.cell (hcell 0 _ rfl), HF.out.cell (hcell 1 _ rfl), HF.out.cell (hcell 2 _ rfl), HF.out.cell (hcell 3 _ rfl), HF.out.cell (hcell 4 _ rfl), HF.out.cell (hcell 5 _ rfl), HF.out.cell (hcell 6 _ rfl)⟩
   clear hcell hcl ho ht hx
   go_wp2_with fail
   obtain ⟨w2, hn⟩ : ∃ wZ, wL.alloc (.cells #[.int .u8 k_y, .string s_y, .int .i64 n_y, .string u_y, .slice b1_y m1_y c1_y, .slice b2_y m2_y c2_y, .slice b3_y m3_y c3_y] 44) = wZ := ⟨_, rfl⟩
   have HF2 : Hid (Fr No w w2) := Lib.hid (by rw [← hn]; exact HF.out.then (Fr.alloc _ _))
   have HX2 : Hid (Hc ok w2 (xE t) [.int .u8 k_y, .string s_y, .int .i64 n_y, .string u_y, .slice b1_y m1_y c1_y, .slice b2_y m2_y c2_y, .slice b3_y m3_y c3_y]) := Lib.hid (by rw [← hn]; exact HX.out.no (Fr.alloc _ _))
   rw [hn]
   clear hn d0 d1 d2 d3 d4 d5 d6
   refine (HD.out t hmem _ w2 HF2.out HX2.out).mono ?_
   rintro e w3 ⟨rfl, hf⟩
   have HF3 : Hid (Fr No w w3) := Lib.hid (HF2.out.then hf)
   clear hf
   go_wp2_with fail
   exact ⟨⟨j + 1, hlt, by go_num, by rw [HM.out], HF3⟩, by simp [intOf]; omega⟩
  ·
   have hd0 : decide (j < N) = false := decide_eq_false hlt
   go_wp2_with fail
   go_ret
   have hjN : j = N := by omega
   subst hjN
   exact ⟨congrArg (fun n => Ending.returned (.int .i64 n)) (mxUp_all d l HN.out), HF.out⟩
set_option maxHeartbeats 2000000 in
set_option maxRecDepth 100000 in
theorem deep_rule {ok : Nat → Prop} {l : List R} {v : Value} {d : R → Int} {f1 : FuncId} {w : World} (he : ∀ (args : Array Value) (u : World), Sem.run Tryz.prog (callFunc f1 args) u = .ok (.enter f1 args) u) (hv : Hx ok w (.row 11 (l.map xR)) v)
  (hd : ∀ t ∈ l, ∀ (cs : List Value) (w' : World), Fr No w w' → Hc ok w' (xR t) cs → Calls Tryz.prog f1 #[.agg cs.toArray] w' (IntE (d t) w')) :
  Calls Tryz.prog 75 #[v, .func (.func f1) #[] #[]] w (IntE (mx (l.map d)) w) := by
 obtain ⟨a, c, rfl⟩ := hx_slice hv
 have hmax := hx_max hv
 rw [List.length_map] at hv hmax ⊢
 obtain ⟨N, hN⟩ : ∃ N, l.length = N := ⟨_, rfl⟩
 rw [hN] at hv hmax ⊢
 have HN := Lib.hid hN
 have HV := Lib.hid hv
 have HD := Lib.hid hd
 have HF : Hid (Fr No w w) := Lib.hid (Fr.refl _ _)
 clear hv hd hN
 go_enter Tryz.func75, Tryz.ntmps75
 go_wp2_with fail
 go_loopw [5, 10] (fun n i wr => ∃ j : Nat, j ≤ N ∧ i = .int .i64 (j : Nat) ∧ n = .int .i64 (mxUp d l j) ∧ Hid (Fr No w wr)) (fun _ i _ => N - (intOf i).toNat)
 case atStart => exact ⟨0, Nat.zero_le _, rfl, by rw [mxUp_zero], HF⟩
 case round =>
  clear HF
  obtain ⟨j, hj, rfl, rfl, HF⟩ := hrel
  obtain ⟨wL, hwL⟩ : ∃ wL, wL = wr := ⟨wr, rfl⟩
  rw [← hwL] at HF ⊢
  clear hwL wr
  by_cases hlt : j < N
  ·
   obtain ⟨t, ht⟩ : ∃ t, l[j]? = some t := ⟨_, List.getElem?_eq_getElem (by rw [HN.out]; exact hlt)⟩
   have HM := Lib.hid (mxUp_succ d ht)
   have hmem := List.mem_of_getElem? ht
   obtain ⟨g, off, cc, rfl, ho, hcl, hcell, hx⟩ := hx_at HV.out (j := j) (x := xR t) (by rw [List.getElem?_map, ht]; rfl)
   have HX := Lib.hid (hx.no (HF.out))
   obtain ⟨k_y, s_y, n_y, b_y, m_y, cp_y, k2_y, s2_y, n2_y, u_y, b1_y, m1_y, c1_y, b2_y, m2_y, c2_y, b3_y, m3_y, c3_y, ecs⟩ := hcR hx
   subst ecs
   obtain ⟨d0, d1, d2, d3, d4, d5, d6, d7, d8, d9, d10⟩ : wL.cell? ⟨g, off + j * 11, none⟩ = some (.int .u8 k_y) ∧ wL.cell? ⟨g, off + j * 11 + 1, none⟩ = some (.string s_y) ∧ wL.cell? ⟨g, off + j * 11 + 2, none⟩ = some (.int .i64 n_y) ∧ wL.cell? ⟨g, off + j * 11 + 3, none⟩ = some (.slice b_y m_y cp_y) ∧ wL.cell? ⟨g, off + j * 11 + 4, none⟩ = some (.int .u8 k2_y) ∧ wL.cell? ⟨g, off + j * 11 + 5, none⟩ = some (.string s2_y) ∧ wL.cell? ⟨g, off + j * 11 + 6, none⟩ = some (.int .i64 n2_y) ∧ wL.cell? ⟨g, off + j * 11 + 7, none⟩ = some (.string u_y) ∧ wL.cell? ⟨g, off + j * 11 + 8, none⟩ = some (.slice b1_y m1_y c1_y) ∧ wL.cell? ⟨g, off + j * 11 + 9, none⟩ = some (.slice b2_y m2_y c2_y) ∧ wL.cell? ⟨g, off + j * 11 + 10, none⟩ = some (.slice b3_y m3_y c3_y) := ⟨HF.out.cell (hcell 0 _ rfl), HF.out.cell (hcell 1 _ rfl), HF.out.cell (hcell 2 _ rfl), HF.out.cell (hcell 3 _ rfl), HF.out.cell (hcell 4 _ rfl), HF.out.cell (hcell 5 _ rfl), HF.out.cell (hcell 6 _ rfl), HF.out.cell (hcell 7 _ rfl), HF.out.cell (hcell 8 _ rfl), HF.out.cell (hcell 9 _ rfl), HF.out.cell (hcell 10 _ rfl)⟩
   clear hcell hcl ho ht hx
   go_wp2_with fail
   obtain ⟨w2, hn⟩ : ∃ wZ, wL.alloc (.cells #[.int .u8 k_y, .string s_y, .int .i64 n_y, .slice b_y m_y cp_y, .int .u8 k2_y, .string s2_y, .int .i64 n2_y, .string u_y, .slice b1_y m1_y c1_y, .slice b2_y m2_y c2_y, .slice b3_y m3_y c3_y] 99) = wZ := ⟨_, rfl⟩
   have HF2 : Hid (Fr No w w2) := Lib.hid (by rw [← hn]; exact HF.out.then (Fr.alloc _ _))
   have HX2 : Hid (Hc ok w2 (xR t) [.int .u8 k_y, .string s_y, .int .i64 n_y, .slice b_y m_y cp_y, .int .u8 k2_y, .string s2_y, .int .i64 n2_y, .string u_y, .slice b1_y m1_y c1_y, .slice b2_y m2_y c2_y, .slice b3_y m3_y c3_y]) := Lib.hid (by rw [← hn]; exact HX.out.no (Fr.alloc _ _))
   rw [hn]
   clear hn d0 d1 d2 d3 d4 d5 d6 d7 d8 d9 d10
   refine (HD.out t hmem _ w2 HF2.out HX2.out).mono ?_
   rintro e w3 ⟨rfl, hf⟩
   have HF3 : Hid (Fr No w w3) := Lib.hid (HF2.out.then hf)
   clear hf
   go_wp2_with fail
   exact ⟨⟨j + 1, hlt, by go_num, by rw [HM.out], HF3⟩, by simp [intOf]; omega⟩
  ·
   have hd0 : decide (j < N) = false := decide_eq_false hlt
   go_wp2_with fail
   go_ret
   have hjN : j = N := by omega
   subst hjN
   exact ⟨congrArg (fun n => Ending.returned (.int .i64 n)) (mxUp_all d l HN.out), HF.out⟩
set_option maxHeartbeats 2000000 in
set_option maxRecDepth 100000 in
theorem deep_fun {ok : Nat → Prop} {l : List F} {v : Value} {d : F → Int} {f1 : FuncId} {w : World} (he : ∀ (args : Array Value) (u : World), Sem.run Tryz.prog (callFunc f1 args) u = .ok (.enter f1 args) u) (hv : Hx ok w (.row 9 (l.map xF)) v)
  (hd : ∀ t ∈ l, ∀ (cs : List Value) (w' : World), Fr No w w' → Hc ok w' (xF t) cs → Calls Tryz.prog f1 #[.agg cs.toArray] w' (IntE (d t) w')) :
  Calls Tryz.prog 48 #[v, .func (.func f1) #[] #[]] w (IntE (mx (l.map d)) w) := by
 obtain ⟨a, c, rfl⟩ := hx_slice hv
 have hmax := hx_max hv
 rw [List.length_map] at hv hmax ⊢
 obtain ⟨N, hN⟩ : ∃ N, l.length = N := ⟨_, rfl⟩
 rw [hN] at hv hmax ⊢
 have HN := Lib.hid hN
 have HV := Lib.hid hv
 have HD := Lib.hid hd
 have HF : Hid (Fr No w w) := Lib.hid (Fr.refl _ _)
 clear hv hd hN
 go_enter Tryz.func48, Tryz.ntmps48
 go_wp2_with fail
 go_loopw [5, 10] (fun n i wr => ∃ j : Nat, j ≤ N ∧ i = .int .i64 (j : Nat) ∧ n = .int .i64 (mxUp d l j) ∧ Hid (Fr No w wr)) (fun _ i _ => N - (intOf i).toNat)
 case atStart => exact ⟨0, Nat.zero_le _, rfl, by rw [mxUp_zero], HF⟩
 case round =>
  clear HF
  obtain ⟨j, hj, rfl, rfl, HF⟩ := hrel
  obtain ⟨wL, hwL⟩ : ∃ wL, wL = wr := ⟨wr, rfl⟩
  rw [← hwL] at HF ⊢
  clear hwL wr
  by_cases hlt : j < N
  ·
   obtain ⟨t, ht⟩ : ∃ t, l[j]? = some t := ⟨_, List.getElem?_eq_getElem (by rw [HN.out]; exact hlt)⟩
   have HM := Lib.hid (mxUp_succ d ht)
   have hmem := List.mem_of_getElem? ht
   obtain ⟨g, off, cc, rfl, ho, hcl, hcell, hx⟩ := hx_at HV.out (j := j) (x := xF t) (by rw [List.getElem?_map, ht]; rfl)
   have HX := Lib.hid (hx.no (HF.out))
   obtain ⟨z_y, b_y, m_y, cp_y, k2_y, s2_y, n2_y, u_y, b1_y, m1_y, c1_y, b2_y, m2_y, c2_y, b3_y, m3_y, c3_y, ecs⟩ := hcF hx
   subst ecs
   obtain ⟨d0, d1, d2, d3, d4, d5, d6, d7, d8⟩ : wL.cell? ⟨g, off + j * 9, none⟩ = some (.string z_y) ∧ wL.cell? ⟨g, off + j * 9 + 1, none⟩ = some (.slice b_y m_y cp_y) ∧ wL.cell? ⟨g, off + j * 9 + 2, none⟩ = some (.int .u8 k2_y) ∧ wL.cell? ⟨g, off + j * 9 + 3, none⟩ = some (.string s2_y) ∧ wL.cell? ⟨g, off + j * 9 + 4, none⟩ = some (.int .i64 n2_y) ∧ wL.cell? ⟨g, off + j * 9 + 5, none⟩ = some (.string u_y) ∧ wL.cell? ⟨g, off + j * 9 + 6, none⟩ = some (.slice b1_y m1_y c1_y) ∧ wL.cell? ⟨g, off + j * 9 + 7, none⟩ = some (.slice b2_y m2_y c2_y) ∧ wL.cell? ⟨g, off + j * 9 + 8, none⟩ = some (.slice b3_y m3_y c3_y) := ⟨HF.out.cell (hcell 0 _ rfl), HF.out.cell (hcell 1 _ rfl), HF.out.cell (hcell 2 _ rfl), HF.out.cell (hcell 3 _ rfl), HF.out.cell (hcell 4 _ rfl), HF.out.cell (hcell 5 _ rfl), HF.out.cell (hcell 6 _ rfl), HF.out.cell (hcell 7 _ rfl), HF.out.cell (hcell 8 _ rfl)⟩
   clear hcell hcl ho ht hx
   go_wp2_with fail
   obtain ⟨w2, hn⟩ : ∃ wZ, wL.alloc (.cells #[.string z_y, .slice b_y m_y cp_y, .int .u8 k2_y, .string s2_y, .int .i64 n2_y, .string u_y, .slice b1_y m1_y c1_y, .slice b2_y m2_y c2_y, .slice b3_y m3_y c3_y] 71) = wZ := ⟨_, rfl⟩
   have HF2 : Hid (Fr No w w2) := Lib.hid (by rw [← hn]; exact HF.out.then (Fr.alloc _ _))
   have HX2 : Hid (Hc ok w2 (xF t) [.string z_y, .slice b_y m_y cp_y, .int .u8 k2_y, .string s2_y, .int .i64 n2_y, .string u_y, .slice b1_y m1_y c1_y, .slice b2_y m2_y c2_y, .slice b3_y m3_y c3_y]) := Lib.hid (by rw [← hn]; exact HX.out.no (Fr.alloc _ _))
   rw [hn]
   clear hn d0 d1 d2 d3 d4 d5 d6 d7 d8
   refine (HD.out t hmem _ w2 HF2.out HX2.out).mono ?_
   rintro e w3 ⟨rfl, hf⟩
   have HF3 : Hid (Fr No w w3) := Lib.hid (HF2.out.then hf)
   clear hf
   go_wp2_with fail
   exact ⟨⟨j + 1, hlt, by go_num, by rw [HM.out], HF3⟩, by simp [intOf]; omega⟩
  ·
   have hd0 : decide (j < N) = false := decide_eq_false hlt
   go_wp2_with fail
   go_ret
   have hjN : j = N := by omega
   subst hjN
   exact ⟨congrArg (fun n => Ending.returned (.int .i64 n)) (mxUp_all d l HN.out), HF.out⟩
set_option maxHeartbeats 2000000 in
set_option maxRecDepth 100000 in
theorem deep_con {ok : Nat → Prop} {l : List C} {v : Value} {d : C → Int} {f1 : FuncId} {w : World} (he : ∀ (args : Array Value) (u : World), Sem.run Tryz.prog (callFunc f1 args) u = .ok (.enter f1 args) u) (hv : Hx ok w (.row 6 (l.map xC)) v)
  (hd : ∀ t ∈ l, ∀ (cs : List Value) (w' : World), Fr No w w' → Hc ok w' (xC t) cs → Calls Tryz.prog f1 #[.agg cs.toArray] w' (IntE (d t) w')) :
  Calls Tryz.prog 45 #[v, .func (.func f1) #[] #[]] w (IntE (mx (l.map d)) w) := by
 obtain ⟨a, c, rfl⟩ := hx_slice hv
 have hmax := hx_max hv
 rw [List.length_map] at hv hmax ⊢
 obtain ⟨N, hN⟩ : ∃ N, l.length = N := ⟨_, rfl⟩
 rw [hN] at hv hmax ⊢
 have HN := Lib.hid hN
 have HV := Lib.hid hv
 have HD := Lib.hid hd
 have HF : Hid (Fr No w w) := Lib.hid (Fr.refl _ _)
 clear hv hd hN
 go_enter Tryz.func45, Tryz.ntmps45
 go_wp2_with fail
 go_loopw [5, 10] (fun n i wr => ∃ j : Nat, j ≤ N ∧ i = .int .i64 (j : Nat) ∧ n = .int .i64 (mxUp d l j) ∧ Hid (Fr No w wr)) (fun _ i _ => N - (intOf i).toNat)
 case atStart => exact ⟨0, Nat.zero_le _, rfl, by rw [mxUp_zero], HF⟩
 case round =>
  clear HF
  obtain ⟨j, hj, rfl, rfl, HF⟩ := hrel
  obtain ⟨wL, hwL⟩ : ∃ wL, wL = wr := ⟨wr, rfl⟩
  rw [← hwL] at HF ⊢
  clear hwL wr
  by_cases hlt : j < N
  ·
   obtain ⟨t, ht⟩ : ∃ t, l[j]? = some t := ⟨_, List.getElem?_eq_getElem (by rw [HN.out]; exact hlt)⟩
   have HM := Lib.hid (mxUp_succ d ht)
   have hmem := List.mem_of_getElem? ht
   obtain ⟨g, off, cc, rfl, ho, hcl, hcell, hx⟩ := hx_at HV.out (j := j) (x := xC t) (by rw [List.getElem?_map, ht]; rfl)
   have HX := Lib.hid (hx.no (HF.out))
   obtain ⟨z_y, q_y, k_y, s_y, n_y, b_y, m_y, cp_y, ecs⟩ := hcC hx
   subst ecs
   obtain ⟨d0, d1, d2, d3, d4, d5⟩ : wL.cell? ⟨g, off + j * 6, none⟩ = some (.string z_y) ∧ wL.cell? ⟨g, off + j * 6 + 1, none⟩ = some (.bool q_y) ∧ wL.cell? ⟨g, off + j * 6 + 2, none⟩ = some (.int .u8 k_y) ∧ wL.cell? ⟨g, off + j * 6 + 3, none⟩ = some (.string s_y) ∧ wL.cell? ⟨g, off + j * 6 + 4, none⟩ = some (.int .i64 n_y) ∧ wL.cell? ⟨g, off + j * 6 + 5, none⟩ = some (.slice b_y m_y cp_y) := ⟨HF.out.cell (hcell 0 _ rfl), HF.out.cell (hcell 1 _ rfl), HF.out.cell (hcell 2 _ rfl), HF.out.cell (hcell 3 _ rfl), HF.out.cell (hcell 4 _ rfl), HF.out.cell (hcell 5 _ rfl)⟩
   clear hcell hcl ho ht hx
   go_wp2_with fail
   obtain ⟨w2, hn⟩ : ∃ wZ, wL.alloc (.cells #[.string z_y, .bool q_y, .int .u8 k_y, .string s_y, .int .i64 n_y, .slice b_y m_y cp_y] 76) = wZ := ⟨_, rfl⟩
   have HF2 : Hid (Fr No w w2) := Lib.hid (by rw [← hn]; exact HF.out.then (Fr.alloc _ _))
   have HX2 : Hid (Hc ok w2 (xC t) [.string z_y, .bool q_y, .int .u8 k_y, .string s_y, .int .i64 n_y, .slice b_y m_y cp_y]) := Lib.hid (by rw [← hn]; exact HX.out.no (Fr.alloc _ _))
   rw [hn]
   clear hn d0 d1 d2 d3 d4 d5
   refine (HD.out t hmem _ w2 HF2.out HX2.out).mono ?_
   rintro e w3 ⟨rfl, hf⟩
   have HF3 : Hid (Fr No w w3) := Lib.hid (HF2.out.then hf)
   clear hf
   go_wp2_with fail
   exact ⟨⟨j + 1, hlt, by go_num, by rw [HM.out], HF3⟩, by simp [intOf]; omega⟩
  ·
   have hd0 : decide (j < N) = false := decide_eq_false hlt
   go_wp2_with fail
   go_ret
   have hjN : j = N := by omega
   subst hjN
   exact ⟨congrArg (fun n => Ending.returned (.int .i64 n)) (mxUp_all d l HN.out), HF.out⟩
set_option maxHeartbeats 2000000 in
set_option maxRecDepth 100000 in
theorem deep_dec {ok : Nat → Prop} {l : List D} {v : Value} {d : D → Int} {f1 : FuncId} {w : World} (he : ∀ (args : Array Value) (u : World), Sem.run Tryz.prog (callFunc f1 args) u = .ok (.enter f1 args) u) (hv : Hx ok w (.row 16 (l.map xD)) v)
  (hd : ∀ t ∈ l, ∀ (cs : List Value) (w' : World), Fr No w w' → Hc ok w' (xD t) cs → Calls Tryz.prog f1 #[.agg cs.toArray] w' (IntE (d t) w')) :
  Calls Tryz.prog 20 #[v, .func (.func f1) #[] #[]] w (IntE (mx (l.map d)) w) := by
 obtain ⟨a, c, rfl⟩ := hx_slice hv
 have hmax := hx_max hv
 rw [List.length_map] at hv hmax ⊢
 obtain ⟨N, hN⟩ : ∃ N, l.length = N := ⟨_, rfl⟩
 rw [hN] at hv hmax ⊢
 have HN := Lib.hid hN
 have HV := Lib.hid hv
 have HD := Lib.hid hd
 have HF : Hid (Fr No w w) := Lib.hid (Fr.refl _ _)
 clear hv hd hN
 go_enter Tryz.func20, Tryz.ntmps20
 go_wp2_with fail
 go_loopw [5, 10] (fun n i wr => ∃ j : Nat, j ≤ N ∧ i = .int .i64 (j : Nat) ∧ n = .int .i64 (mxUp d l j) ∧ Hid (Fr No w wr)) (fun _ i _ => N - (intOf i).toNat)
 case atStart => exact ⟨0, Nat.zero_le _, rfl, by rw [mxUp_zero], HF⟩
 case round =>
  clear HF
  obtain ⟨j, hj, rfl, rfl, HF⟩ := hrel
  obtain ⟨wL, hwL⟩ : ∃ wL, wL = wr := ⟨wr, rfl⟩
  rw [← hwL] at HF ⊢
  clear hwL wr
  by_cases hlt : j < N
  ·
   obtain ⟨t, ht⟩ : ∃ t, l[j]? = some t := ⟨_, List.getElem?_eq_getElem (by rw [HN.out]; exact hlt)⟩
   have HM := Lib.hid (mxUp_succ d ht)
   have hmem := List.mem_of_getElem? ht
   obtain ⟨g, off, cc, rfl, ho, hcl, hcell, hx⟩ := hx_at HV.out (j := j) (x := xD t) (by rw [List.getElem?_map, ht]; rfl)
   have HX := Lib.hid (hx.no (HF.out))
   obtain ⟨z0_y, z_y, p1_y, q1_y, r1_y, p2_y, q2_y, r2_y, p3_y, q3_y, r3_y, k_y, s_y, n_y, b_y, m_y, cp_y, k2_y, s2_y, n2_y, u_y, b1_y, m1_y, c1_y, b2_y, m2_y, c2_y, b3_y, m3_y, c3_y, ecs⟩ := hcD hx
   subst ecs
   obtain ⟨d0, d1, d2, d3, d4, d5, d6, d7, d8, d9, d10, d11, d12, d13, d14, d15⟩ : wL.cell? ⟨g, off + j * 16, none⟩ = some (.int .u8 z0_y) ∧ wL.cell? ⟨g, off + j * 16 + 1, none⟩ = some (.string z_y) ∧ wL.cell? ⟨g, off + j * 16 + 2, none⟩ = some (.slice p1_y q1_y r1_y) ∧ wL.cell? ⟨g, off + j * 16 + 3, none⟩ = some (.slice p2_y q2_y r2_y) ∧ wL.cell? ⟨g, off + j * 16 + 4, none⟩ = some (.slice p3_y q3_y r3_y) ∧ wL.cell? ⟨g, off + j * 16 + 5, none⟩ = some (.int .u8 k_y) ∧ wL.cell? ⟨g, off + j * 16 + 6, none⟩ = some (.string s_y) ∧ wL.cell? ⟨g, off + j * 16 + 7, none⟩ = some (.int .i64 n_y) ∧ wL.cell? ⟨g, off + j * 16 + 8, none⟩ = some (.slice b_y m_y cp_y) ∧ wL.cell? ⟨g, off + j * 16 + 9, none⟩ = some (.int .u8 k2_y) ∧ wL.cell? ⟨g, off + j * 16 + 10, none⟩ = some (.string s2_y) ∧ wL.cell? ⟨g, off + j * 16 + 11, none⟩ = some (.int .i64 n2_y) ∧ wL.cell? ⟨g, off + j * 16 + 12, none⟩ = some (.string u_y) ∧ wL.cell? ⟨g, off + j * 16 + 13, none⟩ = some (.slice b1_y m1_y c1_y) ∧ wL.cell? ⟨g, off + j * 16 + 14, none⟩ = some (.slice b2_y m2_y c2_y) ∧ wL.cell? ⟨g, off + j * 16 + 15, none⟩ = some (.slice b3_y m3_y c3_y) := ⟨HF.out.cell (hcell 0 _ rfl), HF.out.cell (hcell 1 _ rfl), HF.out.cell (hcell 2 _ rfl), HF.out.cell (hcell 3 _ rfl), HF.out.cell (hcell 4 _ rfl), HF.out.cell (hcell 5 _ rfl), HF.out.cell (hcell 6 _ rfl), HF.out.cell (hcell 7 _ rfl), HF.out.cell (hcell 8 _ rfl), HF.out.cell (hcell 9 _ rfl), HF.out.cell (hcell 10 _ rfl), HF.out.cell (hcell 11 _ rfl), HF.out.cell (hcell 12 _ rfl), HF.out.cell (hcell 13 _ rfl), HF.out.cell (hcell 14 _ rfl), HF.out.cell (hcell 15 _ rfl)⟩
   clear hcell hcl ho ht hx
   go_wp2_with fail
   obtain ⟨w2, hn⟩ : ∃ wZ, wL.alloc (.cells #[.int .u8 z0_y, .string z_y, .slice p1_y q1_y r1_y, .slice p2_y q2_y r2_y, .slice p3_y q3_y r3_y, .int .u8 k_y, .string s_y, .int .i64 n_y, .slice b_y m_y cp_y, .int .u8 k2_y, .string s2_y, .int .i64 n2_y, .string u_y, .slice b1_y m1_y c1_y, .slice b2_y m2_y c2_y, .slice b3_y m3_y c3_y] 46) = wZ := ⟨_, rfl⟩
   have HF2 : Hid (Fr No w w2) := Lib.hid (by rw [← hn]; exact HF.out.then (Fr.alloc _ _))
   have HX2 : Hid (Hc ok w2 (xD t) [.int .u8 z0_y, .string z_y, .slice p1_y q1_y r1_y, .slice p2_y q2_y r2_y, .slice p3_y q3_y r3_y, .int .u8 k_y, .string s_y, .int .i64 n_y, .slice b_y m_y cp_y, .int .u8 k2_y, .string s2_y, .int .i64 n2_y, .string u_y, .slice b1_y m1_y c1_y, .slice b2_y m2_y c2_y, .slice b3_y m3_y c3_y]) := Lib.hid (by rw [← hn]; exact HX.out.no (Fr.alloc _ _))
   rw [hn]
   clear hn d0 d1 d2 d3 d4 d5 d6 d7 d8 d9 d10 d11 d12 d13 d14 d15
   refine (HD.out t hmem _ w2 HF2.out HX2.out).mono ?_
   rintro e w3 ⟨rfl, hf⟩
   have HF3 : Hid (Fr No w w3) := Lib.hid (HF2.out.then hf)
   clear hf
   go_wp2_with fail
   exact ⟨⟨j + 1, hlt, by go_num, by rw [HM.out], HF3⟩, by simp [intOf]; omega⟩
  ·
   have hd0 : decide (j < N) = false := decide_eq_false hlt
   go_wp2_with fail
   go_ret
   have hjN : j = N := by omega
   subst hjN
   exact ⟨congrArg (fun n => Ending.returned (.int .i64 n)) (mxUp_all d l HN.out), HF.out⟩
end Go.Proofs.YtjabhmepafofmaaGreatDoor
namespace Go.Proofs.YtjabhmepafofmaaGreatDoor
open Go.RowKit
theorem hcE_mk {ok : Nat → Prop} {w : World} {v1 v2 v3 : Value} {l : List E} {r : List R} {d : List D} (k : Nat) (s : ByteArray) (n : Int) (u : ByteArray) (h1 : Hx ok w (.row 7 (l.map xE)) v1) (h2 : Hx ok w (.row 11 (r.map xR)) v2) (h3 : Hx ok w (.row 16 (d.map xD)) v3) :
  Hc ok w (xE (.mk k s n u l r d)) [.int .u8 k, .string s, .int .i64 n, .string u, v1, v2, v3] := by
 simp only [xE, xEs_map, xRs_map, xDs_map]
 exact hc_cons (hx_lit _) (hc_cons (hx_lit _) (hc_cons (hx_lit _) (hc_cons (hx_lit _) (hc_cons h1 (hc_cons h2 (hc_cons h3 hc_end))))))
theorem hcE_kids {ok : Nat → Prop} {w : World} {v1 : Value} {l : List E} (k : Nat) (s : ByteArray) (n : Int) (u : ByteArray) (h1 : Hx ok w (.row 7 (l.map xE)) v1) :
  Hc ok w (xE (.mk k s n u l [] [])) [.int .u8 k, .string s, .int .i64 n, .string u, v1, .slice none 0 0, .slice none 0 0] := hcE_mk k s n u h1 (hx_nil _) (hx_nil _)
theorem hcE_none {ok : Nat → Prop} {w : World} (k : Nat) (s : ByteArray) (n : Int) (u : ByteArray) :
  Hc ok w (xE (.mk k s n u [] [] [])) [.int .u8 k, .string s, .int .i64 n, .string u, .slice none 0 0, .slice none 0 0, .slice none 0 0] := hcE_mk k s n u (hx_nil _) (hx_nil _) (hx_nil _)
theorem hcT_none {ok : Nat → Prop} {w : World} (k : Nat) (s : ByteArray) (n : Int) :
  Hc ok w (xT (.mk k s n [])) [.int .u8 k, .string s, .int .i64 n, .slice none 0 0] := hcT_mk k s n (hx_nil _)
theorem hcR_mk {ok : Nat → Prop} {w : World} {x : T} {e : E} {c d : List Value} (h1 : Hc ok w (xT x) c) (h2 : Hc ok w (xE e) d) : Hc ok w (xR (.mk x e)) (c ++ d) := by
 simp only [xR]
 exact Hc.append h1 h2
theorem hcC_mk {ok : Nat → Prop} {w : World} {t : T} {c : List Value} (s : ByteArray) (b : Bool) (h1 : Hc ok w (xT t) c) : Hc ok w (xC ⟨s, b, t⟩) (.string s :: .bool b :: c) := by
 simp only [xC]
 exact Hc.append (c := [.string s, .bool b]) (hc_cons (hx_lit _) (hc_cons (hx_lit _) hc_end)) h1
theorem hcF_mk {ok : Nat → Prop} {w : World} {l : List ByteArray} {e : E} {v : Value} {d : List Value} (s : ByteArray) (h1 : Hx ok w (.row 1 (l.map fun s => [xb s])) v) (h2 : Hc ok w (xE e) d) : Hc ok w (xF (.mk s l e)) (.string s :: v :: d) := by
 simp only [xF]
 exact Hc.append (c := [.string s, v]) (hc_cons (hx_lit _) (hc_cons h1 hc_end)) h2
theorem hcD_mk {ok : Nat → Prop} {w : World} {v : List ByteArray} {cn : List C} {f : List F} {t : T} {e : E} {v1 v2 v3 : Value} {c d : List Value} (k : Nat) (s : ByteArray) (h1 : Hx ok w (.row 1 (v.map fun s => [xb s])) v1) (h2 : Hx ok w (.row 6 (cn.map xC)) v2)
  (h3 : Hx ok w (.row 9 (f.map xF)) v3) (h4 : Hc ok w (xT t) c) (h5 : Hc ok w (xE e) d) : Hc ok w (xD (.mk k s v cn f t e)) (.int .u8 k :: .string s :: v1 :: v2 :: v3 :: (c ++ d)) := by
 simp only [xD, xFs_map]
 exact Hc.append (c := [.int .u8 k, .string s, v1, v2, v3]) (hc_cons (hx_lit _) (hc_cons (hx_lit _) (hc_cons h1 (hc_cons h2 (hc_cons h3 hc_end))))) (Hc.append h4 h5)
theorem hc_zT {ok : Nat → Prop} {w : World} : Hc ok w (xT zT) [.int .u8 0, .string ⟨#[]⟩, .int .i64 0, .slice none 0 0] := hcT_none 0 nob 0
theorem hc_zE {ok : Nat → Prop} {w : World} : Hc ok w (xE zE) [.int .u8 0, .string ⟨#[]⟩, .int .i64 0, .string ⟨#[]⟩, .slice none 0 0, .slice none 0 0, .slice none 0 0] := hcE_none 0 nob 0 nob
theorem field49_3 (x0 x1 x2 x3 : Value) (w : World) : Sem.run Tryz.prog (Instr.field 31 (.agg #[x0, x1, x2, x3]) 3) w = .ok x3 w := by kernel_rfl
/-- some cells of one block are written -/
def setL (g : Nat) : List (Nat × Value) → World → World
 | [], w => w
 | (i, v) :: r, w => setL g r (w.setCell ⟨g, i, none⟩ v)
def putL : List (Nat × Value) → Array Value → Array Value
 | [], cs => cs
 | (i, v) :: r, cs => putL r (cs.setIfInBounds i v)
theorem setL_fr (g : Nat) : ∀ (vs : List (Nat × Value)) (w : World), Fr (Just g) w (setL g vs w)
 | [], w => Fr.refl _ _
 | (i, v) :: r, w => (Fr.setCell w ⟨g, i, none⟩ v).trans (setL_fr g r _) (fun _ _ h => h)
theorem setL_block {g : Nat} {t : TypeId} {z : Nat × Nat} : ∀ (vs : List (Nat × Value)) (cs : Array Value) (w : World), w.heap[g]? = some (.cells cs t z) → (setL g vs w).heap[g]? = some (.cells (putL vs cs) t z)
 | [], cs, w, h => h
 | (i, v) :: r, cs, w, h => setL_block r _ _ (block_setCell h i v)
set_option maxRecDepth 100000 in
theorem field49_0 (x0 x1 x2 x3 : Value) (w : World) : Sem.run Tryz.prog (Instr.field 31 (.agg #[x0, x1, x2, x3]) 0) w = .ok x0 w := by kernel_rfl
set_option maxRecDepth 100000 in
theorem field49_1 (x0 x1 x2 x3 : Value) (w : World) : Sem.run Tryz.prog (Instr.field 31 (.agg #[x0, x1, x2, x3]) 1) w = .ok x1 w := by kernel_rfl
set_option maxRecDepth 100000 in
theorem field49_2 (x0 x1 x2 x3 : Value) (w : World) : Sem.run Tryz.prog (Instr.field 31 (.agg #[x0, x1, x2, x3]) 2) w = .ok x2 w := by kernel_rfl
def intOf : Value → Nat
 | .int _ p => p.toNat
 | _ => 0
end Go.Proofs.YtjabhmepafofmaaGreatDoor
