/- Two types are to be the same: the book's method. -/
import Derived.Test.YtfjddfcndammdaaUnify
import Derived.Test.YtfjddfcndammdaaOwn
import Derived.Test.YtfjddfcndammdaaWh
namespace Go.Proofs.Ytfjddfcndammdaa
open Go.RowKit

theorem uniL_pre {g : Bs → T → T → Option (Int × Bs)} (hg : ∀ l s t e l', g l s t = some (e, l') → ∃ x, l' = l ++ x) : ∀ (ss ts : List T) (l : Bs) (e : Int) (l' : Bs), uniL g l ss ts = some (e, l') → ∃ x, l' = l ++ x
  | [], ts, l, e, l', h => by
    simp only [uniL, Option.some.injEq, Prod.mk.injEq] at h
    exact ⟨[], by rw [← h.2, List.append_nil]⟩
  | s :: ss, [], l, e, l', h => by
    simp only [uniL, Option.some.injEq, Prod.mk.injEq] at h
    exact ⟨[], by rw [← h.2, List.append_nil]⟩
  | s :: ss, t :: ts, l, e, l', h => by
    simp only [uniL] at h
    cases hq : g l s t with
    | none => rw [hq] at h; cases h
    | some p =>
      obtain ⟨e1, l1⟩ := p
      rw [hq] at h
      simp only at h
      obtain ⟨x, rfl⟩ := hg l s t e1 l1 hq
      by_cases he : e1 = 0
      · rw [if_pos he] at h
        obtain ⟨y, rfl⟩ := uniL_pre hg ss ts _ e l' h
        exact ⟨x ++ y, by rw [List.append_assoc]⟩
      · rw [if_neg he] at h
        simp only [Option.some.injEq, Prod.mk.injEq] at h
        exact ⟨x, h.2.symm⟩
theorem bindM_pre {S T0 : T} {F : Nat} {l l' : Bs} {n : Int} {t : T} {e : Int} (h : bindM S T0 F l n t = some (e, l')) : ∃ x, l' = l ++ x := by
  rcases bindM_ext h with ⟨_, rfl, _⟩ | ⟨rfl, _⟩
  · exact ⟨[], by rw [List.append_nil]⟩
  · exact ⟨_, rfl⟩
theorem uni_pre {S T0 : T} : ∀ (F : Nat) (l : Bs) (s t : T) (e : Int) (l' : Bs), uni S T0 F l s t = some (e, l') → ∃ x, l' = l ++ x
  | 0, _, _, _, _, _, h => by cases h
  | F + 1, l, s, t, e, l', h => by
    simp only [uni] at h
    cases h1 : hd l F s with
    | none => rw [h1] at h; cases h
    | some x =>
      cases h2 : hd l F t with
      | none =>
        rw [h1, h2] at h
        obtain ⟨k1, s1, n1, r1⟩ := x
        cases h
      | some y =>
        obtain ⟨k1, s1, n1, r1⟩ := x
        obtain ⟨k2, s2, n2, r2⟩ := y
        rw [h1, h2] at h
        simp only at h
        have hz : ∀ (e0 : Int), some (e0, l) = some (e, l') → ∃ x, l' = l ++ x := fun e0 h => by
          simp only [Option.some.injEq, Prod.mk.injEq] at h
          exact ⟨[], by rw [← h.2, List.append_nil]⟩
        split at h
        · exact hz 0 h
        · split at h
          · exact bindM_pre h
          · split at h
            · exact bindM_pre h
            · split at h
              · exact hz 13 h
              · exact uniL_pre (fun l s t e l' h => uni_pre F l s t e l' h) r1 r2 l e l' h
/-- what Unify comes to: an error's number, and the bindings behind it -/
def Unif (many : Nat) (l : Bs) (s t : T) (e : Int) (l' : Bs) : Prop :=
  ((may many s && may many t) = false ∧ e = 1 ∧ l' = l) ∨
  (Good many s ∧ Good many t ∧ ∃ F us ut, ap l F s = some us ∧ ap l F t = some ut ∧
    (((greatT us || greatT ut) = true ∧ e = 16 ∧ l' = l) ∨ ((greatT us || greatT ut) = false ∧ ∃ l1, uni s t F l s t = some (e, l1) ∧ l' = if e = 0 then l1 else l)))
/-- two types' cells stay -/
theorem eight {w w' : World} {gs gt : Nat} {p0 p1 p2 p3 q0 q1 q2 q3 : Value} (hf : Fr No w w') (h : (w.cell? ⟨gs, 0, none⟩ = some p0 ∧ w.cell? ⟨gs, 1, none⟩ = some p1 ∧ w.cell? ⟨gs, 2, none⟩ = some p2 ∧ w.cell? ⟨gs, 3, none⟩ = some p3) ∧
    w.cell? ⟨gt, 0, none⟩ = some q0 ∧ w.cell? ⟨gt, 1, none⟩ = some q1 ∧ w.cell? ⟨gt, 2, none⟩ = some q2 ∧ w.cell? ⟨gt, 3, none⟩ = some q3) :
    (w'.cell? ⟨gs, 0, none⟩ = some p0 ∧ w'.cell? ⟨gs, 1, none⟩ = some p1 ∧ w'.cell? ⟨gs, 2, none⟩ = some p2 ∧ w'.cell? ⟨gs, 3, none⟩ = some p3) ∧
    w'.cell? ⟨gt, 0, none⟩ = some q0 ∧ w'.cell? ⟨gt, 1, none⟩ = some q1 ∧ w'.cell? ⟨gt, 2, none⟩ = some q2 ∧ w'.cell? ⟨gt, 3, none⟩ = some q3 :=
  ⟨⟨hf.cell h.1.1, hf.cell h.1.2.1, hf.cell h.1.2.2.1, hf.cell h.1.2.2.2⟩, hf.cell h.2.1, hf.cell h.2.2.1, hf.cell h.2.2.2.1, hf.cell h.2.2.2.2⟩
set_option maxHeartbeats 1000000 in
theorem Unify_nil (vs vt : Value) (hs : ∃ x0 x1 x2 x3, vs = .agg #[x0, x1, x2, x3]) (ht : ∃ x0 x1 x2 x3, vt = .agg #[x0, x1, x2, x3]) (w : World) : Calls Try.prog 11 #[.pointer none, vs, vt] w (SaidI w 2) := by
  obtain ⟨x0, x1, x2, x3, rfl⟩ := hs
  obtain ⟨y0, y1, y2, y3, rfl⟩ := ht
  go_enter Try.func11, Try.ntmps11
  go_wp2_with fail
  go_ret
  exact ⟨rfl, (Fr.alloc w _).then (Fr.alloc _ _)⟩
set_option maxHeartbeats 4000000 in
set_option maxRecDepth 100000 in
theorem Unify_any (base g many : Nat) (l l' : Bs) (hw : WfB many l) (s t : T) (hps : parts s ≤ 1048576) (hpt : parts t ≤ 1048576) (e : Int) (hu : Unif many l s t e l') (vs vt : Value) (w : World) (hbk : Bk base w g many l) (his : IsT base w s vs) (hit : IsT base w t vt) :
    Calls Try.prog 11 #[.pointer (some ⟨g, 0, none⟩), vs, vt] w (ErrSaid base w g many e l') := by
  have hc0 := hbk.cell0
  have HM1 := Lib.hid (fun w' (hf : Fr No w w') => may_any g many base s hps vs w' (his.no hf) (hf.cell hc0))
  have HM2 := Lib.hid (fun w' (hf : Fr No w w') => may_any g many base t hpt vt w' (hit.no hf) (hf.cell hc0))
  have HBK := Lib.hid hbk
  have HIS := Lib.hid (And.intro his hit)
  have HW := Lib.hid hw
  have HU := Lib.hid hu
  obtain ⟨x0, x1, x2, x3, rfl⟩ := is_agg his
  obtain ⟨ks, ss, ns, au, ms, cs, rfl, rfl, rfl, rfl⟩ := is_cells his
  obtain ⟨x0, x1, x2, x3, rfl⟩ := is_agg hit
  obtain ⟨kt, st, nt, av, mt, ct, rfl, rfl, rfl, rfl⟩ := is_cells hit
  obtain ⟨w0, hw0⟩ : ∃ w0, w0 = (w.alloc (.cells #[.int .u8 ks, .string ss, .int .i64 ns, .slice au ms cs] 24)).alloc (.cells #[.int .u8 kt, .string st, .int .i64 nt, .slice av mt ct] 24) := ⟨_, rfl⟩
  have r0 : Hid (w0.heap[w.heap.size]? = some (.cells #[.int .u8 ks, .string ss, .int .i64 ns, .slice au ms cs] 24 (0, 0))) := Lib.hid (by rw [hw0]; exact keep_alloc (new_block w _) _)
  have r1 : Hid (w0.heap[w.heap.size + 1]? = some (.cells #[.int .u8 kt, .string st, .int .i64 nt, .slice av mt ct] 24 (0, 0))) := Lib.hid (by
    have h := new_block (w.alloc (.cells #[.int .u8 ks, .string ss, .int .i64 ns, .slice au ms cs] 24)) (.cells #[.int .u8 kt, .string st, .int .i64 nt, .slice av mt ct] 24)
    rw [size_alloc] at h
    rw [hw0]
    exact h)
  have HF0 : Hid (Fr No w w0) := Lib.hid (by rw [hw0]; exact (Fr.alloc _ _).then (Fr.alloc _ _))
  clear hbk his hit hw hu hc0
  have p := And.intro (cell_of r0.out 0) (And.intro (cell_of r0.out 1) (And.intro (cell_of r0.out 2) (cell_of r0.out 3)))
  have q := And.intro (cell_of r1.out 0) (And.intro (cell_of r1.out 1) (And.intro (cell_of r1.out 2) (cell_of r1.out 3)))
  have HPQ := Lib.hid (And.intro p q)
  clear p q
  go_enter Try.func11, Try.ntmps11
  go_upto_region 3 with fail
  rw [← hw0]
  obtain ⟨gs, hg1⟩ : ∃ gs, w.heap.size = gs := ⟨_, rfl⟩
  obtain ⟨gt, hg2⟩ : ∃ gt, gs + 1 = gt := ⟨_, rfl⟩
  rw [hg1] at r0 r1 HPQ ⊢
  rw [hg2] at r1 HPQ ⊢
  have hgs : w.heap.size ≤ gs ∧ w.heap.size ≤ gt := by omega
  have hgg : gs ≠ gt := by omega
  clear hg1 hg2 hw0
  obtain ⟨⟨p0, p1, p2, p3⟩, q0, q1, q2, q3⟩ := HPQ.out
  go_wp2_with fail
  refine (HM1.out _ HF0.out).mono ?_
  rintro e' w1 ⟨rfl, hf1⟩
  have HF1 := Lib.hid hf1
  clear p0 p1 p2 p3 q0 q1 q2 q3
  obtain ⟨⟨p0, p1, p2, p3⟩, q0, q1, q2, q3⟩ := eight hf1 HPQ.out
  clear hf1
  cases hm1 : may many s with
  | false =>
    have hu := HU.out
    rcases hu with ⟨_, rfl, rfl⟩ | ⟨hs, _⟩
    case inr => rw [may_good.2 hs] at hm1; cases hm1
    clear hm1 HU
    go_wp2_with fail
    go_ret
    exact ⟨rfl, HBK.out.no (HF0.out.then HF1.out), Fb.ofNo (HF0.out.then HF1.out)⟩
  | true =>
  have HM := Lib.hid hm1
  clear hm1
  go_wp2_with fail
  refine (HM2.out _ (HF0.out.then HF1.out)).mono ?_
  rintro e' w2 ⟨rfl, hf2⟩
  have HF2 := Lib.hid (HF1.out.then hf2)
  clear p0 p1 p2 p3 q0 q1 q2 q3 hf2
  obtain ⟨⟨p0, p1, p2, p3⟩, q0, q1, q2, q3⟩ := eight HF2.out HPQ.out
  cases hm2 : may many t with
  | false =>
    have hu := HU.out
    rcases hu with ⟨_, rfl, rfl⟩ | ⟨_, hs, _⟩
    case inr => rw [may_good.2 hs] at hm2; cases hm2
    clear hm2 HU HM
    go_wp2_with fail
    go_ret
    exact ⟨rfl, HBK.out.no (HF0.out.then HF2.out), Fb.ofNo (HF0.out.then HF2.out)⟩
  | true =>
  rcases HU.out with ⟨hm, _⟩ | ⟨hgs', hgt', F, us, ut, hus, hut, hrest⟩
  · rw [HM.out, hm2] at hm
    cases hm
  have HG := Lib.hid (And.intro hgs' hgt')
  have HR := Lib.hid hrest
  have HG1 := Lib.hid (fun w' (hf : Fr No w w') => great_any base w.heap.size g many l HW.out.fine F s us hus hgs' hps _ w' (HBK.out.reads.no hf) hf.size (HIS.out.1.no hf))
  have HG2 := Lib.hid (fun w' (hf : Fr No w w') => great_any base w.heap.size g many l HW.out.fine F t ut hut hgt' hpt _ w' (HBK.out.reads.no hf) hf.size (HIS.out.2.no hf))
  clear hm2 HU HM hgs' hgt' hus hut hrest
  go_wp2_with fail
  refine (HG1.out _ (HF0.out.then HF2.out)).mono ?_
  rintro e' w3 ⟨rfl, hf3⟩
  have HF3 := Lib.hid (HF2.out.then hf3)
  clear p0 p1 p2 p3 q0 q1 q2 q3 hf3
  obtain ⟨⟨p0, p1, p2, p3⟩, q0, q1, q2, q3⟩ := eight HF3.out HPQ.out
  cases hgu : greatT us with
  | true =>
    have hu := HR.out
    rw [hgu] at hu
    rcases hu with ⟨_, rfl, rfl⟩ | ⟨h, _⟩
    case inr => cases h
    clear hgu HR
    go_wp2_with fail
    go_ret
    exact ⟨rfl, HBK.out.no (HF0.out.then HF3.out), Fb.ofNo (HF0.out.then HF3.out)⟩
  | false =>
  have HA := Lib.hid hgu
  clear hgu
  go_wp2_with fail
  refine (HG2.out _ (HF0.out.then HF3.out)).mono ?_
  rintro e' w4 ⟨rfl, hf4⟩
  have HF4 := Lib.hid (HF3.out.then hf4)
  clear p0 p1 p2 p3 q0 q1 q2 q3 hf4
  obtain ⟨⟨p0, p1, p2, p3⟩, q0, q1, q2, q3⟩ := eight HF4.out HPQ.out
  cases hgv : greatT ut with
  | true =>
    have hu := HR.out
    rw [hgv, Bool.or_true] at hu
    rcases hu with ⟨_, rfl, rfl⟩ | ⟨h, _⟩
    case inr => cases h
    clear hgv HR HA
    go_wp2_with fail
    go_ret
    exact ⟨rfl, HBK.out.no (HF0.out.then HF4.out), Fb.ofNo (HF0.out.then HF4.out)⟩
  | false =>
  have hu := HR.out
  rw [HA.out, hgv] at hu
  rcases hu with ⟨h, _⟩ | ⟨_, l1, hl1, hl'⟩
  · cases h
  have HUN := Lib.hid (And.intro hl1 hl')
  obtain ⟨wx, hwx⟩ : ∃ wx, wx = w4 := ⟨_, rfl⟩
  rw [← hwx] at HF4 p0 p1 p2 p3 q0 q1 q2 q3 ⊢
  have HFX := Lib.hid (HF0.out.then HF4.out)
  have RX0 := Lib.hid (HF4.out.keeps r0.out no_one)
  have RX1 := Lib.hid (HF4.out.keeps r1.out no_one)
  have H8 := Lib.hid (eight HF4.out HPQ.out)
  have HCP1 := Lib.hid (fun w' (hf : Fr No w w') => copied_any s hps base (fun _ => True) _ w' (HIS.out.1.no hf))
  have HCP2 := Lib.hid (fun w' (hf : Fr No w w') => copied_any t hpt base (fun _ => True) _ w' (HIS.out.2.no hf))
  clear hwx w4 HR HA hgv hl1 hl' HG1 HG2 HM1 HM2
  go_upto_region 7 with fail
  clear p0 p1 p2 p3 q0 q1 q2 q3
  refine region_e (fun w' => (w'.cell? ⟨gs, 0, none⟩ = some (.int .u8 ks) ∧ w'.cell? ⟨gs, 1, none⟩ = some (.string ss) ∧ w'.cell? ⟨gs, 2, none⟩ = some (.int .i64 ns) ∧ w'.cell? ⟨gs, 3, none⟩ = some (.slice au ms cs)) ∧ w'.cell? ⟨gt, 0, none⟩ = some (.int .u8 kt) ∧ w'.cell? ⟨gt, 1, none⟩ = some (.string st) ∧ w'.cell? ⟨gt, 2, none⟩ = some (.int .i64 nt) ∧ w'.cell? ⟨gt, 3, none⟩ = some (.slice av mt ct)) [4, 5] (by kernel_rfl) ?_ (fun hHeld => ?_)
  · exact H8.out
  refine take_op 0 (some 32) (Op.load 24 ( .tmp 4)) 24 ?_ (by kernel_rfl) (by kernel_rfl) (by kernel_rfl) (fun _ _ _ h => h) ?_ (by assumption) ?_
  rotate_left
  · intro w hSw; (try dsimp only at hSw); go_simp; (try (with_reducible rfl))
  try simp only [Act.put, List.setIfInBounds_toArray, List.set_cons_zero, List.set_cons_succ]
  refine take_op 2 (some 34) (Op.load 24 ( .tmp 5)) 24 ?_ (by kernel_rfl) (by kernel_rfl) (by kernel_rfl) (fun _ _ _ h => h) ?_ (by assumption) ?_
  rotate_left
  · intro w hSw; (try dsimp only at hSw); go_simp; (try (with_reducible rfl))
  try simp only [Act.put, List.setIfInBounds_toArray, List.set_cons_zero, List.set_cons_succ]
  refine ready_e (rs := [1]) (by kernel_rfl) (by simp) ?_
  refine do_mid (o := _) rfl (fun K hK => ?_) none_e -- slot 33 F36
  go_simp
  go_at_call 36
  refine (HCP1.out _ (HFX.out.then (Fr.drew _))).mono ?_
  rintro e' w5 ⟨v1, rfl, hi1, hf1⟩
  obtain ⟨x0, x1, x2, x3, rfl⟩ := is_agg hi1
  obtain ⟨ky, sy, ny, a1', m1, c1, rfl, rfl, rfl, rfl⟩ := is_cells hi1
  have HI1 := Lib.hid hi1
  have HF5 := Lib.hid ((Fr.drew wx).then hf1)
  clear hi1 hf1
  refine hK.out _ _ ?_ (fun hHeld => ?_)
  · exact eight HF5.out H8.out
  clear hK K
  try dsimp only
  try simp only [Act.put, List.setIfInBounds_toArray, List.set_cons_zero, List.set_cons_succ]
  refine ready_e (rs := [3]) (by kernel_rfl) (by simp) ?_
  refine do_mid (o := _) rfl (fun K hK => ?_) none_e -- slot 35 F36
  go_simp
  go_at_call 36
  refine (HCP2.out _ (HFX.out.then HF5.out)).mono ?_
  rintro e' w6 ⟨v2, rfl, hi2, hf2⟩
  obtain ⟨x0, x1, x2, x3, rfl⟩ := is_agg hi2
  obtain ⟨kz, sz, nz, a2', m2, c2, rfl, rfl, rfl, rfl⟩ := is_cells hi2
  have HI2 := Lib.hid hi2
  have HF6 := Lib.hid (HF5.out.then hf2)
  have HI1b := Lib.hid (HI1.out.no hf2)
  clear hi2 hf2
  refine hK.out _ _ ?_ (fun hHeld => ?_)
  · exact eight HF6.out H8.out
  clear hK K
  try dsimp only
  try simp only [Act.put, List.setIfInBounds_toArray, List.set_cons_zero, List.set_cons_succ]
  have R1 := Lib.hid (HF6.out.keeps RX0.out no_one)
  have R2 := Lib.hid (HF6.out.keeps RX1.out no_one)
  have y0 := free_of R1.out 0
  have y1 := free_of R1.out 1
  have y2 := free_of R1.out 2
  have y3 := free_of R1.out 3
  have z0 := cell_of R1.out 0
  have z1 := cell_of R1.out 1
  have z2 := cell_of R1.out 2
  have z3 := cell_of R1.out 3
  obtain ⟨w7, hw7⟩ : ∃ w7, w7 = (((w6.setCell ⟨gs, 0, none⟩ (.int .u8 ky)).setCell ⟨gs, 1, none⟩ (.string sy)).setCell ⟨gs, 2, none⟩ (.int .i64 ny)).setCell ⟨gs, 3, none⟩ (.slice a1' m1 c1) := ⟨_, rfl⟩
  have hf7 : Fr (Just gs) w6 w7 := by rw [hw7]; exact fr_four w6 gs _ _ _ _
  have T1 : Hid (w7.heap[gs]? = some (.cells #[.int .u8 ky, .string sy, .int .i64 ny, .slice a1' m1 c1] 24 (0, 0))) := Lib.hid (by rw [hw7]; exact four_block R1.out _ _ _ _)
  have T2 := Lib.hid (hf7.keeps R2.out (Ne.symm hgg))
  have HF7 := Lib.hid hf7
  clear hf7
  refine ready_e (rs := [4]) (by kernel_rfl) (by simp) ?_
  refine do_late (o := _) rfl (by kernel_rfl) (fun K hK => ?_) none_e -- slot None store
  go_simp
  refine hK.out _ _ ?_
  clear hK K
  try dsimp only
  try simp only [Act.put, List.setIfInBounds_toArray, List.set_cons_zero, List.set_cons_succ]
  rw [← hw7]
  clear hw7 y0 y1 y2 y3 z0 z1 z2 z3 R1 R2
  have y0 := free_of T2.out 0
  have y1 := free_of T2.out 1
  have y2 := free_of T2.out 2
  have y3 := free_of T2.out 3
  have z0 := cell_of T2.out 0
  have z1 := cell_of T2.out 1
  have z2 := cell_of T2.out 2
  have z3 := cell_of T2.out 3
  obtain ⟨w8, hw8⟩ : ∃ w8, w8 = (((w7.setCell ⟨gt, 0, none⟩ (.int .u8 kz)).setCell ⟨gt, 1, none⟩ (.string sz)).setCell ⟨gt, 2, none⟩ (.int .i64 nz)).setCell ⟨gt, 3, none⟩ (.slice a2' m2 c2) := ⟨_, rfl⟩
  have hf8 : Fr (Just gt) w7 w8 := by rw [hw8]; exact fr_four w7 gt _ _ _ _
  have U1 := Lib.hid (hf8.keeps T1.out hgg)
  have U2 : Hid (w8.heap[gt]? = some (.cells #[.int .u8 kz, .string sz, .int .i64 nz, .slice a2' m2 c2] 24 (0, 0))) := Lib.hid (by rw [hw8]; exact four_block T2.out _ _ _ _)
  have HF8 := Lib.hid hf8
  clear hf8
  refine ready_e (rs := [5]) (by kernel_rfl) (by simp) ?_
  refine do_late (o := _) rfl (by kernel_rfl) (fun K hK => ?_) none_e -- slot None store
  go_simp
  refine hK.out _ _ ?_
  clear hK K
  try dsimp only
  try simp only [Act.put, List.setIfInBounds_toArray, List.set_cons_zero, List.set_cons_succ]
  rw [← hw8]
  clear hw8 y0 y1 y2 y3 z0 z1 z2 z3 T1 T2
  refine done_e (by kernel_rfl) ?_ _
  have hlx0 := lt_of_block RX0.out
  have hlx1 := lt_of_block RX1.out
  have hst : ∀ b, b < w6.heap.size → wx.drew.heap.size ≤ b → w8.heap[b]? = w6.heap[b]? := fun b hb ho => by
    have ho : wx.heap.size ≤ b := ho
    have e1 := HF7.out.block b hb (fun e => by have e : b = gs := e; omega)
    have e2 := HF8.out.block b (Nat.lt_of_lt_of_le hb HF7.out.size) (fun e => by have e : b = gt := e; omega)
    exact e2.trans e1
  have hw58 : wx.drew.heap.size ≤ w5.heap.size := (show Fr No wx.drew w5 from ⟨HF5.out.os, HF5.out.tape, HF5.out.output, HF5.out.size, HF5.out.block⟩).size
  have hI1 : IsT base w8 s (.agg #[.int .u8 ky, .string sy, .int .i64 ny, .slice a1' m1 c1]) := IsT.of0 (HI1b.out.keep (ok' := fun _ => True) (fun b hb ho _ => hst b hb ho) (fun _ _ => trivial))
  have hI2 : IsT base w8 t (.agg #[.int .u8 kz, .string sz, .int .i64 nz, .slice a2' m2 c2]) := IsT.of0 (HI2.out.keep (ok' := fun _ => True) (fun b hb ho _ => hst b hb (Nat.le_trans hw58 ho)) (fun _ _ => trivial))
  have hF8 : Fr No w w8 := ((HFX.out.then HF6.out).own HF7.out (fun i e => by rw [show i = gs from e]; exact hgs.1)).own HF8.out (fun i e => by rw [show i = gt from e]; exact hgs.2)
  have hwl := HW.out.len
  have hsm := HW.out.fine.small
  have p := And.intro (cell_of U1.out 0) (And.intro (cell_of U1.out 1) (And.intro (cell_of U1.out 2) (cell_of U1.out 3)))
  have q := And.intro (cell_of U2.out 0) (And.intro (cell_of U2.out 1) (And.intro (cell_of U2.out 2) (cell_of U2.out 3)))
  have HPQ8 := Lib.hid (And.intro p q)
  have HM := Lib.hid (mark_any base g many l (by omega) w8 (HBK.out.no hF8))
  have HX := Lib.hid (And.intro hI1 (And.intro hI2 hF8))
  have hll : l.length ≤ 4096 := by omega
  obtain ⟨len, hlen⟩ : ∃ len, l.length = len := ⟨_, rfl⟩
  rw [hlen] at HM hll
  have HLEN := Lib.hid hlen
  clear hlx0 hlx1 hst hw58 hI1 hI2 hF8 hwl p q hlen
  go_upto_region 8 with fail
  go_wp2_with fail
  refine HM.out.mono ?_
  rintro e' w9 ⟨rfl, hf9⟩
  have HF9 := Lib.hid hf9
  obtain ⟨⟨p0, p1, p2, p3⟩, q0, q1, q2, q3⟩ := eight hf9 HPQ8.out
  have hf9w := HX.out.2.2.then hf9
  have HC := Lib.hid (unify_any base g many s t HG.out.1 hps HG.out.2 hpt F l s t e l1 HUN.out.1 HW.out HG.out.1 hps HG.out.2 hpt (.agg #[.int .u8 ky, .string sy, .int .i64 ny, .slice a1' m1 c1]) (.agg #[.int .u8 kz, .string sz, .int .i64 nz, .slice a2' m2 c2])
    (.int .u8 ky) (.string sy) (.int .i64 ny) (.slice a1' m1 c1) (.int .u8 kz) (.string sz) (.int .i64 nz) (.slice a2' m2 c2) w9 (HBK.out.no hf9w) (HX.out.1.no hf9) (HX.out.2.1.no hf9) (HX.out.1.no hf9) (HX.out.2.1.no hf9))
  have HF9W := Lib.hid hf9w
  clear hf9 hf9w
  go_wp2_with fail
  refine HC.out.mono ?_
  rintro e' w10 ⟨rfl, hb10, hf10⟩
  have HB10 := Lib.hid hb10
  have HF10 := Lib.hid ((Fb.ofNo (base := base) HF9W.out).trans hf10)
  clear hb10 hf10 p0 p1 p2 p3 q0 q1 q2 q3
  by_cases he : e = 0
  · have hl := HUN.out.2
    rw [if_pos he] at hl
    subst he
    subst hl
    clear HUN
    go_wp2_with fail
    go_ret
    exact ⟨rfl, HB10.out, HF10.out⟩
  · have hl := HUN.out.2
    rw [if_neg he] at hl
    have hne : (e != 0) = true := by simpa using he
    have hwf := uni_wf F l s t e l1 HG.out.1 hps HG.out.2 hpt HW.out HUN.out.1
    obtain ⟨x, hx⟩ := uni_pre F l s t e l1 HUN.out.1
    have hl1 := hwf.len
    have HCB := Lib.hid (back_any base g many l1 hwf.once (by omega) (fun p hp => by have := hwf.keys p hp; omega) len (by omega) w10 HB10.out)
    have HEQ : Hid (backB l1 len = l) := Lib.hid (by
      rw [backB, if_neg (by omega), Int.toNat_natCast, hx, ← HLEN.out, List.take_left])
    subst hl
    clear hwf hx hl1 he HUN
    go_wp2_with fail
    refine HCB.out.mono ?_
    rintro e' w11 ⟨rfl, hb11, hf11⟩
    have HB11 := Lib.hid hb11
    have HF11 := Lib.hid hf11
    clear hb11 hf11
    go_wp2_with fail
    go_ret
    refine ⟨rfl, ?_, HF10.out.trans HF11.out⟩
    rw [← HEQ.out]
    exact HB11.out
end Go.Proofs.Ytfjddfcndammdaa
