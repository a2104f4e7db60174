/- Is a type, applied, too great? -/
import Derived.Test.YtfjddfcndammdaaIn
namespace Go.Proofs.Ytfjddfcndammdaa
open Go.RowKit

theorem enters57 (args : Array Value) (u : World) : Sem.run Try.prog (callFunc 57 args) u = .ok (.enter 57 args) u := by kernel_rfl
theorem Headed.us {l : Bs} {f : Nat} {u : T} {k : Nat} {s : ByteArray} {n : Int} {r : List T} {many : Nat} (h : Headed l f u (.mk k s n r)) (hg : Good many (.mk k s n r)) : ∃ us, mapO (ap l f) r = some us ∧ u = .mk k s n us := by
  rcases h with ⟨h1, h2, h3⟩ | ⟨h1, us, h2, h3⟩
  · have h1 : k = 1 := h1
    have hr := hg.1
    simp only [right, if_pos h1, Bool.and_eq_true] at hr
    have : r = [] := by simpa using hr.2.2
    subst this
    exact ⟨[], rfl, h3⟩
  · exact ⟨us, h2, h3⟩
def fitB (u : T) (L D : Int) : Bool := decide ((parts u : Int) ≤ L) && decide ((depthT u : Int) ≤ D)
def leftAt (us : List T) (L : Int) (j : Nat) : Int := L - 1 - partsL (us.take j)
def tooBig (us : List T) (L D : Int) (j : Nat) : Bool := !(((us[j]?).map fun u => fitB u (leftAt us L j) (D - 1)).getD true)
theorem partsL_snoc : ∀ (l : List T) (t : T), partsL (l ++ [t]) = partsL l + parts t
  | [], t => by simp [partsL]
  | x :: r, t => by simp [partsL, partsL_snoc r t]; omega
theorem leftAt_succ {us : List T} {L : Int} {j : Nat} {u : T} (h : us[j]? = some u) : leftAt us L (j + 1) = leftAt us L j - parts u := by
  unfold leftAt
  rw [take_snoc h, partsL_snoc]
  omega
theorem left_pos {us : List T} {L D : Int} (hL : 1 ≤ L) : ∀ (j : Nat), j ≤ us.length → (∀ k, k < j → tooBig us L D k = false) → 0 ≤ leftAt us L j ∧ leftAt us L j ≤ L - 1
  | 0, _, _ => by simp [leftAt, partsL]; omega
  | j + 1, hj, h => by
    have hu : us[j]? = some us[j] := List.getElem?_eq_getElem (by omega)
    have hp := h j (Nat.lt_succ_self j)
    have ih := left_pos hL j (by omega) (fun k hk => h k (by omega))
    rw [leftAt_succ hu]
    simp only [tooBig, hu, Option.map_some, Option.getD_some, fitB, Bool.not_eq_false', Bool.and_eq_true, decide_eq_true_eq] at hp
    have := parts_pos us[j]
    omega
theorem fit_all {us : List T} {L D : Int} (hL : 1 ≤ L) (hD : 1 ≤ D) {k : Nat} {s : ByteArray} {n : Int} (h : ∀ j, j < us.length → tooBig us L D j = false) : fitB (.mk k s n us) L D = true ∧ leftAt us L us.length = L - parts (.mk k s n us) := by
  have h1 := left_pos hL us.length (Nat.le_refl _) h
  have h2 : leftAt us L us.length = L - parts (.mk k s n us) := by
    simp only [leftAt, List.take_length, parts]
    omega
  refine ⟨?_, h2⟩
  have hd : (depthL us : Int) ≤ D - 1 := by
    have key : ∀ l : List T, (∀ u, u ∈ l → (depthT u : Int) ≤ D - 1) → (depthL l : Int) ≤ D - 1 := by
      intro l
      induction l with
      | nil => intro _; simp [depthL]; omega
      | cons a r ih =>
        intro hl
        have a1 := hl a (by simp)
        have a2 := ih (fun u hu => hl u (by simp [hu]))
        simp only [depthL]
        omega
    refine key us fun u hu => ?_
    obtain ⟨j, hj⟩ := List.getElem?_of_mem hu
    have hp := h j (List.getElem?_eq_some_iff.1 hj).1
    simp only [tooBig, hj, Option.map_some, Option.getD_some, fitB, Bool.not_eq_false', Bool.and_eq_true, decide_eq_true_eq] at hp
    exact hp.2
  have hp := parts_pos (.mk k s n us)
  simp only [fitB, depthT, Bool.and_eq_true, decide_eq_true_eq]
  exact ⟨by omega, decide_eq_true (by omega)⟩
theorem depthL_mem : ∀ (l : List T) (j : Nat) (u : T), l[j]? = some u → depthT u ≤ depthL l
  | [], j, u, h => by simp at h
  | x :: r, 0, u, h => by
    simp only [List.getElem?_cons_zero, Option.some.injEq] at h
    subst h
    simp only [depthL]
    omega
  | x :: r, j + 1, u, h => by
    have := depthL_mem r j u (by simpa using h)
    simp only [depthL]
    omega
theorem partsL_take_mem : ∀ (l : List T) (j : Nat) (u : T), l[j]? = some u → partsL (l.take j) + parts u ≤ partsL l
  | [], j, u, h => by simp at h
  | x :: r, 0, u, h => by
    simp only [List.getElem?_cons_zero, Option.some.injEq] at h
    subst h
    simp [partsL]
  | x :: r, j + 1, u, h => by
    have := partsL_take_mem r j u (by simpa using h)
    simp only [List.take_succ_cons, partsL]
    omega
theorem fit_not {us : List T} {L D : Int} {k : Nat} {s : ByteArray} {n : Int} {j : Nat} (hj : j < us.length) (h : tooBig us L D j = true) : fitB (.mk k s n us) L D = false := by
  have hu : us[j]? = some us[j] := List.getElem?_eq_getElem hj
  simp only [tooBig, hu, Option.map_some, Option.getD_some, fitB, Bool.not_eq_true', Bool.and_eq_false_iff, decide_eq_false_iff_not] at h
  have h1 := partsL_take_mem us j _ hu
  have h2 := depthL_mem us j _ hu
  simp only [fitB, parts, depthT, Bool.and_eq_false_iff, decide_eq_false_iff_not]
  simp only [leftAt] at h
  rcases h with h | h
  · exact .inl (decide_eq_false (by omega))
  · exact .inr (decide_eq_false (by omega))
/-- what is said of whether a type fits -/
def FitSaid (w : World) (gl : Nat) (L : Int) (u : T) (D : Int) (e : Ending) (w' : World) : Prop :=
  e = .returned (.bool (fitB u L D)) ∧ Fr (Just gl) w w' ∧ ∃ L' : Int, w'.heap[gl]? = some (.cells #[.int .i64 L'] 3 (0, 0)) ∧ (fitB u L D = true → L' = L - parts u)
theorem Stays.of_gl {base gl : Nat} {ok : Nat → Prop} {w w' : World} {cs : Array Value} {z : Nat × Nat} (hf : Fr (Just gl) w w') (hgl : w.heap[gl]? = some (.cells cs 3 z)) (hb : base ≤ gl) : Stays base ok w w' := fun b hbs _ hs =>
  hf.block b hbs fun e => by
    have e : b = gl := e
    subst e
    rcases hs with hs | ⟨cs', z', hs⟩
    · omega
    · rw [hgl] at hs
      simp at hs
theorem Fr.just {gl : Nat} {a b c : World} (h : Fr (Just gl) a b) (k : Fr (Just gl) b c) : Fr (Just gl) a c := h.trans k fun _ _ h => h
theorem BkR.gl {base N gl : Nat} {w w' : World} {g many : Nat} {l : Bs} {cs : Array Value} {z : Nat × Nat} (h : BkR base w g many l N) (hf : Fr (Just gl) w w') (hN : N ≤ gl) (hgl : w.heap[gl]? = some (.cells cs 3 z)) : BkR base w' g many l N :=
  h.keep hf (fun k e => by rw [show k = gl from e]; exact hN) (fun k cs' z' e => by rw [show k = gl from e, hgl]; simp)
set_option maxHeartbeats 1000000 in
theorem fits_one (v : Value) (w : World) (g gb gp gd gl : Nat) (L D : Int) (u : T) (hD : 1 ≤ D) (hD2 : D ≤ 100) (hb : w.cell? ⟨gb, 0, none⟩ = some (.pointer (some ⟨g, 0, none⟩))) (hp : w.cell? ⟨gp, 0, none⟩ = some (.pointer (some ⟨gl, 0, none⟩))) (hd : w.cell? ⟨gd, 0, none⟩ = some (.int .i64 D))
    (h : Hid (∀ w', Fr No w w' → Calls Try.prog 49 #[.pointer (some ⟨g, 0, none⟩), v, .pointer (some ⟨gl, 0, none⟩), .int .i64 (D - 1)] w' (FitSaid w' gl L u (D - 1)))) (hv : ∃ x0 x1 x2 x3, v = .agg #[x0, x1, x2, x3]) :
    Calls Try.prog 57 #[v, .pointer (some ⟨gb, 0, none⟩), .pointer (some ⟨gp, 0, none⟩), .pointer (some ⟨gd, 0, none⟩)] w
      (fun e w' => e = .returned (.bool (!fitB u L (D - 1))) ∧ Fr (Just gl) w w' ∧ ∃ L' : Int, w'.heap[gl]? = some (.cells #[.int .i64 L'] 3 (0, 0)) ∧ (fitB u L (D - 1) = true → L' = L - parts u)) := by
  obtain ⟨x0, x1, x2, x3, rfl⟩ := hv
  have hb2 := fun o => (Fr.alloc w o).cell hb
  have hp2 := fun o => (Fr.alloc w o).cell hp
  have hd2 := fun o => (Fr.alloc w o).cell hd
  go_enter Try.func57, Try.ntmps57
  go_wp2_with fail
  refine (h.out _ (Fr.alloc w _)).mono ?_
  rintro e w1 ⟨rfl, hf, L', hL', hL2⟩
  have HF := Lib.hid ((Fr.alloc w (.cells #[x0, x1, x2, x3] 24)).then' hf (S := Just gl) fun _ h => h)
  have HL := Lib.hid (And.intro hL' hL2)
  clear hf hL' hL2
  go_wp2_with fail
  go_ret
  exact ⟨rfl, HF.out, L', HL.out⟩
set_option maxHeartbeats 2000000 in
set_option maxRecDepth 100000 in
theorem fits_any (base N : Nat) (g many gl : Nat) (l : Bs) (hfine : Fine many l) (hN : N ≤ gl) (hbase : base ≤ gl) : ∀ (f : Nat) (t u : T), ap l f t = some u → Good many t → parts t ≤ 1048576 → ∀ (v : Value) (w : World) (L D : Int), BkR base w g many l N → IsT base w t v →
    w.heap[gl]? = some (.cells #[.int .i64 L] 3 (0, 0)) → 0 ≤ L → L ≤ 1000 → 0 ≤ D → D ≤ 100 → Calls Try.prog 49 #[.pointer (some ⟨g, 0, none⟩), v, .pointer (some ⟨gl, 0, none⟩), .int .i64 D] w (FitSaid w gl L u D)
  | 0, t, u, h, _, _, _, _, _, _, _, _, _, _, _, _, _ => by cases h
  | f + 1, t, u, h, hgood, hpt, v, w, L, D, hbk, hi, hgl, hL0, hL1, hD0, hD1 => by
    obtain ⟨hh, hhd, hap⟩ := ap_hd f t u h
    obtain ⟨hgh, hph⟩ := hd_good hfine _ _ _ hgood hpt hhd
    have HH := Lib.hid (fun w' (hf : Fr No w w') => head_any base N g many l hfine (f + 1) t hh hgood hhd v w w' hf hbk hi)
    have HI := Lib.hid (fun (t u : T) (hu : ap l f t = some u) (hg : Good many t) (hp : parts t ≤ 1048576) => fits_any base N g many gl l hfine hN hbase f t u hu hg hp)
    have HBK := Lib.hid hbk
    obtain ⟨k, s, m0, r⟩ := hh
    obtain ⟨us, hus, rfl⟩ := hap.us hgh
    have HG := Lib.hid hgh
    have HP := Lib.hid hph
    have HUS := Lib.hid hus
    have HGL := Lib.hid hgl
    obtain ⟨x0, x1, x2, x3, rfl⟩ := is_agg hi
    obtain ⟨k1, s1, n1, aa1, mm1, cc1, rfl, rfl, rfl, rfl⟩ := is_cells hi
    obtain ⟨wa, hwa⟩ : ∃ wa, wa = (w.alloc (.cells #[.pointer (some ⟨g, 0, none⟩)] 27)).alloc (.cells #[.int .u8 k1, .string s1, .int .i64 n1, .slice aa1 mm1 cc1] 24) := ⟨_, rfl⟩
    obtain ⟨w0, hw0⟩ : ∃ w0, w0 = (wa.alloc (.cells #[.pointer (some ⟨gl, 0, none⟩)] 52)).alloc (.cells #[.int .i64 D] 3) := ⟨_, rfl⟩
    have hsa : wa.heap.size = w.heap.size + 1 + 1 := by rw [hwa, size_alloc, size_alloc]
    have HFa : Hid (Fr No w wa) := Lib.hid (by rw [hwa]; exact (Fr.alloc w _).then (Fr.alloc _ _))
    have HFb : Hid (Fr No wa w0) := Lib.hid (by rw [hw0]; exact (Fr.alloc wa _).then (Fr.alloc _ _))
    have r0 : Hid (w0.heap[w.heap.size]? = some (.cells #[.pointer (some ⟨g, 0, none⟩)] 27 (0, 0))) := Lib.hid (HFb.out.keeps (by rw [hwa]; exact (Fr.alloc _ _).keeps (new_block w _) no_one) no_one)
    have r1 : Hid (w0.heap[w.heap.size + 1]? = some (.cells #[.int .u8 k1, .string s1, .int .i64 n1, .slice aa1 mm1 cc1] 24 (0, 0))) := Lib.hid (by
      have h := new_block (w.alloc (.cells #[.pointer (some ⟨g, 0, none⟩)] 27)) (.cells #[.int .u8 k1, .string s1, .int .i64 n1, .slice aa1 mm1 cc1] 24)
      rw [size_alloc] at h
      refine HFb.out.keeps ?_ no_one
      rw [hwa]
      exact h)
    have r2 : Hid (w0.heap[w.heap.size + 1 + 1]? = some (.cells #[.pointer (some ⟨gl, 0, none⟩)] 52 (0, 0))) := Lib.hid (by
      have h := new_block wa (.cells #[.pointer (some ⟨gl, 0, none⟩)] 52)
      rw [hsa] at h
      rw [hw0]
      exact (Fr.alloc _ _).keeps h no_one)
    have r3 : Hid (w0.heap[w.heap.size + 1 + 1 + 1]? = some (.cells #[.int .i64 D] 3 (0, 0))) := Lib.hid (by
      have h := new_block (wa.alloc (.cells #[.pointer (some ⟨gl, 0, none⟩)] 52)) (.cells #[.int .i64 D] 3)
      rw [size_alloc, hsa] at h
      rw [hw0]
      exact h)
    have HF0 : Hid (Fr No w w0) := Lib.hid (HFa.out.then HFb.out)
    have hglt := lt_of_block hgl
    clear hbk hi h hhd hap hgh hph hgood hus hgl hsa
    go_enter Try.func49, Try.ntmps49
    go_wp2_with fail
    rw [← hwa, ← hw0]
    clear hwa hw0 HFa HFb wa
    obtain ⟨gb, hg⟩ : ∃ gb, w.heap.size = gb := ⟨_, rfl⟩
    obtain ⟨gt, hg1⟩ : ∃ gt, gb + 1 = gt := ⟨_, rfl⟩
    obtain ⟨gp, hg2⟩ : ∃ gp, gt + 1 = gp := ⟨_, rfl⟩
    obtain ⟨gd, hg3⟩ : ∃ gd, gp + 1 = gd := ⟨_, rfl⟩
    rw [hg] at r0 r1 r2 r3 hglt ⊢
    rw [hg1] at r1 r2 r3 ⊢
    rw [hg2] at r2 r3 ⊢
    rw [hg3] at r3 ⊢
    have hgs : w.heap.size ≤ gt := by omega
    have hgg : ¬ gb = gt ∧ ¬ gp = gt ∧ ¬ gd = gt ∧ ¬ gl = gt := by omega
    have hgk : ¬ gb = gl ∧ ¬ gp = gl ∧ ¬ gd = gl ∧ ¬ gt = gl := by omega
    clear hg hg1 hg2 hg3
    refine (HH.out _ HF0.out).mono ?_
    rintro e w1 ⟨v', rfl, hih, hf1⟩
    obtain ⟨x0, x1, x2, x3, rfl⟩ := is_agg hih
    obtain ⟨k2, s2, n2, a2, m2, c2, rfl, rfl, rfl, rfl⟩ := is_cells hih
    obtain ⟨r', hre, hlen, hrow⟩ := is_mk hih
    injection hre with e1 e2 e3 e4
    subst e1 e2 e3 e4
    have R0 := Lib.hid (hf1.keeps r0.out no_one)
    have R1 := Lib.hid (hf1.keeps r1.out no_one)
    have R2 := Lib.hid (hf1.keeps r2.out no_one)
    have R3 := Lib.hid (hf1.keeps r3.out no_one)
    have RL := Lib.hid (hf1.keeps (HF0.out.keeps HGL.out no_one) no_one)
    have y0 := free_of R1.out 0
    have y1 := free_of R1.out 1
    have y2 := free_of R1.out 2
    have y3 := free_of R1.out 3
    have z0 := cell_of R1.out 0
    have z1 := cell_of R1.out 1
    have z2 := cell_of R1.out 2
    have z3 := cell_of R1.out 3
    have HF1 := Lib.hid (HF0.out.then hf1)
    have HLEN := Lib.hid hlen
    have HROW := Lib.hid hrow
    clear hih hf1 hlen hrow
    obtain ⟨w2, hw2⟩ : ∃ w2, w2 = (((w1.setCell ⟨gt, 0, none⟩ (.int .u8 k)).setCell ⟨gt, 1, none⟩ (.string s)).setCell ⟨gt, 2, none⟩ (.int .i64 m0)).setCell ⟨gt, 3, none⟩ (.slice a2 m2 c2) := ⟨_, rfl⟩
    have S1 : Hid (w2.heap[gt]? = some (.cells #[.int .u8 k, .string s, .int .i64 m0, .slice a2 m2 c2] 24 (0, 0))) := Lib.hid (by rw [hw2]; exact four_block R1.out _ _ _ _)
    have S0 : Hid (w2.heap[gb]? = some (.cells #[.pointer (some ⟨g, 0, none⟩)] 27 (0, 0))) := Lib.hid (by rw [hw2]; exact (fr_four w1 gt _ _ _ _).keeps R0.out hgg.1)
    have S2 : Hid (w2.heap[gp]? = some (.cells #[.pointer (some ⟨gl, 0, none⟩)] 52 (0, 0))) := Lib.hid (by rw [hw2]; exact (fr_four w1 gt _ _ _ _).keeps R2.out hgg.2.1)
    have S3 : Hid (w2.heap[gd]? = some (.cells #[.int .i64 D] 3 (0, 0))) := Lib.hid (by rw [hw2]; exact (fr_four w1 gt _ _ _ _).keeps R3.out hgg.2.2.1)
    have SL : Hid (w2.heap[gl]? = some (.cells #[.int .i64 L] 3 (0, 0))) := Lib.hid (by rw [hw2]; exact (fr_four w1 gt _ _ _ _).keeps RL.out hgg.2.2.2)
    have HF2 : Hid (Fr No w w2) := Lib.hid (by rw [hw2]; exact Fr.set24 hgs HF1.out _ _ _ _)
    have p2 : w2.cell? ⟨gp, 0, none⟩ = some (.pointer (some ⟨gl, 0, none⟩)) := cell_of S2.out 0
    have pl : w2.cell? ⟨gl, 0, none⟩ = some (.int .i64 L) := cell_of SL.out 0
    have fl : w2.frozen? ⟨gl, 0, none⟩ = false := free_of SL.out 0
    obtain ⟨w3, hw3⟩ : ∃ w3, w3 = w2.setCell ⟨gl, 0, none⟩ (.int .i64 (L - 1)) := ⟨_, rfl⟩
    have hkeep : Fr (Just gl) w2 w3 := by rw [hw3]; exact Fr.setCell w2 ⟨gl, 0, none⟩ _
    have T0 : Hid (w3.heap[gb]? = some (.cells #[.pointer (some ⟨g, 0, none⟩)] 27 (0, 0))) := Lib.hid (hkeep.keeps S0.out hgk.1)
    have T1 : Hid (w3.heap[gt]? = some (.cells #[.int .u8 k, .string s, .int .i64 m0, .slice a2 m2 c2] 24 (0, 0))) := Lib.hid (hkeep.keeps S1.out hgk.2.2.2)
    have T2 : Hid (w3.heap[gp]? = some (.cells #[.pointer (some ⟨gl, 0, none⟩)] 52 (0, 0))) := Lib.hid (hkeep.keeps S2.out hgk.2.1)
    have T3 : Hid (w3.heap[gd]? = some (.cells #[.int .i64 D] 3 (0, 0))) := Lib.hid (hkeep.keeps S3.out hgk.2.2.1)
    have TL : Hid (w3.heap[gl]? = some (.cells #[.int .i64 (L - 1)] 3 (0, 0))) := Lib.hid (by rw [hw3]; exact block_setCell SL.out 0 _)
    have HF3 : Hid (Fr (Just gl) w w3) := Lib.hid (HF2.out.then' hkeep fun _ h => h)
    have q0 : w3.cell? ⟨gp, 0, none⟩ = some (.pointer (some ⟨gl, 0, none⟩)) := cell_of T2.out 0
    have q1 : w3.cell? ⟨gl, 0, none⟩ = some (.int .i64 (L - 1)) := cell_of TL.out 0
    have q2 : w3.cell? ⟨gd, 0, none⟩ = some (.int .i64 D) := cell_of T3.out 0
    have q3 : w3.cell? ⟨gt, 3, none⟩ = some (.slice a2 m2 c2) := cell_of T1.out 3
    go_upto_region 2 with fail
    rw [← hw2]
    clear hw2 y0 y1 y2 y3 z0 z1 z2 z3
    go_upto_region 3 with fail
    rw [← hw3]
    clear hw3 hkeep p2 pl fl
    by_cases hlow : L - 1 < 0 ∨ D < 1
    · have HFIT : Hid (fitB (.mk k s m0 us) L D = false) := Lib.hid (by
        have h1 := parts_pos (.mk k s m0 us)
        have h2 : depthT (.mk k s m0 us) ≥ 1 := by simp only [depthT]; omega
        simp only [fitB, Bool.and_eq_false_iff, decide_eq_false_iff_not]
        omega)
      by_cases hneg : L - 1 < 0
      · go_wp2_with fail
        go_ret
        exact ⟨by rw [HFIT.out]; rfl, HF3.out, L - 1, TL.out, fun h => by rw [HFIT.out] at h; cases h⟩
      · have hD : D < 1 := by omega
        go_wp2_with fail
        go_ret
        exact ⟨by rw [HFIT.out]; rfl, HF3.out, L - 1, TL.out, fun h => by rw [HFIT.out] at h; cases h⟩
    · have hneg : ¬ L - 1 < 0 := by omega
      have hD : ¬ D < 1 := by omega
      obtain ⟨hl2, hat⟩ := mapO_at r us HUS.out
      have hm2 : m2 ≤ 1152921504606846976 := by
        have h1 := partsL_len r
        have h2 := HP.out
        have h3 := HLEN.out
        simp only [parts] at h2
        omega
      have HC : Hid (Calls Try.prog 41 #[.slice a2 m2 c2, .func (.func 57) #[] #[.pointer (some ⟨gb, 0, none⟩), .pointer (some ⟨gp, 0, none⟩), .pointer (some ⟨gd, 0, none⟩)]] w3 (fun e w' => e = .returned (.bool (!fitB (.mk k s m0 us) L D)) ∧ Fr (Just gl) w3 w' ∧
          ∃ L' : Int, w'.heap[gl]? = some (.cells #[.int .i64 L'] 3 (0, 0)) ∧ (fitB (.mk k s m0 us) L D = true → L' = L - parts (.mk k s m0 us)))) := Lib.hid (by
        refine (contains_any base (fun _ => True) r m2 c2 a2 57 #[.pointer (some ⟨gb, 0, none⟩), .pointer (some ⟨gp, 0, none⟩), .pointer (some ⟨gd, 0, none⟩)] (tooBig us L D)
          (fun j w' => Fr (Just gl) w3 w' ∧ ∃ L' : Int, w'.heap[gl]? = some (.cells #[.int .i64 L'] 3 (0, 0)) ∧ ((∀ k, k < j → tooBig us L D k = false) → L' = leftAt us L j)) w3 HLEN.out hm2 enters57 ?_ ?_ ⟨Fr.refl _ _, L - 1, TL.out, fun _ => by simp [leftAt, partsL]⟩).mono ?_
        · intro j w1 h1
          exact Row.keep (Stays.of_gl (HF3.out.just h1.1) HGL.out hbase) (fun _ h => h) a2 0 r HROW.out
        · intro j t v w1 hj hall hst his
          obtain ⟨hfs, Lj, hLj, hLe⟩ := hst
          have hLe := hLe hall
          obtain ⟨uj, huj, hap⟩ := hat j t hj
          have hju : j < us.length := (List.getElem?_eq_some_iff.1 huj).1
          have hpos := left_pos (us := us) (L := L) (D := D) (by omega) j (by omega) hall
          rw [← hLe] at hpos
          have hpj : parts t ≤ 1048576 := by
            have h1 := parts_kid r j t hj
            have h2 := HP.out
            simp only [parts] at h2
            omega
          have hcl := fits_one v w1 g gb gp gd gl Lj D uj (by omega) hD1 (cell_of (hfs.keeps T0.out hgk.1) 0) (cell_of (hfs.keeps T2.out hgk.2.1) 0) (cell_of (hfs.keeps T3.out hgk.2.2.1) 0)
            (Lib.hid (fun w4 h4 => HI.out t uj hap (HG.out.kids j t hj) hpj v w4 Lj (D - 1) ((HBK.out.gl (HF3.out.just hfs) hN HGL.out).no h4) (IsT.no his h4) (h4.keeps hLj no_one) (by omega) (by omega) (by omega) (by omega))) (is_agg his)
          refine hcl.mono ?_
          rintro e w4 ⟨rfl, hf4, L4, hL4, he4⟩
          have htb : tooBig us L D j = !fitB uj Lj (D - 1) := by simp only [tooBig, huj, Option.map_some, Option.getD_some, ← hLe]
          refine ⟨by rw [htb], hfs.just hf4, L4, hL4, fun hall2 => ?_⟩
          have h5 := hall2 j (Nat.lt_succ_self j)
          rw [htb] at h5
          rw [he4 (by simpa using h5), leftAt_succ huj, hLe]
        · intro e w4 h4
          obtain ⟨b, rfl, hb⟩ := h4
          have hlm : us.length = m2 := hl2.symm.trans HLEN.out
          rcases hb with ⟨rfl, h5, hfs, L4, hL4, he4⟩ | ⟨rfl, j, hj, h5, h6, hfs, L4, hL4, he4⟩
          · obtain ⟨h7, h8⟩ := fit_all (us := us) (L := L) (D := D) (k := k) (s := s) (n := m0) (by omega) (by omega) (by rw [hlm]; exact h5)
            exact ⟨by rw [h7]; rfl, hfs, L4, hL4, fun _ => by rw [he4 h5, ← h8, hlm]⟩
          · have h7 := fit_not (us := us) (L := L) (D := D) (k := k) (s := s) (n := m0) (by rw [hlm]; exact hj) h5
            exact ⟨by rw [h7]; rfl, hfs, L4, hL4, fun h => by rw [h7] at h; cases h⟩)
      clear hl2 hat
      go_wp2_with fail
      refine HC.out.mono ?_
      rintro e w4 ⟨rfl, hf4, L4, hL4, he4⟩
      have HF4 := Lib.hid (HF3.out.just hf4)
      have HL4 := Lib.hid (And.intro hL4 he4)
      clear hf4 hL4 he4
      go_wp2_with fail
      go_ret
      exact ⟨rfl, HF4.out, L4, HL4.out⟩
def greatT (u : T) : Bool := !fitB u 1000 100
set_option maxHeartbeats 2000000 in
theorem great_any (base N : Nat) (g many : Nat) (l : Bs) (hfine : Fine many l) (f : Nat) (t u : T) (hu : ap l f t = some u) (hgood : Good many t) (hpt : parts t ≤ 1048576) (v : Value) (w : World) (hbk : BkR base w g many l N) (hN : N ≤ w.heap.size) (hi : IsT base w t v) :
    Calls Try.prog 35 #[.pointer (some ⟨g, 0, none⟩), v] w (SaidT w (greatT u)) := by
  have hbs : base ≤ w.heap.size := by
    obtain ⟨mb, tr, D, h1, h2, h3, _⟩ := hbk
    omega
  obtain ⟨x0, x1, x2, x3, rfl⟩ := is_agg hi
  obtain ⟨k1, s1, n1, aa1, mm1, cc1, rfl, rfl, rfl, rfl⟩ := is_cells hi
  have hnb := new_block (w.alloc (.cells #[.int .u8 k1, .string s1, .int .i64 n1, .slice aa1 mm1 cc1] 24)) (.cells #[.int .i64 1000] 3)
  rw [size_alloc] at hnb
  have HN := Lib.hid hnb
  have hF := (Fr.alloc w (.cells #[.int .u8 k1, .string s1, .int .i64 n1, .slice aa1 mm1 cc1] 24)).then (Fr.alloc _ (.cells #[.int .i64 1000] 3))
  have HF := Lib.hid hF
  have HC := Lib.hid (fits_any base N g many (w.heap.size + 1) l hfine (by omega) (by omega) f t u hu hgood hpt (.agg #[.int .u8 k1, .string s1, .int .i64 n1, .slice aa1 mm1 cc1]) _ 1000 100 (hbk.no hF) (hi.no hF) hnb (by omega) (by omega) (by omega) (by omega))
  clear hnb hF hbk hi hu
  go_enter Try.func35, Try.ntmps35
  go_wp2_with fail
  refine HC.out.mono ?_
  rintro e w1 ⟨rfl, hf1, L1, hL1, he1⟩
  have HF1 := Lib.hid (HF.out.own hf1 (fun i h => by rw [show i = w.heap.size + 1 from h]; omega))
  clear hf1 hL1 he1
  go_wp2_with fail
  go_ret
  exact ⟨rfl, HF1.out⟩
end Go.Proofs.Ytfjddfcndammdaa
