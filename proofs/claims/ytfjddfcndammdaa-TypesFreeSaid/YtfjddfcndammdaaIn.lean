/- Does an unknown stand in a type, applied? -/
import Derived.Test.YtfjddfcndammdaaHd
import Derived.Deep.CutRange
namespace Go.Proofs.Ytfjddfcndammdaa
open Go.RowKit

theorem enters60 (args : Array Value) (u : World) : Sem.run Try.prog (callFunc 60 args) u = .ok (.enter 60 args) u := by kernel_rfl
theorem hd_good {many : Nat} {l : Bs} (hfine : Fine many l) : ∀ (f : Nat) (t h : T), Good many t → parts t ≤ 1048576 → hd l f t = some h → Good many h ∧ parts h ≤ 1048576
  | 0, t, h, _, _, hh => by cases hh
  | f + 1, .mk k s n r, h, hg, hp, hh => by
    simp only [hd] at hh
    by_cases hk : k = 1
    · rw [if_pos hk] at hh
      cases hl : look l n with
      | none =>
        rw [hl] at hh
        simp only [Option.some.injEq] at hh
        rw [← hh]
        exact ⟨hg, hp⟩
      | some x =>
        rw [hl] at hh
        obtain ⟨h1, h2⟩ := hfine.good n x hl
        exact hd_good hfine f x h h1 h2 hh
    · rw [if_neg hk] at hh
      simp only [Option.some.injEq] at hh
      rw [← hh]
      exact ⟨hg, hp⟩
set_option maxHeartbeats 1000000 in
theorem in_one (v : Value) (w : World) (b : Bool) (g gb gn : Nat) (n : Int) (hb : w.cell? ⟨gb, 0, none⟩ = some (.pointer (some ⟨g, 0, none⟩))) (hn : w.cell? ⟨gn, 0, none⟩ = some (.int .i64 n)) (h : Hid (∀ w', Fr No w w' → Calls Try.prog 58 #[.pointer (some ⟨g, 0, none⟩), .int .i64 n, v] w' (SaidT w' b))) (hv : ∃ x0 x1 x2 x3, v = .agg #[x0, x1, x2, x3]) :
    Calls Try.prog 60 #[v, .pointer (some ⟨gb, 0, none⟩), .pointer (some ⟨gn, 0, none⟩)] w (SaidT w b) := by
  obtain ⟨x0, x1, x2, x3, rfl⟩ := hv
  have hb2 := fun o => (Fr.alloc w o).cell hb
  have hn2 := fun o => (Fr.alloc w o).cell hn
  go_enter Try.func60, Try.ntmps60
  go_wp2_with fail
  refine (h.out _ (Fr.alloc w _)).mono ?_
  rintro e w1 ⟨rfl, hf⟩
  go_wp2_with fail
  go_ret
  exact ⟨rfl, (Fr.alloc w _).then hf⟩
/-- a row of which none is found, or one: said as it is -/
theorem any_any {n : Nat} {l : List T} {q : T → Bool} {p : Nat → Bool} {St : Nat → World → Prop} {w : World} {e : Ending} {w' : World} (hl : l.length = n) (hp : ∀ (j : Nat) (t : T), l[j]? = some t → p j = q t)
    (hst : ∀ j w', St j w' → Fr No w w') (h : AnySaid n p St e w') : e = .returned (.bool (l.any q)) ∧ Fr No w w' := by
  obtain ⟨v, rfl, h⟩ := h
  rcases h with ⟨rfl, h1, h2⟩ | ⟨rfl, j, h1, h2, h3, h4⟩
  · refine ⟨?_, hst _ _ h2⟩
    have : l.any q = false := by
      rw [List.any_eq_false]
      intro t ht
      obtain ⟨j, hj⟩ := List.getElem?_of_mem ht
      have h5 := h1 j (by rw [← hl]; exact (List.getElem?_eq_some_iff.1 hj).1)
      rw [hp j t hj] at h5
      simpa using h5
    rw [this]
  · refine ⟨?_, hst _ _ h4⟩
    have hjl : j < l.length := by rw [hl]; exact h1
    have hg : l[j]? = some l[j] := List.getElem?_eq_getElem hjl
    rw [hp j _ hg] at h2
    have : l.any q = true := by
      rw [List.any_eq_true]
      exact ⟨l[j], List.getElem_mem hjl, h2⟩
    rw [this]
set_option maxHeartbeats 2000000 in
theorem in_any (base N : Nat) (g many : Nat) (l : Bs) (hfine : Fine many l) (n : Int) : ∀ (f : Nat) (t u : T), ap l f t = some u → Good many t → parts t ≤ 1048576 → ∀ (v : Value) (w : World), BkR base w g many l N → IsT base w t v →
    Calls Try.prog 58 #[.pointer (some ⟨g, 0, none⟩), .int .i64 n, v] w (SaidT w (occ n u))
  | 0, t, u, h, _, _, _, _, _, _ => by cases h
  | f + 1, t, u, h, hgood, hpt, v, w, hbk, hi => by
    obtain ⟨hh, hhd, hap⟩ := ap_hd f t u h
    obtain ⟨hgh, hph⟩ := hd_good hfine _ _ _ hgood hpt hhd
    have HH := Lib.hid (fun w' (hf : Fr No w w') => head_any base N g many l hfine (f + 1) t hh hgood hhd v w w' hf hbk hi)
    have HI := Lib.hid (fun (t u : T) (hu : ap l f t = some u) (hg : Good many t) (hp : parts t ≤ 1048576) (v : Value) (w : World) (hb : BkR base w g many l N) (hi : IsT base w t v) => in_any base N g many l hfine n f t u hu hg hp v w hb hi)
    have HBK := Lib.hid hbk
    obtain ⟨k, s, m0, r⟩ := hh
    have HG := Lib.hid hgh
    have HP := Lib.hid hph
    have HAP := Lib.hid hap
    obtain ⟨x0, x1, x2, x3, rfl⟩ := is_agg hi
    obtain ⟨k1, s1, n1, aa1, mm1, cc1, rfl, rfl, rfl, rfl⟩ := is_cells hi
    obtain ⟨w0, hw0⟩ : ∃ w0, w0 = ((w.alloc (.cells #[.pointer (some ⟨g, 0, none⟩)] 27)).alloc (.cells #[.int .i64 n] 3)).alloc (.cells #[.int .u8 k1, .string s1, .int .i64 n1, .slice aa1 mm1 cc1] 24) := ⟨_, rfl⟩
    have r0 : Hid (w0.heap[w.heap.size]? = some (.cells #[.pointer (some ⟨g, 0, none⟩)] 27 (0, 0))) := Lib.hid (by rw [hw0]; exact (Fr.alloc _ _).keeps ((Fr.alloc _ _).keeps (new_block w _) no_one) no_one)
    have r1 : Hid (w0.heap[w.heap.size + 1]? = some (.cells #[.int .i64 n] 3 (0, 0))) := Lib.hid (by
      have h := new_block (w.alloc (.cells #[.pointer (some ⟨g, 0, none⟩)] 27)) (.cells #[.int .i64 n] 3)
      rw [size_alloc] at h
      rw [hw0]
      exact (Fr.alloc _ _).keeps h no_one)
    have r2 : Hid (w0.heap[w.heap.size + 1 + 1]? = some (.cells #[.int .u8 k1, .string s1, .int .i64 n1, .slice aa1 mm1 cc1] 24 (0, 0))) := Lib.hid (by
      have h := new_block ((w.alloc (.cells #[.pointer (some ⟨g, 0, none⟩)] 27)).alloc (.cells #[.int .i64 n] 3)) (.cells #[.int .u8 k1, .string s1, .int .i64 n1, .slice aa1 mm1 cc1] 24)
      rw [size_alloc, size_alloc] at h
      rw [hw0]
      exact h)
    have HF0 : Hid (Fr No w w0) := Lib.hid (by rw [hw0]; exact ((Fr.alloc w _).then (Fr.alloc _ _)).then (Fr.alloc _ _))
    clear hbk hi h hhd hap hgh hph hgood
    go_enter Try.func58, Try.ntmps58
    go_wp2_with fail
    rw [← hw0]
    obtain ⟨gb, hg⟩ : ∃ gb, w.heap.size = gb := ⟨_, rfl⟩
    obtain ⟨gn, hg1⟩ : ∃ gn, gb + 1 = gn := ⟨_, rfl⟩
    obtain ⟨gt, hg2⟩ : ∃ gt, gn + 1 = gt := ⟨_, rfl⟩
    rw [hg] at r0 r1 r2 ⊢
    rw [hg1] at r1 r2 ⊢
    rw [hg2] at r2 ⊢
    have hgs : w.heap.size ≤ gt := by omega
    have hgg : ¬ gb = gt ∧ ¬ gn = gt := by omega
    clear hw0 hg hg1 hg2
    refine (HH.out _ HF0.out).mono ?_
    rintro e w1 ⟨v', rfl, hih, hf1⟩
    obtain ⟨x0, x1, x2, x3, rfl⟩ := is_agg hih
    obtain ⟨k2, s2, n2, a2, m2, c2, rfl, rfl, rfl, rfl⟩ := is_cells hih
    obtain ⟨r', hre, hlen, hrow⟩ := is_mk hih
    injection hre with e1 e2 e3 e4
    subst e1 e2 e3 e4
    have R0 := Lib.hid (hf1.keeps r0.out no_one)
    have R1 := Lib.hid (hf1.keeps r1.out no_one)
    have R2 := Lib.hid (hf1.keeps r2.out no_one)
    have y0 := free_of R2.out 0
    have y1 := free_of R2.out 1
    have y2 := free_of R2.out 2
    have y3 := free_of R2.out 3
    have z0 := cell_of R2.out 0
    have z1 := cell_of R2.out 1
    have z2 := cell_of R2.out 2
    have z3 := cell_of R2.out 3
    have HF1 := Lib.hid (HF0.out.then hf1)
    have HLEN := Lib.hid hlen
    have HROW := Lib.hid hrow
    clear hih hf1 hlen hrow
    obtain ⟨w2, hw2⟩ : ∃ w2, w2 = (((w1.setCell ⟨gt, 0, none⟩ (.int .u8 k)).setCell ⟨gt, 1, none⟩ (.string s)).setCell ⟨gt, 2, none⟩ (.int .i64 m0)).setCell ⟨gt, 3, none⟩ (.slice a2 m2 c2) := ⟨_, rfl⟩
    have S2 : Hid (w2.heap[gt]? = some (.cells #[.int .u8 k, .string s, .int .i64 m0, .slice a2 m2 c2] 24 (0, 0))) := Lib.hid (by rw [hw2]; exact four_block R2.out _ _ _ _)
    have S0 : Hid (w2.heap[gb]? = some (.cells #[.pointer (some ⟨g, 0, none⟩)] 27 (0, 0))) := Lib.hid (by rw [hw2]; exact (fr_four w1 gt _ _ _ _).keeps R0.out hgg.1)
    have S1 : Hid (w2.heap[gn]? = some (.cells #[.int .i64 n] 3 (0, 0))) := Lib.hid (by rw [hw2]; exact (fr_four w1 gt _ _ _ _).keeps R1.out hgg.2)
    have HF2 : Hid (Fr No w w2) := Lib.hid (by rw [hw2]; exact Fr.set24 hgs HF1.out _ _ _ _)
    have q0 : w2.cell? ⟨gt, 0, none⟩ = some (.int .u8 k) := cell_of S2.out 0
    have q2 : w2.cell? ⟨gt, 2, none⟩ = some (.int .i64 m0) := cell_of S2.out 2
    have q3 : w2.cell? ⟨gt, 3, none⟩ = some (.slice a2 m2 c2) := cell_of S2.out 3
    have p1 : w2.cell? ⟨gn, 0, none⟩ = some (.int .i64 n) := cell_of S1.out 0
    go_upto_if 12 with fail
    rw [← hw2]
    clear hw2 y0 y1 y2 y3 z0 z1 z2 z3
    rcases HAP.out with ⟨hk, hlk, hu⟩ | ⟨hk, us, hus, hu⟩
    · have hk : k = 1 := hk
      have HU : Hid (occ n u = decide (m0 = n)) := Lib.hid (by rw [hu, occ, if_pos hk])
      have hkb : ((k : Int) == 1) = true := by simp [hk]
      have hmn : (m0 == n) = decide (m0 = n) := rfl
      clear hk hlk hu
      go_wp2_with fail
      go_ret
      refine ⟨?_, HF2.out⟩
      rw [HU.out]
      rfl
    · have hk : k ≠ 1 := hk
      have hus : mapO (ap l f) r = some us := hus
      have HU : Hid (occ n u = us.any (occ n)) := Lib.hid (by rw [hu]; show occ n (.mk k s m0 us) = _; rw [occ, if_neg hk, occL_any])
      have hkb : ((k : Int) == 1) = false := by simp only [beq_eq_false_iff_ne, ne_eq]; omega
      obtain ⟨hl2, hat⟩ := mapO_at r us hus
      have hm2 : m2 ≤ 1152921504606846976 := by
        have h1 := partsL_len r
        have h2 := HP.out
        have h3 := HLEN.out
        simp only [parts] at h2
        omega
      have HC : Hid (Calls Try.prog 41 #[.slice a2 m2 c2, .func (.func 60) #[] #[.pointer (some ⟨gb, 0, none⟩), .pointer (some ⟨gn, 0, none⟩)]] w2 (SaidT w2 (us.any (occ n)))) := Lib.hid (by
        refine (contains_any base (fun _ => True) r m2 c2 a2 60 #[.pointer (some ⟨gb, 0, none⟩), .pointer (some ⟨gn, 0, none⟩)] (fun j => ((us[j]?).map (occ n)).getD false) (fun _ w1 => Fr No w2 w1) w2 HLEN.out hm2 enters60 ?_ ?_ (Fr.refl _ _)).mono ?_
        · intro j w1 h1
          exact Row.keep (Stays.of_no (HF2.out.then h1)) (fun _ h => h) a2 0 r HROW.out
        · intro j t v w1 hj hall hst his
          obtain ⟨uj, huj, hap⟩ := hat j t hj
          have hpj : parts t ≤ 1048576 := by
            have h1 := parts_kid r j t hj
            have h2 := HP.out
            simp only [parts] at h2
            omega
          have hcl := in_one v w1 (occ n uj) g gb gn n (hst.cell (cell_of S0.out 0)) (hst.cell (cell_of S1.out 0)) (Lib.hid (fun w3 h3 => HI.out t uj hap (HG.out.kids j t hj) hpj v w3 (HBK.out.no ((HF2.out.then hst).then h3)) (IsT.no his h3))) (is_agg his)
          refine hcl.mono ?_
          rintro e w3 ⟨rfl, hf3⟩
          exact ⟨by simp only [huj]; rfl, hst.then hf3⟩
        · intro e w3 h3
          exact any_any (q := occ n) (hl2.symm.trans HLEN.out) (fun j t hj => by simp only [hj]; rfl) (fun _ _ h => h) h3)
      clear hk hus hu hl2 hat
      go_wp2_with fail
      refine HC.out.mono ?_
      rintro e w3 ⟨rfl, hf3⟩
      go_wp2_with fail
      go_ret
      refine ⟨?_, HF2.out.then hf3⟩
      rw [HU.out]
      rfl
end Go.Proofs.Ytfjddfcndammdaa
