/- Are a type's unknowns the book's? -/
import Derived.Test.YtfjddfcndammdaaBk
import Derived.Deep.QuietTactic
import Derived.BigQuiet
namespace Go.Proofs.Ytfjddfcndammdaa
open Go.RowKit

theorem enters56 (args : Array Value) (u : World) : Sem.run Try.prog (callFunc 56 args) u = .ok (.enter 56 args) u := by kernel_rfl
set_option maxHeartbeats 1000000 in
theorem not_own (v : Value) (w : World) (b : Bool) (g gb : Nat) (hb : w.cell? ⟨gb, 0, none⟩ = some (.pointer (some ⟨g, 0, none⟩))) (h : Hid (∀ w', Fr No w w' → Calls Try.prog 48 #[.pointer (some ⟨g, 0, none⟩), v] w' (SaidT w' b))) (hv : ∃ x0 x1 x2 x3, v = .agg #[x0, x1, x2, x3]) :
    Calls Try.prog 56 #[v, .pointer (some ⟨gb, 0, none⟩)] w (SaidT w (!b)) := by
  obtain ⟨x0, x1, x2, x3, rfl⟩ := hv
  have hb2 := fun o => (Fr.alloc w o).cell hb
  go_enter Try.func56, Try.ntmps56
  go_wp2_with fail
  refine (h.out _ (Fr.alloc w _)).mono ?_
  rintro e w1 ⟨rfl, hf⟩
  go_wp2_with fail
  go_ret
  exact ⟨rfl, (Fr.alloc w _).then hf⟩
set_option maxHeartbeats 2000000 in
theorem own_any (g many : Nat) (base : Nat) : ∀ (f : Nat) (t : T), parts t ≤ f → f ≤ 1152921504606846976 → ∀ (v : Value) (w : World), IsT base w t v → w.cell? ⟨g, 0, none⟩ = some (.int .i64 many) →
    Calls Try.prog 48 #[.pointer (some ⟨g, 0, none⟩), v] w (SaidT w (own many t))
  | 0, t, h, _, _, _, _, _ => by have := parts_pos t; omega
  | f + 1, .mk k s n l, h, hf, v, w, hi, hc => by
    simp only [IsT, Is] at hi
    obtain ⟨a, cap, rfl, hrow⟩ := hi
    obtain ⟨m, hm⟩ : ∃ m, l.length = m := ⟨_, rfl⟩
    rw [hm]
    have hml := partsL_len l
    simp only [parts] at h
    rw [hm] at hml
    have HC : Hid (∀ w' gb, Fr No w w' → w'.cell? ⟨gb, 0, none⟩ = some (.pointer (some ⟨g, 0, none⟩)) → Calls Try.prog 41 #[.slice a m cap, .func (.func 56) #[] #[.pointer (some ⟨gb, 0, none⟩)]] w' (SaidT w' (!ownL many l))) := Lib.hid (fun w' gb hw' hgb => by
      rw [ownL_all]
      refine (contains_any base (fun _ => True) l m cap a 56 #[.pointer (some ⟨gb, 0, none⟩)] (fun j => !((l[j]?).map (own many)).getD true) (fun _ w1 => Fr No w' w1) w' hm (by omega) enters56 ?_ ?_ (Fr.refl _ _)).mono ?_
      · intro j w1 h1
        exact Row.keep (Stays.of_no (hw'.then h1)) (fun _ h => h) a 0 l hrow
      · intro j t v w1 hj hall hst his
        have hk := parts_kid l j t hj
        have hcl := not_own v w1 (own many t) g gb (hst.cell hgb) (Lib.hid (fun w2 h2 => own_any g many base f t (by omega) (by omega) v w2 (IsT.no his h2) (((hw'.then hst).then h2).cell hc))) (is_agg his)
        refine hcl.mono ?_
        rintro e w2 ⟨rfl, hf2⟩
        exact ⟨by simp only [hj]; rfl, hst.then hf2⟩
      · intro e w2 h2
        exact any_all (q := own many) hm (fun j t hj => by simp only [hj]; rfl) (fun _ _ h => h) h2)
    have HR : Hid (own many (.mk k s n l) = ((k != 1 || decide (n < many)) && ownL many l)) := Lib.hid (by rw [own])
    obtain ⟨R, hR⟩ : ∃ R, own many (.mk k s n l) = R := ⟨_, rfl⟩
    rw [hR] at HR ⊢
    clear hR hrow hm
    obtain ⟨rl, hrl⟩ : ∃ rl, ownL many l = rl := ⟨_, rfl⟩
    rw [hrl] at HC HR
    clear hrl
    have hcA := fun o => (Fr.alloc w o).cell hc
    have hcB := fun o o' => (Fr.alloc (w.alloc o) o').cell (hcA o)
    have hF := fun x : Value => (Fr.alloc w (.cells #[.pointer (some ⟨g, 0, none⟩)] 27)).then (Fr.alloc _ (.cells #[x, .string s, .int .i64 n, .slice a m cap] 24))
    have HF := Lib.hid hF
    clear hF hcA hc
    by_cases hk : k = 1
    · subst hk
      by_cases hn : n < many
      · have hd : decide ((many : Int) ≤ n) = false := by simp; omega
        have HE : Hid (R = rl) := Lib.hid (by rw [HR.out]; simp [hn])
        clear HR
        go_enter Try.func48, Try.ntmps48
        go_wp2_with fail
        go_quiet (fail)
        go_wp2_with fail
        refine (HC.out _ w.heap.size ((HF.out _).then (Fr.drewN _ _)) (cell_of (((Fr.alloc _ _).then (Fr.drewN _ _)).keeps (new_block w _) no_one) 0)).mono ?_
        rintro e w1 ⟨rfl, hf1⟩
        go_wp2_with fail
        go_ret
        refine ⟨?_, ((HF.out _).then (Fr.drewN _ _)).then hf1⟩
        rw [HE.out]
        simp
      · have hd : decide ((many : Int) ≤ n) = true := by simp; omega
        have HE : Hid (R = false) := Lib.hid (by rw [HR.out]; simp [hn])
        clear HR
        go_enter Try.func48, Try.ntmps48
        go_wp2_with fail
        go_quiet (fail)
        go_wp2_with fail
        go_ret
        refine ⟨?_, (HF.out _).then (Fr.drewN _ _)⟩
        rw [HE.out]
        rfl
    · have hkb : ((k : Int) == 1) = false := by simp only [beq_eq_false_iff_ne, ne_eq]; omega
      have HE : Hid (R = rl) := Lib.hid (by rw [HR.out]; simp [hk])
      clear HR
      go_enter Try.func48, Try.ntmps48
      go_wp2_with fail
      go_quiet (fail)
      go_wp2_with fail
      refine (HC.out _ w.heap.size ((HF.out _).then (Fr.drewN _ _)) (cell_of (((Fr.alloc _ _).then (Fr.drewN _ _)).keeps (new_block w _) no_one) 0)).mono ?_
      rintro e w1 ⟨rfl, hf1⟩
      go_wp2_with fail
      go_ret
      refine ⟨?_, ((HF.out _).then (Fr.drewN _ _)).then hf1⟩
      rw [HE.out]
      simp
def may (many : Nat) (t : T) : Bool := right t && own many t
set_option maxHeartbeats 2000000 in
/-- may a type be, and are its unknowns the book's? -/
theorem may_any (g many : Nat) (base : Nat) (t : T) (ht : parts t ≤ 1048576) (v : Value) (w : World) (hi : IsT base w t v) (hc : w.cell? ⟨g, 0, none⟩ = some (.int .i64 many)) :
    Calls Try.prog 34 #[.pointer (some ⟨g, 0, none⟩), v] w (SaidT w (may many t)) := by
  have H1 := Lib.hid (fun w' (hb : Fr No w w') => right_any (parts t) t (Nat.le_refl _) (by omega) base (fun _ => True) v w' (hi.no hb))
  have H2 := Lib.hid (fun w' (hb : Fr No w w') => own_any g many base (parts t) t (Nat.le_refl _) (by omega) v w' (hi.no hb) (hb.cell hc))
  obtain ⟨x0, x1, x2, x3, rfl⟩ := is_agg hi
  obtain ⟨k1, s1, n1, aa1, mm1, cc1, rfl, rfl, rfl, rfl⟩ := is_cells hi
  have HM : Hid (may many t = (right t && own many t)) := Lib.hid rfl
  obtain ⟨R, hR⟩ : ∃ R, may many t = R := ⟨_, rfl⟩
  rw [hR] at HM ⊢
  clear hi hR hc
  have hbx := new_block w (.cells #[.int .u8 k1, .string s1, .int .i64 n1, .slice aa1 mm1 cc1] 24)
  have hcx := fun (w' : World) (hf : Fr No (w.alloc (.cells #[.int .u8 k1, .string s1, .int .i64 n1, .slice aa1 mm1 cc1] 24)) w') => (show w'.cell? ⟨w.heap.size, 0, none⟩ = some (.int .u8 k1) ∧ w'.cell? ⟨w.heap.size, 1, none⟩ = some (.string s1) ∧ w'.cell? ⟨w.heap.size, 2, none⟩ = some (.int .i64 n1) ∧ w'.cell? ⟨w.heap.size, 3, none⟩ = some (.slice aa1 mm1 cc1) from ⟨hf.cell (cell_of hbx 0), hf.cell (cell_of hbx 1), hf.cell (cell_of hbx 2), hf.cell (cell_of hbx 3)⟩)
  have HC := Lib.hid hcx
  clear hcx hbx
  go_enter Try.func34, Try.ntmps34
  go_wp2_with fail
  refine (H1.out _ (Fr.alloc w _)).mono ?_
  rintro e w1 ⟨rfl, hf1⟩
  obtain ⟨c0, c1, c2, c3⟩ := HC.out w1 hf1
  have HF1 := Lib.hid ((Fr.alloc w _).then hf1)
  clear hf1
  cases hr : right t with
  | true =>
    have HRT := Lib.hid hr
    clear hr
    go_wp2_with fail
    refine (H2.out _ HF1.out).mono ?_
    rintro e w2 ⟨rfl, hf2⟩
    have HF2 := Lib.hid (HF1.out.then hf2)
    clear hf2
    go_wp2_with fail
    go_ret
    refine ⟨?_, HF2.out⟩
    rw [HM.out, HRT.out]
    rfl
  | false =>
    have HRT := Lib.hid hr
    clear hr
    go_wp2_with fail
    go_ret
    refine ⟨?_, HF1.out⟩
    rw [HM.out, HRT.out]
    rfl
set_option maxHeartbeats 1000000 in
theorem may_nil (v : Value) (hv : ∃ x0 x1 x2 x3, v = .agg #[x0, x1, x2, x3]) (w : World) : Calls Try.prog 34 #[.pointer none, v] w (SaidT w false) := by
  obtain ⟨x0, x1, x2, x3, rfl⟩ := hv
  go_enter Try.func34, Try.ntmps34
  go_wp2_with fail
  go_ret
  exact ⟨rfl, Fr.alloc w _⟩
theorem may_good {many : Nat} {t : T} : may many t = true ↔ Good many t := by simp [may, Good]
end Go.Proofs.Ytfjddfcndammdaa
