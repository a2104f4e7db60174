/- Copies of types; types with others in the place of unknowns. -/
import Derived.Test.YtfjddfcndammdaaWg
namespace Go.Proofs.Ytfjddfcndammdaa
open Go.RowKit

mutual
theorem walkT_id : ∀ t : T, walkT (fun _ => some none) t = some t
  | .mk k s n l => by
    simp only [walkT, walkL_id l, Option.map_some]
    split <;> rfl
theorem walkL_id : ∀ l : List T, walkL (fun _ => some none) l = some l
  | [] => rfl
  | t :: r => by simp only [walkL, walkT_id t, walkL_id r]
end
theorem enters50 (args : Array Value) (u : World) : Sem.run Try.prog (callFunc 50 args) u = .ok (.enter 50 args) u := by kernel_rfl
theorem enters47 (args : Array Value) (u : World) : Sem.run Try.prog (callFunc 47 args) u = .ok (.enter 47 args) u := by kernel_rfl
theorem z24 {w : World} {g : Nat} (h : w.heap[g]? = some (.cells #[.int .u8 0, .string ⟨#[]⟩, .int .i64 0, .slice none 0 0] 24 (0, 0))) :
    (w.cell? ⟨g, 0, none⟩ = some (.int .u8 0) ∧ w.cell? ⟨g, 1, none⟩ = some (.string ⟨#[]⟩) ∧ w.cell? ⟨g, 2, none⟩ = some (.int .i64 0) ∧ w.cell? ⟨g, 3, none⟩ = some (.slice none 0 0)) ∧
      (w.frozen? ⟨g, 0, none⟩ = false ∧ w.frozen? ⟨g, 1, none⟩ = false ∧ w.frozen? ⟨g, 2, none⟩ = false ∧ w.frozen? ⟨g, 3, none⟩ = false) :=
  ⟨⟨cell_of h 0, cell_of h 1, cell_of h 2, cell_of h 3⟩, free_of h 0, free_of h 1, free_of h 2, free_of h 3⟩
set_option maxHeartbeats 2000000 in
theorem stay_of (w0 : World) : Of (fun _ => some none) 50 #[] w0 := by
  intro n x w1 hs hf
  simp only [Option.some.injEq] at hs
  subst hs
  have hn := new_block w1 (.cells #[.int .u8 0, .string ⟨#[]⟩, .int .i64 0, .slice none 0 0] 24)
  show Calls Try.prog 50 #[.int .i64 n] w1 _
  go_enter Try.func50, Try.ntmps50
  go_wp2_with fail
  (try simp only [Exit.inBlock, Exit.then])
  refine bodyPost_ret (results_ty_tmp rfl _ _ _ _ rfl (ty_row _ _ _ rfl (new_block w1 _))) rfl ?_
  exact ⟨0, ⟨#[]⟩, 0, none, 0, 0, rfl, (fun y h => nomatch h), (Fr.alloc w1 _)⟩
set_option maxHeartbeats 2000000 in
theorem copied_any (t : T) (ht : parts t ≤ 1048576) (B0 : Nat) (ok : Nat → Prop) (v : Value) (w : World) (hi : Is B0 ok w t v) : Calls Try.prog 36 #[v] w (MadeT w t) := by
  have HC := Lib.hid (fun w' (hf : Fr No w w') => walk_any (fun _ => some none) 50 #[] enters50 (parts t) t t (Nat.le_refl _) ht (walkT_id t) B0 ok v w' (hi.no hf) (stay_of w'))
  obtain ⟨x0, x1, x2, x3, rfl⟩ := is_agg hi
  obtain ⟨k1, s1, n1, aa1, mm1, cc1, rfl, rfl, rfl, rfl⟩ := is_cells hi
  clear hi
  have hb0 := new_block (w.alloc (.cells #[.int .u8 k1, .string s1, .int .i64 n1, .slice aa1 mm1 cc1] 24)) (.cells #[.int .u8 0, .string ⟨#[]⟩, .int .i64 0, .slice none 0 0] 24)
  rw [size_alloc] at hb0
  have HB0 := Lib.hid hb0
  clear hb0
  go_enter Try.func36, Try.ntmps36
  go_wp2_with fail
  refine (HC.out _ ((Fr.alloc w _).then (Fr.alloc _ _))).mono ?_
  rintro e w2 ⟨v2, rfl, his2, hf2⟩
  obtain ⟨y0, y1, y2, y3, rfl⟩ := is_agg his2
  obtain ⟨k2, s2, n2, aa2, mm2, cc2, rfl, rfl, rfl, rfl⟩ := is_cells his2
  have R1 := Lib.hid (hf2.keeps HB0.out no_one)
  obtain ⟨⟨z0, z1, z2, z3⟩, y0, y1, y2, y3⟩ := z24 R1.out
  have HIS := Lib.hid (his2.mono (ok' := fun b => w.heap.size + 1 < b) (fun b hb => by rw [size_alloc, size_alloc] at hb; omega))
  have HF := Lib.hid (((Fr.alloc w _).then (Fr.alloc _ _)).then hf2)
  clear his2 hf2
  go_wp2_with fail
  (try simp only [Exit.inBlock, Exit.then])
  refine bodyPost_ret (results_ty rfl _ _ (w.heap.size + 1) _ rfl rfl (four_block R1.out _ _ _ _)) rfl ?_
  exact ⟨_, rfl, made_close (Nat.le_succ _) HF.out HIS.out _ _ _ _⟩
/-- what Put puts -/
def putF (l : List T) (n : Int) : Option (Option T) := some (if 0 ≤ n then l[n.toNat]? else none)
mutual
/-- types with others in the place of unknowns -/
def putT (l : List T) : T → T
  | .mk k s n r => if k = 1 ∧ 0 ≤ n ∧ n < l.length then l.getD n.toNat (.mk k s n (putL l r)) else .mk k s n (putL l r)
def putL (l : List T) : List T → List T
  | [] => []
  | t :: r => putT l t :: putL l r
end
mutual
theorem walk_put (l : List T) : ∀ t : T, walkT (putF l) t = some (putT l t)
  | .mk k s n r => by
    simp only [walkT, walk_putL l r, Option.map_some, putT, putF]
    by_cases hk : k = 1
    · by_cases h0 : 0 ≤ n
      · by_cases hn : n < l.length
        · have h1 : n.toNat < l.length := by omega
          simp [hk, h0, hn, List.getElem?_eq_getElem h1]
        · have h1 : l.length ≤ n.toNat := by omega
          simp [hk, h0, hn, List.getElem?_eq_none h1]
      · simp [hk, h0]
    · simp [hk]
theorem walk_putL (l : List T) : ∀ r : List T, walkL (putF l) r = some (putL l r)
  | [] => rfl
  | t :: r => by simp only [walkL, walk_put l t, walk_putL l r, putL]
end
set_option maxHeartbeats 2000000 in
/-- the function that Put hands in: its cell holds the row -/
theorem put_of (l : List T) (m : Nat) (hl : l.length = m) (hp : ∀ t ∈ l, parts t ≤ 1048576) (B0 : Nat) (ok : Nat → Prop) (a : Option Addr) (cap c : Nat) (w0 : World) (hrow : Row B0 ok w0 a 0 l)
    (hc : w0.cell? ⟨c, 0, none⟩ = some (.slice a m cap)) : Of (putF l) 47 #[.pointer (some ⟨c, 0, none⟩)] w0 := by
  intro n x w1 hs hf
  have hx : x = (if 0 ≤ n then l[n.toNat]? else none) := by
    simp only [putF, Option.some.injEq] at hs
    exact hs.symm
  have hrw := Row.keep (Stays.of_no hf) (fun _ h => h) a 0 l hrow
  have hc1 := hf.cell hc
  have hcA := (Fr.alloc w1 (.cells #[.int .u8 0, .string ⟨#[]⟩, .int .i64 0, .slice none 0 0] 24)).cell hc1
  have hb0 := new_block w1 (.cells #[.int .u8 0, .string ⟨#[]⟩, .int .i64 0, .slice none 0 0] 24)
  have HB0 := Lib.hid hb0
  have HL := Lib.hid hl
  show Calls Try.prog 47 #[.int .i64 n, .pointer (some ⟨c, 0, none⟩)] w1 _
  clear hs hf hrow hc hl hb0
  by_cases h0 : 0 ≤ n
  · obtain ⟨q, rfl⟩ : ∃ q : Nat, n = q := ⟨n.toNat, by omega⟩
    rw [if_pos h0, Int.toNat_natCast] at hx
    by_cases hqm : q < m
    · have ht : l[q]? = some (l[q]'(by rw [HL.out]; exact hqm)) := List.getElem?_eq_getElem _
      obtain ⟨b, off, x0, x1, x2, x3, rfl, _, _, d0, d1, d2, d3, his⟩ := Row.at_ 0 l hrw q _ ht
      rw [Nat.zero_add] at d0 d1 d2 d3
      have hpq := hp _ (List.getElem_mem (by rw [HL.out]; exact hqm))
      rw [ht] at hx
      subst hx
      generalize l[q]'(by rw [HL.out]; exact hqm) = t at his hpq
      have HC := Lib.hid (fun w' (hf : Fr No w1 w') => copied_any t hpq B0 ok _ w' (his.no hf))
      obtain ⟨k1, s1, n1, aa1, mm1, cc1, rfl, rfl, rfl, rfl⟩ := is_cells his
      have f0 := (Fr.alloc w1 (.cells #[.int .u8 0, .string ⟨#[]⟩, .int .i64 0, .slice none 0 0] 24)).cell d0
      have f1 := (Fr.alloc w1 (.cells #[.int .u8 0, .string ⟨#[]⟩, .int .i64 0, .slice none 0 0] 24)).cell d1
      have f2 := (Fr.alloc w1 (.cells #[.int .u8 0, .string ⟨#[]⟩, .int .i64 0, .slice none 0 0] 24)).cell d2
      have f3 := (Fr.alloc w1 (.cells #[.int .u8 0, .string ⟨#[]⟩, .int .i64 0, .slice none 0 0] 24)).cell d3
      have k0 : (0 : Int) ≤ (q : Int) := h0
      have k1' : (q : Int) < (m : Int) := by omega
      clear his hpq hrw ht d0 d1 d2 d3 hc1 h0
      go_enter Try.func47, Try.ntmps47
      go_wp2_with fail
      refine (HC.out _ (Fr.alloc w1 _)).mono ?_
      rintro e w2 ⟨v2, rfl, his2, hf2⟩
      obtain ⟨y0, y1, y2, y3, rfl⟩ := is_agg his2
      obtain ⟨k2, s2, n2, aa2, mm2, cc2, rfl, rfl, rfl, rfl⟩ := is_cells his2
      have R1 := Lib.hid (hf2.keeps HB0.out no_one)
      obtain ⟨⟨z0, z1, z2, z3⟩, y0, y1, y2, y3⟩ := z24 R1.out
      have HIS := Lib.hid (his2.mono (ok' := fun b => w1.heap.size < b) (fun b hb => by rw [size_alloc] at hb; omega))
      have HF := Lib.hid ((Fr.alloc w1 _).then hf2)
      clear his2 hf2
      go_wp2_with fail
      (try simp only [Exit.inBlock, Exit.then])
      refine bodyPost_ret (results_ty_tmp rfl _ _ _ _ rfl (ty_row _ _ _ rfl (four_block R1.out _ _ _ _))) rfl ?_
      obtain ⟨h1, h2⟩ := made_close (Nat.le_refl _) HF.out HIS.out (.int .u8 k2) (.string s2) (.int .i64 n2) (.slice aa2 mm2 cc2)
      exact ⟨_, _, _, _, _, _, rfl, (fun y hy => by cases hy; exact h1), h2⟩
    · rw [List.getElem?_eq_none (by rw [HL.out]; omega)] at hx
      subst hx
      have k0 : (0 : Int) ≤ (q : Int) := h0
      have kd : decide ((q : Int) < 0) = false := by simp
      have kg : decide ((m : Int) ≤ (q : Int)) = true := by simp; omega
      clear hrw h0
      go_enter Try.func47, Try.ntmps47
      go_wp2_with fail
      (try simp only [Exit.inBlock, Exit.then])
      refine bodyPost_ret (results_ty_tmp rfl _ _ _ _ rfl (ty_row _ _ _ rfl (new_block w1 _))) rfl ?_
      exact ⟨0, ⟨#[]⟩, 0, none, 0, 0, rfl, (fun y h => nomatch h), (Fr.alloc w1 _)⟩
  · rw [if_neg h0] at hx
    subst hx
    have kd : decide (n < 0) = true := by simp; omega
    have kn : n < 0 := by omega
    clear hrw h0
    go_enter Try.func47, Try.ntmps47
    go_wp2_with fail
    (try simp only [Exit.inBlock, Exit.then])
    refine bodyPost_ret (results_ty_tmp rfl _ _ _ _ rfl (ty_row _ _ _ rfl (new_block w1 _))) rfl ?_
    exact ⟨0, ⟨#[]⟩, 0, none, 0, 0, rfl, (fun y h => nomatch h), (Fr.alloc w1 _)⟩
end Go.Proofs.Ytfjddfcndammdaa
