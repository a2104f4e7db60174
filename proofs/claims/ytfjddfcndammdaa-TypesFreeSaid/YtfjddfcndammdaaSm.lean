/- New books, new unknowns; types of a few parts. -/
import Derived.Test.YtfjddfcndammdaaBind
import Derived.Test.YtfjddfcndammdaaWh
import Derived.Carry
namespace Go.Proofs.Ytfjddfcndammdaa
open Go.RowKit

def zeroT : T := .mk 0 ⟨#[]⟩ 0 []
def varT (n : Int) : T := .mk 1 ⟨#[]⟩ n []
def conT (s : ByteArray) (l : List T) : T := .mk 2 s 0 l
def funT (a b : T) : T := .mk 3 ⟨#[]⟩ 0 [a, b]
theorem is_none {B0 : Nat} {ok : Nat → Prop} {w : World} (k : Nat) (s : ByteArray) (n : Int) : Is B0 ok w (.mk k s n []) (.agg #[.int .u8 k, .string s, .int .i64 n, .slice none 0 0]) := by
  simp only [Is]
  exact ⟨none, 0, rfl, by simp [Row]⟩
set_option maxHeartbeats 1000000 in
theorem new_any (w : World) : Calls Try.prog 29 #[] w fun e w' => ∃ g, e = .returned (.pointer (some ⟨g, 0, none⟩)) ∧ Bk w.heap.size w' g 0 [] ∧ Fr No w w' := by
  have hmm := @run_makeMap Try.prog
  go_enter Try.func29, Try.ntmps29
  go_wp2_with fail
  go_ret
  refine ⟨w.heap.size + 1, rfl, ⟨w.heap.size, .slice none 0 0, .map [], ?_, by omega, by omega, ?_, fun n => ⟨fun _ => rfl, fun t h => by cases h⟩, ⟨rfl, .inl ⟨rfl, rfl⟩⟩⟩, (Fr.alloc w _).then (Fr.alloc _ _)⟩
  · have h := new_block (w.alloc (.map #[] 0)) (.cells #[.int .i64 0, .map (some w.heap.size), .slice none 0 0] 61)
    rw [size_alloc] at h
    exact h
  · exact map_fr (World.ownsMap_made w Try.prog 3 Rv) (Fr.alloc _ _) no_one
set_option maxHeartbeats 1000000 in
theorem var_any (n : Int) (w : World) : Calls Try.prog 16 #[.int .i64 n] w fun e w' => e = .returned (.agg #[.int .u8 1, .string ⟨#[]⟩, .int .i64 n, .slice none 0 0]) ∧ Fr No w w' := by
  go_enter Try.func16, Try.ntmps16
  go_wp2_with fail
  (try simp only [Exit.inBlock, Exit.then])
  refine bodyPost_ret (results_ty rfl _ _ w.heap.size _ rfl rfl (new_block w _)) rfl ?_
  exact ⟨rfl, Fr.alloc w _⟩
set_option maxHeartbeats 1000000 in
theorem con_any (s : ByteArray) (a : Option Addr) (m c : Nat) (w : World) : Calls Try.prog 30 #[.string s, .slice a m c] w fun e w' => e = .returned (.agg #[.int .u8 2, .string s, .int .i64 0, .slice a m c]) ∧ Fr No w w' := by
  go_enter Try.func30, Try.ntmps30
  go_wp2_with fail
  (try simp only [Exit.inBlock, Exit.then])
  refine bodyPost_ret (results_ty rfl _ _ w.heap.size _ rfl rfl (new_block w _)) rfl ?_
  exact ⟨rfl, Fr.alloc w _⟩
set_option maxHeartbeats 1000000 in
theorem kids_any (k : Nat) (s : ByteArray) (n : Int) (a0 : Option Addr) (m0 c0 : Nat) (a : Option Addr) (m c : Nat) (w : World) : Calls Try.prog 39 #[.agg #[.int .u8 k, .string s, .int .i64 n, .slice a0 m0 c0], .slice a m c] w fun e w' => e = .returned (.agg #[.int .u8 k, .string s, .int .i64 n, .slice a m c]) ∧ Fr No w w' := by
  go_enter Try.func39, Try.ntmps39
  go_wp2_with fail
  (try simp only [Exit.inBlock, Exit.then])
  refine bodyPost_ret (results_ty rfl _ _ (w.heap.size + 1) _ rfl rfl (by
    have h := new_block (w.alloc (.cells #[.int .u8 k, .string s, .int .i64 n, .slice a0 m0 c0] 24)) (.cells #[.int .u8 k, .string s, .int .i64 n, .slice a m c] 24)
    rw [size_alloc] at h
    exact h)) rfl ?_
  exact ⟨rfl, (Fr.alloc w _).then (Fr.alloc _ _)⟩
set_option maxHeartbeats 1000000 in
theorem fresh_nil (w : World) : Calls Try.prog 21 #[.pointer none] w fun e w' => e = .returned (.agg #[.int .u8 0, .string ⟨#[]⟩, .int .i64 0, .slice none 0 0]) ∧ Fr No w w' := by
  go_enter Try.func21, Try.ntmps21
  go_wp2_with fail
  (try simp only [Exit.inBlock, Exit.then])
  refine bodyPost_ret (results_ty rfl _ _ w.heap.size _ rfl rfl (new_block w _)) rfl ?_
  exact ⟨rfl, Fr.alloc w _⟩
set_option maxHeartbeats 1000000 in
theorem fresh_any (base g many : Nat) (hm : many ≤ 4096) (l : Bs) (w : World) (hb : Bk base w g many l) : Calls Try.prog 21 #[.pointer (some ⟨g, 0, none⟩)] w fun e w' => e = .returned (.agg #[.int .u8 1, .string ⟨#[]⟩, .int .i64 many, .slice none 0 0]) ∧ Bk base w' g (many + 1) l ∧ Fb base w w' := by
  obtain ⟨mb, tr, D, h1, h2, h3, h4, h5, h6⟩ := hb
  have hA := keep_alloc h1
  have c0 := fun o => cell_of (hA o) 0
  have f0 := fun o => free_of (hA o) 0
  have HB := Lib.hid (And.intro h1 (And.intro h2 (And.intro h3 (And.intro h5 h6))))
  have HO := Lib.hid h4
  have hlt := lt_of_block h1
  have hne : ¬ w.heap.size = g := by omega
  have q := cell_of (block_setCell h1 0 (.int .i64 ((many : Int) + 1))) 0
  have q' : ∀ o, ((w.setCell ⟨g, 0, none⟩ (.int .i64 ((many : Int) + 1))).alloc o).cell? ⟨g, 0, none⟩ = some (.int .i64 ((many : Int) + 1)) := fun o => cell_of (keep_alloc (block_setCell h1 0 (.int .i64 ((many : Int) + 1))) o) 0
  clear h1 h2 h3 h4 h5 h6 hA q
  go_enter Try.func21, Try.ntmps21
  go_wp2_with fail
  (try simp only [Exit.inBlock, Exit.then])
  refine bodyPost_ret (results_ty rfl _ _ w.heap.size _ rfl rfl (by
    have h := new_block (w.setCell ⟨g, 0, none⟩ (.int .i64 ((many : Int) + 1))) (.cells #[.int .u8 1, .string ⟨#[]⟩, .int .i64 many, .slice none 0 0] 24)
    rw [show (w.setCell ⟨g, 0, none⟩ (.int .i64 ((many : Int) + 1))).heap.size = w.heap.size by simp [World.setCell]] at h
    exact h)) rfl ?_
  obtain ⟨h1, h2, h3, h5, h6⟩ := HB.out
  have h4 := HO.out
  have hset := Fr.setCell w ⟨g, 0, none⟩ (.int .i64 ((many : Int) + 1))
  have hfb : Fb base w (w.setCell ⟨g, 0, none⟩ (.int .i64 ((many : Int) + 1))) := Fb.cell61 h1 h2 _
  have hbk : Bk base (w.setCell ⟨g, 0, none⟩ (.int .i64 ((many : Int) + 1))) g (many + 1) l := by
    refine ⟨mb, tr, D, block_setCell h1 0 _, h2, h3, map_fr h4 hset (fun e => ?_), fun n => ?_, owns_fr h6 hset (fun b hb e => ?_)⟩
    · obtain ⟨es, clock, hb, _⟩ := h4
      rw [show mb = g from e, h1] at hb
      cases hb
    · refine ⟨(h5 n).1, fun x hx => ?_⟩
      obtain ⟨q1, v, q2, q3⟩ := (h5 n).2 x hx
      exact ⟨q1, v, q2, q3.fb hfb⟩
    · obtain ⟨_, cs, h7⟩ := own_three h6 hb
      rw [show b = g from e, h1] at h7
      simp at h7
  exact ⟨rfl, hbk.no (Fr.alloc _ _), hfb.then (Fr.alloc _ _)⟩
set_option maxHeartbeats 1000000 in
theorem fun_any (base : Nat) (ta tb : T) (va vb : Value) (w : World) (ha : IsT base w ta va) (hb : IsT base w tb vb) : Calls Try.prog 31 #[va, vb] w fun e w' => ∃ v', e = .returned v' ∧ IsT base w' (funT ta tb) v' ∧ Fr No w w' := by
  obtain ⟨x0, x1, x2, x3, rfl⟩ := is_agg ha
  obtain ⟨k1, s1, n1, a1, m1, c1, rfl, rfl, rfl, rfl⟩ := is_cells ha
  obtain ⟨x0, x1, x2, x3, rfl⟩ := is_agg hb
  obtain ⟨k2, s2, n2, a2, m2, c2, rfl, rfl, rfl, rfl⟩ := is_cells hb
  have HAB := Lib.hid (And.intro ha hb)
  clear ha hb
  go_enter Try.func31, Try.ntmps31
  go_wp2_with fail
  (try simp only [Exit.inBlock, Exit.then])
  have hF : Fr No w (((w.alloc (.cells #[.int .u8 k1, .string s1, .int .i64 n1, .slice a1 m1 c1] 24)).alloc (.cells #[.int .u8 k2, .string s2, .int .i64 n2, .slice a2 m2 c2] 24)).alloc (.cells #[.int .u8 3, .string ⟨#[]⟩, .int .i64 0, .slice (some ⟨w.heap.size + 1 + 1 + 1, 0, none⟩) 2 2] 24)) := ((Fr.alloc w _).then (Fr.alloc _ _)).then (Fr.alloc _ _)
  have hr := new_block ((w.alloc (.cells #[.int .u8 k1, .string s1, .int .i64 n1, .slice a1 m1 c1] 24)).alloc (.cells #[.int .u8 k2, .string s2, .int .i64 n2, .slice a2 m2 c2] 24)) (.cells #[.int .u8 3, .string ⟨#[]⟩, .int .i64 0, .slice (some ⟨w.heap.size + 1 + 1 + 1, 0, none⟩) 2 2] 24)
  rw [size_alloc, size_alloc] at hr
  have hk := new_block (((w.alloc (.cells #[.int .u8 k1, .string s1, .int .i64 n1, .slice a1 m1 c1] 24)).alloc (.cells #[.int .u8 k2, .string s2, .int .i64 n2, .slice a2 m2 c2] 24)).alloc (.cells #[.int .u8 3, .string ⟨#[]⟩, .int .i64 0, .slice (some ⟨w.heap.size + 1 + 1 + 1, 0, none⟩) 2 2] 24)) (.cells #[.int .u8 k1, .string s1, .int .i64 n1, .slice a1 m1 c1, .int .u8 k2, .string s2, .int .i64 n2, .slice a2 m2 c2] 24)
  rw [size_alloc, size_alloc, size_alloc] at hk
  refine bodyPost_ret (results_ty rfl _ _ (w.heap.size + 1 + 1) _ rfl rfl (keep_alloc hr _)) rfl ?_
  have hF2 := hF.then (Fr.alloc _ (.cells #[.int .u8 k1, .string s1, .int .i64 n1, .slice a1 m1 c1, .int .u8 k2, .string s2, .int .i64 n2, .slice a2 m2 c2] 24))
  refine ⟨_, rfl, ?_, hF2⟩
  simp only [IsT, funT, Is]
  refine ⟨some ⟨w.heap.size + 1 + 1 + 1, 0, none⟩, 2, rfl, ?_⟩
  simp only [Row]
  exact ⟨⟨_, _, _, _, _, _, rfl, trivial, .inr ⟨_, _, hk⟩, cell_of hk 0, cell_of hk 1, cell_of hk 2, cell_of hk 3, HAB.out.1.no hF2⟩, ⟨_, _, _, _, _, _, rfl, trivial, .inr ⟨_, _, hk⟩, cell_of hk 4, cell_of hk 5, cell_of hk 6, cell_of hk 7, HAB.out.2.no hF2⟩, trivial⟩
end Go.Proofs.Ytfjddfcndammdaa
