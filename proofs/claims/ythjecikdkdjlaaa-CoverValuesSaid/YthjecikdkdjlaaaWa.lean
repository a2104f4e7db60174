/- wild; a head's sort; a row's last pattern and the rest; the info of a constructor. -/
import Derived.Test.YthjecikdkdjlaaaKids
import Derived.Test.YthjecikdkdjlaaaFind
namespace Go.Proofs.Ythjecikdkdjlaaa
open Go.RowKit

set_option maxHeartbeats 1000000 in
theorem wild_any (base : Nat) (t : T) (v : Value) (w : World) (hi : IsT base w t v) : Calls Try.prog 28 #[v] w (SaidT w (isWild t)) := by
  obtain ⟨x0, x1, x2, x3, rfl⟩ := is_agg hi
  obtain ⟨k, s, n, a, m, c, rfl, rfl, rfl, rfl⟩ := is_cells hi
  obtain ⟨l, rfl, _, _⟩ := is_mk hi
  have HE : Hid (isWild (.mk k s n l) = (decide (k = 1) || decide (k = 2))) := Lib.hid rfl
  clear hi
  by_cases h1 : k = 1
  · have hb : ((k : Int) == 1) = true := by simp [h1]
    have HR : Hid (isWild (.mk k s n l) = true) := Lib.hid (by rw [HE.out]; simp [h1])
    clear h1 HE
    go_enter Try.func28, Try.ntmps28
    go_wp2_with fail
    go_ret
    exact ⟨by rw [HR.out]; rfl, Fr.alloc w _⟩
  · have hb : ((k : Int) == 1) = false := by simp only [beq_eq_false_iff_ne, ne_eq]; omega
    by_cases h2 : k = 2
    · have hb2 : ((k : Int) == 2) = true := by simp [h2]
      have HR : Hid (isWild (.mk k s n l) = true) := Lib.hid (by rw [HE.out]; simp [h2])
      clear h1 h2 HE
      go_enter Try.func28, Try.ntmps28
      go_wp2_with fail
      go_ret
      exact ⟨by rw [HR.out]; rfl, Fr.alloc w _⟩
    · have hb2 : ((k : Int) == 2) = false := by simp only [beq_eq_false_iff_ne, ne_eq]; omega
      have HR : Hid (isWild (.mk k s n l) = false) := Lib.hid (by rw [HE.out]; simp [h1, h2])
      clear h1 h2 HE
      go_enter Try.func28, Try.ntmps28
      go_wp2_with fail
      go_ret
      exact ⟨by rw [HR.out]; rfl, Fr.alloc w _⟩
set_option maxHeartbeats 1000000 in
theorem last_any (base : Nat) (l : List T) (p : T) (hl : l.getLast? = some p) (hn : l.length ≤ 1152921504606846976) (v : Value) (w : World) (hr : RowV base w v l) : Calls Try.prog 35 #[v] w fun e w' => ∃ u, e = .returned u ∧ IsT base w' p u ∧ Fr No w w' := by
  obtain ⟨a, cap, rfl, hcap, hrow⟩ := hr
  obtain ⟨m, hm⟩ : ∃ m, l.length = m + 1 := ⟨l.length - 1, by
    cases l with
    | nil => cases hl
    | cons a r => simp⟩
  have hp : l[m]? = some p := by
    rw [List.getLast?_eq_getElem?, hm] at hl
    simpa using hl
  obtain ⟨b, off, c0, c1, c2, c3, rfl, _, _, d0, d1, d2, d3, his⟩ := Row.at_ 0 l hrow m p hp
  rw [Nat.zero_add] at d0 d1 d2 d3
  obtain ⟨k, s, n, a, m', c, rfl, rfl, rfl, rfl⟩ := is_cells his
  have HIS := Lib.hid his
  rw [hm] at hn ⊢
  have hF := Fr.alloc w (.cells #[.int .u8 0, .string ⟨#[]⟩, .int .i64 0, .slice none 0 0] 40)
  have e0 := hF.cell d0
  have e1 := hF.cell d1
  have e2 := hF.cell d2
  have e3 := hF.cell d3
  have hk1 : ((m + 1 : Nat) : Int) - 1 = m := by omega
  clear his hrow hl hp hm d0 d1 d2 d3 hF
  go_enter Try.func35, Try.ntmps35
  go_wp2_with fail
  (try simp only [Exit.inBlock, Exit.then])
  refine bodyPost_ret (results_ty rfl _ _ w.heap.size _ rfl rfl (new_block w _)) rfl ?_
  exact ⟨_, rfl, HIS.out.no (Fr.alloc w _), Fr.alloc w _⟩
theorem row_take {base : Nat} {ok : Nat → Prop} {w : World} {a : Option Addr} : ∀ (i : Nat) (l m : List T), Row base ok w a i (l ++ m) → Row base ok w a i l
  | _, [], _, _ => by simp [Row]
  | i, t :: r, m, h => by
    simp only [List.cons_append, Row] at h ⊢
    exact ⟨h.1, row_take (i + 1) r m h.2⟩
set_option maxHeartbeats 1000000 in
theorem rest_any (base : Nat) (l : List T) (p : T) (hn : l.length + 1 ≤ 1152921504606846976) (v : Value) (w : World) (hr : RowV base w v (l ++ [p])) : Calls Try.prog 38 #[v] w fun e w' => ∃ a, e = .returned (.slice a l.length l.length) ∧ Row base (fun _ => True) w a 0 l ∧ w' = w := by
  obtain ⟨a, cap, rfl, hcap, hrow⟩ := hr
  obtain ⟨b, off, c0, c1, c2, c3, rfl, _, _, d0, d1, d2, d3, his⟩ := Row.at_ 0 (l ++ [p]) hrow l.length p (by simp)
  obtain ⟨m, hm⟩ : ∃ m, l.length = m := ⟨_, rfl⟩
  have hR := Lib.hid (row_take 0 l [p] hrow)
  rw [List.length_append, hm] at hcap
  rw [List.length_append, hm]
  rw [hm] at hn
  have hcap2 : m ≤ cap := by simp at hcap; omega
  show Calls Try.prog 38 #[.slice (some ⟨b, off, none⟩) (m + 1) cap] w _
  have hk1 : ((m + 1 : Nat) : Int) - 1 = m := by omega
  clear his hrow hm d0 d1 d2 d3 hcap
  go_enter Try.func38, Try.ntmps38
  go_wp2_with fail
  go_ret
  exact ⟨_, rfl, hR.out, rfl⟩
set_option maxHeartbeats 1000000 in
theorem sort_any (h : Hd) (w : World) : Calls Try.prog 32 #[hdV h] w (SaidV w (hdV h.sort)) := by
  obtain ⟨k, n, m, s, o⟩ := h
  simp only [hdV, Hd.sort]
  have HB := Lib.hid (new_block (w.alloc (.cells #[.int .u8 k, .int .i64 n, .int .i64 m, .string s, .string o] 66)) (.cells #[.int .u8 k, .int .i64 0, .int .i64 m, .string ⟨#[]⟩, .string o] 66))
  rw [size_alloc] at HB
  go_enter Try.func32, Try.ntmps32
  go_wp2_with fail
  (try simp only [Exit.inBlock, Exit.then])
  refine bodyPost_ret (results_cell_row rfl _ _ (w.heap.size + 1) 66 _ (0, 0) _ rfl HB.out Try.underlying66 rfl (by kernel_rfl)) rfl ?_
  exact ⟨rfl, (Fr.alloc w _).then (Fr.alloc _ _)⟩
end Go.Proofs.Ythjecikdkdjlaaa
