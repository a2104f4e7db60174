/- The two books that a law makes, of so many unknowns. -/
import Derived.Test.YtfjddfcndammdaaWorks
namespace Go.Proofs.Ytfjddfcndammdaa
open Go.RowKit

def RBk (w : World) (g n : Nat) : Prop := w.heap[g]? = some (.cells #[.int .i64 n, .slice none 0 0] 69 (0, 0))
set_option maxHeartbeats 1000000 in
theorem rnew_any (w : World) : Calls Try.prog 32 #[] w fun e w' => ∃ g, e = .returned (.pointer (some ⟨g, 0, none⟩)) ∧ RBk w' g 0 ∧ w.heap.size ≤ g ∧ Fr No w w' := by
  go_enter Try.func32, Try.ntmps32
  go_wp2_with fail
  go_ret
  exact ⟨w.heap.size, rfl, new_block w _, Nat.le_refl _, Fr.alloc w _⟩
set_option maxHeartbeats 2000000 in
theorem rfresh_any (g n : Nat) (hn : n ≤ 4096) (w : World) (hb : RBk w g n) : Calls Try.prog 33 #[.pointer (some ⟨g, 0, none⟩)] w fun e w' => (∃ v, e = .returned v) ∧ RBk w' g (n + 1) ∧ Fr (Just g) w w' := by
  have hA := keep_alloc hb
  have c0 := fun o => cell_of (hA o) 0
  have f0 := fun o => free_of (hA o) 0
  have hlt := lt_of_block hb
  have hne : ¬ w.heap.size = g := by omega
  have HB := Lib.hid hb
  have q' : ∀ o, ((w.setCell ⟨g, 0, none⟩ (.int .i64 ((n : Int) + 1))).alloc o).cell? ⟨g, 0, none⟩ = some (.int .i64 ((n : Int) + 1)) := fun o => cell_of (keep_alloc (block_setCell hb 0 (.int .i64 ((n : Int) + 1))) o) 0
  clear hb hA
  go_enter Try.func33, Try.ntmps33
  go_wp2_with fail
  refine (var_any n _).mono ?_
  rintro e w2 ⟨rfl, hf2⟩
  have hz := new_block (w.setCell ⟨g, 0, none⟩ (.int .i64 ((n : Int) + 1))) (.cells #[.int .u8 0, .string ⟨#[]⟩, .int .i64 0, .slice none 0 0] 24)
  rw [show (w.setCell ⟨g, 0, none⟩ (.int .i64 ((n : Int) + 1))).heap.size = w.heap.size by simp [World.setCell]] at hz
  have R1 := Lib.hid (hf2.keeps hz no_one)
  have RB := Lib.hid (hf2.keeps (keep_alloc (block_setCell HB.out 0 (.int .i64 ((n : Int) + 1))) (.cells #[.int .u8 0, .string ⟨#[]⟩, .int .i64 0, .slice none 0 0] 24)) no_one)
  have HF := Lib.hid (((Fr.setCell w ⟨g, 0, none⟩ (.int .i64 ((n : Int) + 1))).then (Fr.alloc _ (.cells #[.int .u8 0, .string ⟨#[]⟩, .int .i64 0, .slice none 0 0] 24))).then hf2)
  obtain ⟨⟨z0, z1, z2, z3⟩, y0, y1, y2, y3⟩ := z24 R1.out
  clear hz hf2 q' c0 f0
  go_wp2_with fail
  (try simp only [Exit.inBlock, Exit.then])
  refine bodyPost_ret (results_ty rfl _ _ w.heap.size _ rfl rfl (four_block R1.out _ _ _ _)) rfl ?_
  refine ⟨⟨_, rfl⟩, (fr_four w2 w.heap.size _ _ _ _).keeps RB.out (fun e => by rw [show g = w.heap.size from e] at hlt; omega), ?_⟩
  exact HF.out.trans (fr_four w2 w.heap.size _ _ _ _) (fun i hi e => by rw [show i = w.heap.size from e] at hi; omega)
/-- two books of n % 12 unknowns -/
def BooksSaid (w : World) (m : Nat) (e : Ending) (w' : World) : Prop := ∃ g gr, e = .returned (.tuple #[.pointer (some ⟨g, 0, none⟩), .pointer (some ⟨gr, 0, none⟩)]) ∧ Bk w.heap.size w' g m [] ∧ Fr No w w'
set_option maxHeartbeats 2000000 in
theorem books_any (n m : Nat) (hm : n % 12 = m) (hn : n < 256) (w : World) : Calls Try.prog 10 #[.int .u8 n] w (BooksSaid w m) := by
  obtain ⟨base, hbase⟩ : ∃ base, w.heap.size = base := ⟨_, rfl⟩
  have HBASE := Lib.hid hbase
  have hm12 : m < 12 := by omega
  have hrem : ((n : Int)).tmod 12 = (m : Int) := by rw [Int.tmod_eq_emod_of_nonneg (by omega)]; omega
  clear hbase hm
  go_enter Try.func10, Try.ntmps10
  go_wp2_with fail
  refine (new_any w).mono ?_
  rintro e w1 ⟨g, rfl, hb1, hf1⟩
  rw [HBASE.out] at hb1
  have HB1 := Lib.hid hb1
  have HF1 : Hid (Fb base w w1) := Lib.hid (Fb.ofNo hf1)
  clear hb1 hf1
  go_wp2_with fail
  refine (rnew_any w1).mono ?_
  rintro e w2 ⟨gr, rfl, hr2, hgr, hf2⟩
  have hbgr : base ≤ gr := by have := HF1.out.size; have := HBASE.out; omega
  have HB2 := Lib.hid (HB1.out.no hf2)
  have HR2 := Lib.hid hr2
  have HF2 : Hid (Fr No w w2) := Lib.hid (Fb.new (HF1.out.then hf2) (Nat.le_of_eq HBASE.out))
  clear hf2 hr2 hgr HF1 HB1
  go_wp2_with fail
  go_loopw [6] (fun i wr => ∃ q : Nat, q ≤ m ∧ i = .int .i64 q ∧ Hid (Bk base wr g q []) ∧ Hid (RBk wr gr q) ∧ Hid (Fr No w wr)) (fun i _ => m - (intOf i).toNat)
  case atStart => exact ⟨0, Nat.zero_le _, rfl, HB2, HR2, HF2⟩
  case round =>
    obtain ⟨q, hq, rfl, HB, HR, HF⟩ := hrel
    by_cases hqm : q = m
    · subst hqm
      go_wp2_with fail
      (try simp only [Exit.inBlock, Exit.then])
      refine bodyPost_ret (results_tmp2 rfl _ _ _) rfl ?_
      exact ⟨g, gr, rfl, by rw [HBASE.out]; exact HB.out, HF.out⟩
    · have hlt : (q : Int) < (m : Int) := by omega
      go_wp2_with fail
      refine (fresh_any base g q (by omega) [] wr HB.out).mono ?_
      rintro e w3 ⟨rfl, hb3, hf3⟩
      have HB3 := Lib.hid hb3
      have HR3 : Hid (RBk w3 gr q) := Lib.hid (hf3.keeps HR.out (by simp [Bobj]))
      have HF3 : Hid (Fr No w w3) := Lib.hid (HF.out.own hf3 (fun i h => by rw [HBASE.out]; exact h.1))
      clear hb3 hf3
      go_wp2_with fail
      refine (rfresh_any gr q (by omega) w3 HR3.out).mono ?_
      rintro e w4 ⟨⟨v4, rfl⟩, hr4, hf4⟩
      have HB4 : Hid (Bk base w4 g (q + 1) []) := Lib.hid (HB3.out.own hf4 (fun k e => by rw [show k = gr from e, HR3.out]; exact ⟨by simp [Bobj], hbgr⟩) (fun k cs z e => by rw [show k = gr from e, HR3.out]; simp))
      have HR4 := Lib.hid hr4
      have HF4 : Hid (Fr No w w4) := Lib.hid (HF3.out.own hf4 (fun i e => by rw [show i = gr from e, HBASE.out]; exact hbgr))
      clear hr4 hf4 HB3 HR3 HF3 HB HR HF
      go_wp2_with fail
      exact ⟨⟨q + 1, by omega, by go_num, HB4, HR4, HF4⟩, by simp [intOf]; omega⟩
end Go.Proofs.Ytfjddfcndammdaa
