/- What a pattern begins with. -/
import Derived.Test.YthjecikdkdjlaaaWc
namespace Go.Proofs.Ythjecikdkdjlaaa
open Go.RowKit

theorem hd_row {w : World} {g : Nat} {cs : Array Value} (hs : cs.size = 5) (hb : w.heap[g]? = some (.cells cs 66 (0, 0))) : True := trivial
set_option maxHeartbeats 4000000 in
theorem head_any (base : Nat) (is : List Inf) (gc : Nat) (t : T) (v : Value) (w : World) (hc : Chk w gc is) (hi : IsT base w t v) : Calls Try.prog 31 #[.pointer (some ⟨gc, 0, none⟩), v] w (SaidV w (hdV (hdOf is t))) := by
  obtain ⟨x0, x1, x2, x3, rfl⟩ := is_agg hi
  obtain ⟨k, s, n, a, m, c, rfl, rfl, rfl, rfl⟩ := is_cells hi
  obtain ⟨l, rfl, hlm, _⟩ := is_mk hi
  have HIN := Lib.hid (fun w' (hf : Fr No w w') => info_any is gc s w' (hc.no hf))
  have HE : Hid (hdV (hdOf is (.mk k s n l)) = .agg #[.int .u8 k, .int .i64 (if k = 3 then n else 0), .int .i64 (if k = 5 then (m : Int) else 0), .string (if k = 6 then s else ⟨#[]⟩), .string (if k = 6 then (infoOf is s).of else ⟨#[]⟩)]) := Lib.hid (by subst hlm; rfl)
  obtain ⟨V, hV⟩ : ∃ V, hdV (hdOf is (.mk k s n l)) = V := ⟨_, rfl⟩
  rw [hV] at HE ⊢
  clear hi hc hlm hV
  obtain ⟨w0, hw0⟩ : ∃ w0, w0 = ((w.alloc (.cells #[.int .u8 k, .string s, .int .i64 n, .slice a m c] 40)).alloc (.cells #[.int .u8 0, .int .i64 0, .int .i64 0, .string ⟨#[]⟩, .string ⟨#[]⟩] 66)).alloc (.cells #[.int .u8 k, .int .i64 0, .int .i64 0, .string ⟨#[]⟩, .string ⟨#[]⟩] 66) := ⟨_, rfl⟩
  have r0 : Hid (w0.heap[w.heap.size]? = some (.cells #[.int .u8 k, .string s, .int .i64 n, .slice a m c] 40 (0, 0))) := Lib.hid (by rw [hw0]; exact keep_alloc (keep_alloc (new_block w _) _) _)
  have r1 : Hid (w0.heap[w.heap.size + 1]? = some (.cells #[.int .u8 0, .int .i64 0, .int .i64 0, .string ⟨#[]⟩, .string ⟨#[]⟩] 66 (0, 0))) := Lib.hid (by
    have h := new_block (w.alloc (.cells #[.int .u8 k, .string s, .int .i64 n, .slice a m c] 40)) (.cells #[.int .u8 0, .int .i64 0, .int .i64 0, .string ⟨#[]⟩, .string ⟨#[]⟩] 66)
    rw [size_alloc] at h
    rw [hw0]
    exact keep_alloc h _)
  have r2 : Hid (w0.heap[w.heap.size + 1 + 1]? = some (.cells #[.int .u8 k, .int .i64 0, .int .i64 0, .string ⟨#[]⟩, .string ⟨#[]⟩] 66 (0, 0))) := Lib.hid (by
    have h := new_block ((w.alloc (.cells #[.int .u8 k, .string s, .int .i64 n, .slice a m c] 40)).alloc (.cells #[.int .u8 0, .int .i64 0, .int .i64 0, .string ⟨#[]⟩, .string ⟨#[]⟩] 66)) (.cells #[.int .u8 k, .int .i64 0, .int .i64 0, .string ⟨#[]⟩, .string ⟨#[]⟩] 66)
    rw [size_alloc, size_alloc] at h
    rw [hw0]
    exact h)
  have HF0 : Hid (Fr No w w0) := Lib.hid (by rw [hw0]; exact ((Fr.alloc w _).then (Fr.alloc _ _)).then (Fr.alloc _ _))
  go_enter Try.func31, Try.ntmps31
  go_upto_region 2 with fail
  rw [← hw0]
  obtain ⟨g0, hg0⟩ : ∃ g0, w.heap.size = g0 := ⟨_, rfl⟩
  obtain ⟨g1, hg1⟩ : ∃ g1, g0 + 1 = g1 := ⟨_, rfl⟩
  obtain ⟨g2, hg2⟩ : ∃ g2, g1 + 1 = g2 := ⟨_, rfl⟩
  rw [hg0] at r0 r1 r2 ⊢
  rw [hg1] at r1 r2 ⊢
  rw [hg2] at r2 ⊢
  have hgs : w.heap.size ≤ g1 ∧ w.heap.size ≤ g2 := by omega
  have hne : ¬ g2 = g1 ∧ ¬ g1 = g2 ∧ ¬ g2 = g0 ∧ ¬ g1 = g0 := by omega
  clear hw0 hg0 hg1 hg2
  have c0 : w0.cell? ⟨g0, 0, none⟩ = some (.int .u8 k) := cell_of r0.out 0
  have c1 : w0.cell? ⟨g0, 1, none⟩ = some (.string s) := cell_of r0.out 1
  have c2 : w0.cell? ⟨g0, 2, none⟩ = some (.int .i64 n) := cell_of r0.out 2
  have c3 : w0.cell? ⟨g0, 3, none⟩ = some (.slice a m c) := cell_of r0.out 3
  obtain ⟨d0, d1, d2, d3, d4⟩ : w0.cell? ⟨g2, 0, none⟩ = some (.int .u8 k) ∧ w0.cell? ⟨g2, 1, none⟩ = some (.int .i64 0) ∧ w0.cell? ⟨g2, 2, none⟩ = some (.int .i64 0) ∧ w0.cell? ⟨g2, 3, none⟩ = some (.string ⟨#[]⟩) ∧ w0.cell? ⟨g2, 4, none⟩ = some (.string ⟨#[]⟩) := ⟨cell_of r2.out 0, cell_of r2.out 1, cell_of r2.out 2, cell_of r2.out 3, cell_of r2.out 4⟩
  obtain ⟨z0, z1, z2, z3, z4⟩ : w0.cell? ⟨g1, 0, none⟩ = some (.int .u8 0) ∧ w0.cell? ⟨g1, 1, none⟩ = some (.int .i64 0) ∧ w0.cell? ⟨g1, 2, none⟩ = some (.int .i64 0) ∧ w0.cell? ⟨g1, 3, none⟩ = some (.string ⟨#[]⟩) ∧ w0.cell? ⟨g1, 4, none⟩ = some (.string ⟨#[]⟩) := ⟨cell_of r1.out 0, cell_of r1.out 1, cell_of r1.out 2, cell_of r1.out 3, cell_of r1.out 4⟩
  obtain ⟨y0, y1, y2, y3, y4⟩ : w0.frozen? ⟨g1, 0, none⟩ = false ∧ w0.frozen? ⟨g1, 1, none⟩ = false ∧ w0.frozen? ⟨g1, 2, none⟩ = false ∧ w0.frozen? ⟨g1, 3, none⟩ = false ∧ w0.frozen? ⟨g1, 4, none⟩ = false := ⟨free_of r1.out 0, free_of r1.out 1, free_of r1.out 2, free_of r1.out 3, free_of r1.out 4⟩
  obtain ⟨x1, x2, x3, x4⟩ : w0.frozen? ⟨g2, 1, none⟩ = false ∧ w0.frozen? ⟨g2, 2, none⟩ = false ∧ w0.frozen? ⟨g2, 3, none⟩ = false ∧ w0.frozen? ⟨g2, 4, none⟩ = false := ⟨free_of r2.out 1, free_of r2.out 2, free_of r2.out 3, free_of r2.out 4⟩
  by_cases h3 : k = 3
  · have HV : Hid (V = .agg #[.int .u8 k, .int .i64 n, .int .i64 0, .string ⟨#[]⟩, .string ⟨#[]⟩]) := Lib.hid (by rw [HE.out]; simp [h3])
    have hb3 : ((k : Int) == 3) = true := by simp only [beq_iff_eq]; omega
    clear h3 HE
    go_wp2_with fail
    (try simp only [Exit.inBlock, Exit.then])
    have R1 : Hid ((w0.setCell ⟨g2, 1, none⟩ (.int .i64 n)).heap[g1]? = some (.cells #[.int .u8 0, .int .i64 0, .int .i64 0, .string ⟨#[]⟩, .string ⟨#[]⟩] 66 (0, 0))) := Lib.hid ((Fr.setCell w0 _ _).keeps r1.out (fun e => hne.2.1 e))
    refine bodyPost_ret (results_cell_row rfl _ _ g1 66 _ (0, 0) _ rfl (five_block R1.out _ _ _ _ _) Try.underlying66 rfl (by kernel_rfl)) rfl ?_
    refine ⟨by rw [HV.out], (HF0.out.own (Fr.setCell w0 _ _) (fun i e => by rw [show i = g2 from e]; exact hgs.2)).own (fr_five _ g1 _ _ _ _ _) (fun i e => by rw [show i = g1 from e]; exact hgs.1)⟩
  by_cases h5 : k = 5
  · have HV : Hid (V = .agg #[.int .u8 k, .int .i64 0, .int .i64 (m : Int), .string ⟨#[]⟩, .string ⟨#[]⟩]) := Lib.hid (by rw [HE.out]; simp [h5])
    have hb3 : ((k : Int) == 3) = false := by simp only [beq_eq_false_iff_ne, ne_eq]; omega
    have hb5 : ((k : Int) == 5) = true := by simp only [beq_iff_eq]; omega
    clear h3 h5 HE
    go_wp2_with fail
    (try simp only [Exit.inBlock, Exit.then])
    have R1 : Hid ((w0.setCell ⟨g2, 2, none⟩ (.int .i64 (m : Int))).heap[g1]? = some (.cells #[.int .u8 0, .int .i64 0, .int .i64 0, .string ⟨#[]⟩, .string ⟨#[]⟩] 66 (0, 0))) := Lib.hid ((Fr.setCell w0 _ _).keeps r1.out (fun e => hne.2.1 e))
    refine bodyPost_ret (results_cell_row rfl _ _ g1 66 _ (0, 0) _ rfl (five_block R1.out _ _ _ _ _) Try.underlying66 rfl (by kernel_rfl)) rfl ?_
    refine ⟨by rw [HV.out], (HF0.out.own (Fr.setCell w0 _ _) (fun i e => by rw [show i = g2 from e]; exact hgs.2)).own (fr_five _ g1 _ _ _ _ _) (fun i e => by rw [show i = g1 from e]; exact hgs.1)⟩
  by_cases h6 : k = 6
  · have hb3 : ((k : Int) == 3) = false := by simp only [beq_eq_false_iff_ne, ne_eq]; omega
    have hb5 : ((k : Int) == 5) = false := by simp only [beq_eq_false_iff_ne, ne_eq]; omega
    have hb6 : ((k : Int) == 6) = true := by simp only [beq_iff_eq]; omega
    obtain ⟨x, hx⟩ : ∃ x, infoOf is s = x := ⟨_, rfl⟩
    have HIX := Lib.hid (fun w' hf => (HIN.out w' hf).mono (fun e w2 (h : InfoSaid w' is s e w2) => (show e = .returned (.tuple #[infV x, .bool (findI is s).isSome]) ∧ Fr No w' w2 from hx ▸ h)))
    have HV : Hid (V = .agg #[.int .u8 k, .int .i64 0, .int .i64 0, .string s, .string x.of]) := Lib.hid (by rw [HE.out, hx]; simp [h6])
    obtain ⟨xa, xb, xc, xd, xe⟩ := x
    simp only [infV] at HIX
    clear hx HIN h3 h5 h6 HE
    go_wp2_with fail
    refine (HIX.out _ HF0.out).mono ?_
    rintro e w1 ⟨rfl, hf1⟩
    have HF1 : Hid (Fr No w0 w1) := Lib.hid hf1
    clear hf1 c0 c1 c2 c3 d0 d1 d2 d3 d4 z0 z1 z2 z3 z4 y0 y1 y2 y3 y4 x1 x2 x3 x4
    go_upto_region 9 with fail
    obtain ⟨w2, hw2⟩ : ∃ w2, w1.alloc (.cells #[.string xa, .string xb, .int .i64 xc, .int .i64 xd, .bool xe] 30) = w2 := ⟨_, rfl⟩
    obtain ⟨g3, hg3⟩ : ∃ g3, w1.heap.size = g3 := ⟨_, rfl⟩
    have hR3 : w2.heap[g3]? = some (.cells #[.string xa, .string xb, .int .i64 xc, .int .i64 xd, .bool xe] 30 (0, 0)) := by rw [← hw2, ← hg3]; exact new_block w1 _
    have HF2 : Hid (Fr No w0 w2) := Lib.hid (by rw [← hw2]; exact HF1.out.then (Fr.alloc _ _))
    have hg32 : ¬ g2 = g3 ∧ ¬ g3 = g2 ∧ ¬ g1 = g3 ∧ ¬ g3 = g1 := by
      have h1 := lt_of_block (HF1.out.keeps r2.out no_one)
      have h2 := lt_of_block (HF1.out.keeps r1.out no_one)
      omega
    rw [hw2, hg3]
    clear hw2 hg3
    have R1 : Hid (w2.heap[g1]? = some (.cells #[.int .u8 0, .int .i64 0, .int .i64 0, .string ⟨#[]⟩, .string ⟨#[]⟩] 66 (0, 0))) := Lib.hid (HF2.out.keeps r1.out no_one)
    have R2 : Hid (w2.heap[g2]? = some (.cells #[.int .u8 k, .int .i64 0, .int .i64 0, .string ⟨#[]⟩, .string ⟨#[]⟩] 66 (0, 0))) := Lib.hid (HF2.out.keeps r2.out no_one)
    have c1 : w2.cell? ⟨g0, 1, none⟩ = some (.string s) := cell_of (HF2.out.keeps r0.out no_one) 1
    have e1 : w2.cell? ⟨g3, 1, none⟩ = some (.string xb) := cell_of hR3 1
    obtain ⟨d0, d1, d2, d3, d4⟩ : w2.cell? ⟨g2, 0, none⟩ = some (.int .u8 k) ∧ w2.cell? ⟨g2, 1, none⟩ = some (.int .i64 0) ∧ w2.cell? ⟨g2, 2, none⟩ = some (.int .i64 0) ∧ w2.cell? ⟨g2, 3, none⟩ = some (.string ⟨#[]⟩) ∧ w2.cell? ⟨g2, 4, none⟩ = some (.string ⟨#[]⟩) := ⟨cell_of R2.out 0, cell_of R2.out 1, cell_of R2.out 2, cell_of R2.out 3, cell_of R2.out 4⟩
    obtain ⟨x3, x4⟩ : w2.frozen? ⟨g2, 3, none⟩ = false ∧ w2.frozen? ⟨g2, 4, none⟩ = false := ⟨free_of R2.out 3, free_of R2.out 4⟩
    clear hR3
    go_region
    obtain ⟨z0, z1, z2, z3, z4⟩ : w2.cell? ⟨g1, 0, none⟩ = some (.int .u8 0) ∧ w2.cell? ⟨g1, 1, none⟩ = some (.int .i64 0) ∧ w2.cell? ⟨g1, 2, none⟩ = some (.int .i64 0) ∧ w2.cell? ⟨g1, 3, none⟩ = some (.string ⟨#[]⟩) ∧ w2.cell? ⟨g1, 4, none⟩ = some (.string ⟨#[]⟩) := ⟨cell_of R1.out 0, cell_of R1.out 1, cell_of R1.out 2, cell_of R1.out 3, cell_of R1.out 4⟩
    obtain ⟨y0, y1, y2, y3, y4⟩ : w2.frozen? ⟨g1, 0, none⟩ = false ∧ w2.frozen? ⟨g1, 1, none⟩ = false ∧ w2.frozen? ⟨g1, 2, none⟩ = false ∧ w2.frozen? ⟨g1, 3, none⟩ = false ∧ w2.frozen? ⟨g1, 4, none⟩ = false := ⟨free_of R1.out 0, free_of R1.out 1, free_of R1.out 2, free_of R1.out 3, free_of R1.out 4⟩
    have HW : Hid (Fr (Just g2) w2 ((w2.setCell ⟨g2, 3, none⟩ (.string s)).setCell ⟨g2, 4, none⟩ (.string xb)).drew) := Lib.hid (((Fr.setCell w2 ⟨g2, 3, none⟩ (.string s)).trans (Fr.setCell _ ⟨g2, 4, none⟩ (.string xb)) (fun _ _ h => h)).then (Fr.drew _))
    have R2' := Lib.hid ((Fr.drew _).keeps (block_setCell (block_setCell R2.out 3 (.string s)) 4 (.string xb)) no_one)
    have R1' := Lib.hid (HW.out.keeps R1.out (fun e => hne.2.1 e))
    obtain ⟨w3, hw3⟩ : ∃ w3, ((w2.setCell ⟨g2, 3, none⟩ (.string s)).setCell ⟨g2, 4, none⟩ (.string xb)).drew = w3 := ⟨_, rfl⟩
    rw [hw3] at HW R2' R1' ⊢
    clear hw3 d0 d1 d2 d3 d4 x3 x4 z0 z1 z2 z3 z4 y0 y1 y2 y3 y4 c1 e1
    obtain ⟨d0, d1, d2, d3, d4⟩ : w3.cell? ⟨g2, 0, none⟩ = some (.int .u8 k) ∧ w3.cell? ⟨g2, 1, none⟩ = some (.int .i64 0) ∧ w3.cell? ⟨g2, 2, none⟩ = some (.int .i64 0) ∧ w3.cell? ⟨g2, 3, none⟩ = some (.string s) ∧ w3.cell? ⟨g2, 4, none⟩ = some (.string xb) := ⟨cell_of R2'.out 0, cell_of R2'.out 1, cell_of R2'.out 2, cell_of R2'.out 3, cell_of R2'.out 4⟩
    obtain ⟨z0, z1, z2, z3, z4⟩ : w3.cell? ⟨g1, 0, none⟩ = some (.int .u8 0) ∧ w3.cell? ⟨g1, 1, none⟩ = some (.int .i64 0) ∧ w3.cell? ⟨g1, 2, none⟩ = some (.int .i64 0) ∧ w3.cell? ⟨g1, 3, none⟩ = some (.string ⟨#[]⟩) ∧ w3.cell? ⟨g1, 4, none⟩ = some (.string ⟨#[]⟩) := ⟨cell_of R1'.out 0, cell_of R1'.out 1, cell_of R1'.out 2, cell_of R1'.out 3, cell_of R1'.out 4⟩
    obtain ⟨y0, y1, y2, y3, y4⟩ : w3.frozen? ⟨g1, 0, none⟩ = false ∧ w3.frozen? ⟨g1, 1, none⟩ = false ∧ w3.frozen? ⟨g1, 2, none⟩ = false ∧ w3.frozen? ⟨g1, 3, none⟩ = false ∧ w3.frozen? ⟨g1, 4, none⟩ = false := ⟨free_of R1'.out 0, free_of R1'.out 1, free_of R1'.out 2, free_of R1'.out 3, free_of R1'.out 4⟩
    (try simp only [Exit.inBlock, Exit.then])
    go_wp2_with fail
    (try simp only [Exit.inBlock, Exit.then])
    refine bodyPost_ret (results_cell_row rfl _ _ g1 66 _ (0, 0) _ rfl (five_block R1'.out _ _ _ _ _) Try.underlying66 rfl (by kernel_rfl)) rfl ?_
    exact ⟨by rw [HV.out], ((HF0.out.then HF2.out).own HW.out (fun i e => by rw [show i = g2 from e]; exact hgs.2)).own (fr_five _ g1 _ _ _ _ _) (fun i e => by rw [show i = g1 from e]; exact hgs.1)⟩
  · have HV : Hid (V = .agg #[.int .u8 k, .int .i64 0, .int .i64 0, .string ⟨#[]⟩, .string ⟨#[]⟩]) := Lib.hid (by rw [HE.out]; simp [h3, h5, h6])
    have hb3 : ((k : Int) == 3) = false := by simp only [beq_eq_false_iff_ne, ne_eq]; omega
    have hb5 : ((k : Int) == 5) = false := by simp only [beq_eq_false_iff_ne, ne_eq]; omega
    have hb6 : ((k : Int) == 6) = false := by simp only [beq_eq_false_iff_ne, ne_eq]; omega
    clear h3 h5 h6 HE
    go_wp2_with fail
    (try simp only [Exit.inBlock, Exit.then])
    refine bodyPost_ret (results_cell_row rfl _ _ g1 66 _ (0, 0) _ rfl (five_block r1.out _ _ _ _ _) Try.underlying66 rfl (by kernel_rfl)) rfl ?_
    refine ⟨by rw [HV.out], HF0.out.own (fr_five w0 g1 _ _ _ _ _) (fun i e => by rw [show i = g1 from e]; exact hgs.1)⟩
end Go.Proofs.Ythjecikdkdjlaaa
