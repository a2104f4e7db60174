/- The law CoverFits: the walk. -/
import Derived.Test.YthjecikdkdjlaaaFq
import Derived.Test.YthjecikdkdjlaaaAn
import Derived.Test.YthjecikdkdjlaaaOp
import Derived.Deep.CutRange
import Derived.Deep.QuietTactic
import Derived.BigQuiet
namespace Go.Proofs.Ythjecikdkdjlaaa
open Go.RowKit

theorem row_lits {base : Nat} {ok : Nat → Prop} {w : World} {g : Nat} {cs : Array Value} (ps : List T) (hb : w.heap[g]? = some (.cells cs 40 (0, 0))) (hok : ok g)
    (h : ∀ (j : Nat) (t : T), ps[j]? = some t → ∃ c0 c1 c2 c3, cs[j * 4]? = some c0 ∧ cs[j * 4 + 1]? = some c1 ∧ cs[j * 4 + 2]? = some c2 ∧ cs[j * 4 + 3]? = some c3 ∧ Is base ok w t (.agg #[c0, c1, c2, c3])) : Row base ok w (some ⟨g, 0, none⟩) 0 ps :=
  Row.of_at 0 ps fun j t hj => by
    obtain ⟨c0, c1, c2, c3, h0, h1, h2, h3, h4⟩ := h j t hj
    refine ⟨g, 0, c0, c1, c2, c3, rfl, hok, .inr ⟨_, _, hb⟩, ?_, ?_, ?_, ?_, h4⟩ <;> rw [Nat.zero_add, Nat.zero_add, cell_of hb] <;> assumption
theorem row_own {base : Nat} {ok : Nat → Prop} {w : World} {g : Nat} {p : T} {x0 x1 x2 x3 : Value} (hb : w.heap[g]? = some (.cells #[x0, x1, x2, x3] 40 (0, 0))) (hok : ok g) (hi : Is base ok w p (.agg #[x0, x1, x2, x3])) : Row base ok w (some ⟨g, 0, none⟩) 0 [p] := by
  simp only [Row, and_true]
  exact ⟨g, 0, x0, x1, x2, x3, rfl, hok, .inr ⟨_, _, hb⟩, cell_of hb 0, cell_of hb 1, cell_of hb 2, cell_of hb 3, hi⟩
theorem row_own2 {base : Nat} {ok : Nat → Prop} {w : World} {g : Nat} {p q : T} {x0 x1 x2 x3 y0 y1 y2 y3 : Value} (hb : w.heap[g]? = some (.cells #[x0, x1, x2, x3, y0, y1, y2, y3] 40 (0, 0))) (hok : ok g) (hi : Is base ok w p (.agg #[x0, x1, x2, x3])) (hj : Is base ok w q (.agg #[y0, y1, y2, y3])) : Row base ok w (some ⟨g, 0, none⟩) 0 [p, q] := by
  simp only [Row, and_true]
  exact ⟨⟨g, 0, x0, x1, x2, x3, rfl, hok, .inr ⟨_, _, hb⟩, cell_of hb 0, cell_of hb 1, cell_of hb 2, cell_of hb 3, hi⟩, ⟨g, 0, y0, y1, y2, y3, rfl, hok, .inr ⟨_, _, hb⟩, cell_of hb 4, cell_of hb 5, cell_of hb 6, cell_of hb 7, hj⟩⟩
theorem row_own3 {base : Nat} {ok : Nat → Prop} {w : World} {g : Nat} {p q r : T} {x0 x1 x2 x3 y0 y1 y2 y3 z0 z1 z2 z3 : Value} (hb : w.heap[g]? = some (.cells #[x0, x1, x2, x3, y0, y1, y2, y3, z0, z1, z2, z3] 40 (0, 0))) (hok : ok g) (hi : Is base ok w p (.agg #[x0, x1, x2, x3])) (hj : Is base ok w q (.agg #[y0, y1, y2, y3])) (hk : Is base ok w r (.agg #[z0, z1, z2, z3])) : Row base ok w (some ⟨g, 0, none⟩) 0 [p, q, r] := by
  simp only [Row, and_true]
  exact ⟨⟨g, 0, x0, x1, x2, x3, rfl, hok, .inr ⟨_, _, hb⟩, cell_of hb 0, cell_of hb 1, cell_of hb 2, cell_of hb 3, hi⟩, ⟨g, 0, y0, y1, y2, y3, rfl, hok, .inr ⟨_, _, hb⟩, cell_of hb 4, cell_of hb 5, cell_of hb 6, cell_of hb 7, hj⟩, ⟨g, 0, z0, z1, z2, z3, rfl, hok, .inr ⟨_, _, hb⟩, cell_of hb 8, cell_of hb 9, cell_of hb 10, cell_of hb 11, hk⟩⟩
theorem is_row {base : Nat} {ok : Nat → Prop} {w : World} {a : Option Addr} {n c : Nat} {l : List T} (k : Nat) (s : ByteArray) (h : Row base ok w a 0 l) (hn : l.length = n) : Is base ok w (.mk k s 0 l) (.agg #[.int .u8 k, .string s, .int .i64 0, .slice a n c]) := by
  simp only [Is]
  exact ⟨a, c, by rw [hn], h⟩
/-- a pattern in a block of one's own -/
def Pt (base : Nat) (ok : Nat → Prop) (w : World) (g : Nat) (p : T) : Prop := ∃ (k : Nat) (s : ByteArray) (n : Int) (a : Option Addr) (m c : Nat), w.heap[g]? = some (.cells #[.int .u8 k, .string s, .int .i64 n, .slice a m c] 40 (0, 0)) ∧ Is base ok w p (.agg #[.int .u8 k, .string s, .int .i64 n, .slice a m c])
theorem is_keepS {base : Nat} {ok : Nat → Prop} {S : Nat → Prop} {w w' : World} {p : T} {v : Value} (h : Is base ok w p v) (hf : Fr S w w') (hs : ∀ b, ok b → ¬ S b) : Is base ok w' p v := h.keep (fun b hb ho _ => hf.block b hb (hs b ho)) (fun _ h => h)
theorem row_keepS {base : Nat} {ok : Nat → Prop} {S : Nat → Prop} {w w' : World} {a : Option Addr} {l : List T} (h : Row base ok w a 0 l) (hf : Fr S w w') (hs : ∀ b, ok b → ¬ S b) : Row base ok w' a 0 l := Row.keep (fun b hb ho _ => hf.block b hb (hs b ho)) (fun _ h => h) a 0 l h
theorem Pt.keep {base : Nat} {ok : Nat → Prop} {S : Nat → Prop} {w w' : World} {g : Nat} {p : T} (h : Pt base ok w g p) (hf : Fr S w w') (hg : ¬ S g) (hs : ∀ b, ok b → ¬ S b) : Pt base ok w' g p := by
  obtain ⟨k, s, n, a, m, c, h1, h2⟩ := h
  exact ⟨k, s, n, a, m, c, hf.keeps h1 hg, is_keepS h2 hf hs⟩
theorem Pt.no {base : Nat} {ok : Nat → Prop} {w w' : World} {g : Nat} {p : T} (h : Pt base ok w g p) (hf : Fr No w w') : Pt base ok w' g p := h.keep hf no_one (fun _ _ => no_one)
theorem wf_num (i : Int) (h : -1000 ≤ i ∧ i ≤ 1000) : (Lit.int .i64 i).wf = true := by
  have e1 : IntKind.i64.min = -9223372036854775808 := rfl
  have e2 : IntKind.i64.max = 9223372036854775807 := rfl
  simp only [Lit.wf, e1, e2]
  simp
  omega
theorem wf_mk18 {k : Nat} {s : ByteArray} {l : List T} (hk : k < 256) (hs : s.size ≤ 1000) (hl : l.length ≤ 1048576) (hw : wfL infos18 l) : wfP infos18 (.mk k s 0 l) := wfP_mk hk (small_of s hs) (by decide) hl of18 hw
theorem wf_eight : ∀ i, i < 8 → wfP infos18 (eightAt i) := by
  intro i hi
  have h8 : i = 0 ∨ i = 1 ∨ i = 2 ∨ i = 3 ∨ i = 4 ∨ i = 5 ∨ i = 6 ∨ i = 7 := by omega
  rcases h8 with rfl | rfl | rfl | rfl | rfl | rfl | rfl | rfl
  · exact wf_mk18 (by omega) (by decide) (by simp) trivial
  · exact wf_mk18 (by omega) (by decide) (by simp) trivial
  · exact wf_mk18 (by omega) (by decide) (by simp) ⟨wf_any18, wf_any18, trivial⟩
  · exact wf_mk18 (by omega) (by decide) (by simp) ⟨wf_any18, wf_any18, wf_any18, trivial⟩
  · exact wf_con18 (by decide) (by simp) trivial
  · exact wf_con18 (by decide) (by simp) trivial
  · exact wf_con18 (by decide) (by simp) trivial
  · exact wf_con18 (by decide) (by simp) ⟨wf_any18, trivial⟩
theorem wf_some : ∀ (n : Nat) {p : T}, wfP infos18 p → wfP infos18 (someN n p)
  | 0, _, h => h
  | n + 1, _, h => wf_con18 (by decide) (by simp) ⟨wf_some n h, trivial⟩
theorem wf_tup : ∀ (n : Nat) {p : T}, wfP infos18 p → wfP infos18 (tupN n p)
  | 0, _, h => h
  | n + 1, _, h => wf_mk18 (by omega) (by decide) (by simp) ⟨wf_any18, wf_tup n h, trivial⟩
theorem keep_new {w : World} {o : Obj} {p : Nat → Prop} {base : Nat} {ok : Nat → Prop} {g : Nat} {t : T} (h : Pt base ok w g t) : Pt base ok (w.alloc o) g t := h.no (Fr.alloc _ _)

theorem wrap_pt {base : Nat} {ok : Nat → Prop} {wr wB wC : World} {gA g : Nat} {p : T} {x0 x1 x2 x3 : Value} (hI : Is base ok wr p (.agg #[x0, x1, x2, x3])) (hA : wB.heap[gA]? = some (.cells #[x0, x1, x2, x3] 40 (0, 0))) (hf : Fr No wr wB)
    (hs : Fr (Just g) wB wC) (hC : wC.heap[g]? = some (.cells #[.int .u8 6, .string nSome, .int .i64 0, .slice (some ⟨gA, 0, none⟩) 1 1] 40 (0, 0))) (hg : ∀ b, ok b → b ≠ g) (hoA : ok gA) : Pt base ok wC g (conP nSome [p]) :=
  ⟨_, _, _, _, _, _, hC, is_row 6 _ (row_own (hs.keeps hA (hg gA hoA)) hoA (is_keepS (Is.no hI hf) hs hg)) rfl⟩
theorem wrap_tup {base : Nat} {ok : Nat → Prop} {wr wB wC : World} {gA g : Nat} {p : T} {x0 x1 x2 x3 : Value} (hI : Is base ok wr p (.agg #[x0, x1, x2, x3])) (hA : wB.heap[gA]? = some (.cells #[.int .u8 1, .string ⟨#[]⟩, .int .i64 0, .slice none 0 0, x0, x1, x2, x3] 40 (0, 0))) (hf : Fr No wr wB)
    (hs : Fr (Just g) wB wC) (hC : wC.heap[g]? = some (.cells #[.int .u8 5, .string ⟨#[]⟩, .int .i64 0, .slice (some ⟨gA, 0, none⟩) 2 2] 40 (0, 0))) (hg : ∀ b, ok b → b ≠ g) (hoA : ok gA) : Pt base ok wC g (.mk 5 ⟨#[]⟩ 0 [anyP, p]) :=
  ⟨_, _, _, _, _, _, hC, is_row 5 _ (row_own2 (hs.keeps hA (hg gA hoA)) hoA (is_none' 1 _ 0) (is_keepS (Is.no hI hf) hs hg)) rfl⟩
theorem four_cells {w : World} {g : Nat} {x0 x1 x2 x3 : Value} (y0 y1 y2 y3 : Value) (h : w.heap[g]? = some (.cells #[x0, x1, x2, x3] 40 (0, 0))) : ((((w.setCell ⟨g, 0, none⟩ y0).setCell ⟨g, 1, none⟩ y1).setCell ⟨g, 2, none⟩ y2).setCell ⟨g, 3, none⟩ y3).heap[g]? = some (.cells #[y0, y1, y2, y3] 40 (0, 0)) ∧
    Fr (Just g) w ((((w.setCell ⟨g, 0, none⟩ y0).setCell ⟨g, 1, none⟩ y1).setCell ⟨g, 2, none⟩ y2).setCell ⟨g, 3, none⟩ y3) :=
  ⟨block_setCell (block_setCell (block_setCell (block_setCell h 0 y0) 1 y1) 2 y2) 3 y3, (((Fr.setCell w ⟨g, 0, none⟩ y0).trans (Fr.setCell _ ⟨g, 1, none⟩ y1) fun _ _ (h : _ = g) => (h : Just g _)).trans (Fr.setCell _ ⟨g, 2, none⟩ y2) fun _ _ (h : _ = g) => (h : Just g _)).trans (Fr.setCell _ ⟨g, 3, none⟩ y3) fun _ _ (h : _ = g) => (h : Just g _)⟩
theorem eight_at {base : Nat} {w : World} {g7 g24 g29 g35 : Nat} (h24 : w.heap[g24]? = some (.cells #[.int .u8 1, .string ⟨#[]⟩, .int .i64 0, .slice none 0 0, .int .u8 1, .string ⟨#[]⟩, .int .i64 0, .slice none 0 0] 40 (0, 0))) (h29 : w.heap[g29]? = some (.cells #[.int .u8 1, .string ⟨#[]⟩, .int .i64 0, .slice none 0 0, .int .u8 1, .string ⟨#[]⟩, .int .i64 0, .slice none 0 0, .int .u8 1, .string ⟨#[]⟩, .int .i64 0, .slice none 0 0] 40 (0, 0))) (h35 : w.heap[g35]? = some (.cells #[.int .u8 1, .string ⟨#[]⟩, .int .i64 0, .slice none 0 0] 40 (0, 0)))
    (h7 : w.heap[g7]? = some (.cells #[.int .u8 3, .string ⟨#[]⟩, .int .i64 0, .slice none 0 0, .int .u8 4, .string ⟨#[]⟩, .int .i64 0, .slice none 0 0, .int .u8 5, .string ⟨#[]⟩, .int .i64 0, .slice (some ⟨g24, 0, none⟩) 2 2, .int .u8 5, .string ⟨#[]⟩, .int .i64 0, .slice (some ⟨g29, 0, none⟩) 3 3, .int .u8 6, .string ⟨#[116, 114, 117, 101]⟩, .int .i64 0, .slice none 0 0, .int .u8 6, .string ⟨#[78, 111, 110, 101]⟩, .int .i64 0, .slice none 0 0, .int .u8 6, .string ⟨#[69]⟩, .int .i64 0, .slice none 0 0, .int .u8 6, .string ⟨#[67, 111, 110, 115]⟩, .int .i64 0, .slice (some ⟨g35, 0, none⟩) 1 1] 40 (0, 0))) (q : Nat) (hq : q < 8) :
    ∃ (k : Nat) (s : ByteArray) (a : Option Addr) (m c : Nat), w.cell? ⟨g7, q * 4, none⟩ = some (.int .u8 k) ∧ w.cell? ⟨g7, q * 4 + 1, none⟩ = some (.string s) ∧ w.cell? ⟨g7, q * 4 + 2, none⟩ = some (.int .i64 0) ∧ w.cell? ⟨g7, q * 4 + 3, none⟩ = some (.slice a m c) ∧
      Is base (fun b => b = g24 ∨ b = g29 ∨ b = g35) w (eightAt q) (.agg #[.int .u8 k, .string s, .int .i64 0, .slice a m c]) := by
  have hc := fun i => cell_of h7 i
  have h8 : q = 0 ∨ q = 1 ∨ q = 2 ∨ q = 3 ∨ q = 4 ∨ q = 5 ∨ q = 6 ∨ q = 7 := by omega
  rcases h8 with rfl | rfl | rfl | rfl | rfl | rfl | rfl | rfl
  · exact ⟨_, _, _, _, _, hc 0, hc 1, hc 2, hc 3, is_none' 3 _ 0⟩
  · exact ⟨_, _, _, _, _, hc 4, hc 5, hc 6, hc 7, is_none' 4 _ 0⟩
  · exact ⟨_, _, _, _, _, hc 8, hc 9, hc 10, hc 11, is_row 5 _ (row_own2 h24 (.inl rfl) (is_none' 1 _ 0) (is_none' 1 _ 0)) rfl⟩
  · exact ⟨_, _, _, _, _, hc 12, hc 13, hc 14, hc 15, is_row 5 _ (row_own3 h29 (.inr (.inl rfl)) (is_none' 1 _ 0) (is_none' 1 _ 0) (is_none' 1 _ 0)) rfl⟩
  · exact ⟨_, _, _, _, _, hc 16, hc 17, hc 18, hc 19, is_none' 6 _ 0⟩
  · exact ⟨_, _, _, _, _, hc 20, hc 21, hc 22, hc 23, is_none' 6 _ 0⟩
  · exact ⟨_, _, _, _, _, hc 24, hc 25, hc 26, hc 27, is_none' 6 _ 0⟩
  · exact ⟨_, _, _, _, _, hc 28, hc 29, hc 30, hc 31, is_row 6 _ (row_own h35 (.inr (.inr rfl)) (is_none' 1 _ 0)) rfl⟩

theorem new_block2' (w : World) (o o2 : Obj) : ((w.alloc o).alloc o2).heap[w.heap.size + 1]? = some o2 := by
  rw [← size_alloc w o]
  exact new_block _ _
set_option maxHeartbeats 2000000 in
set_option maxRecDepth 100000 in
theorem fits_law_any (x : Int) (hx : (Lit.int .u8 x).wf = true) (y : Int) (hy : (Lit.int .u8 y).wf = true) (z : Int) (hz : (Lit.int .u8 z).wf = true) (w : World) :
    Calls Try.prog 8 #[.int .u8 x, .int .u8 y, .int .u8 z] w (SaidT w true) := by
  have HCK : Hid (∀ (l' : List T) (a' : Option Addr) (n' cap' g : Nat) (w' : World), l'.length = n' → partsL l' ≤ 1048576 → wfL infos18 l' → Row w.heap.size (fun _ => True) w' a' 0 l' → Infs w' (some ⟨g, 0, none⟩) infos18 → Fr No w w' → Calls Try.prog 11 #[.slice a' n' cap', .slice (some ⟨g, 0, none⟩) 8 8, .bool false] w' (SaidI w' (checkP infos18 l' false))) :=
    Lib.hid (fun l' a' n' cap' g w' h1 h2 h3 h4 h5 h6 => check_any w.heap.size infos18 l' n' cap' 8 8 a' _ false w' h1 rfl (by omega) (by omega) h3 h4 h5 h6.size)
  have hx0 : 0 ≤ x ∧ x ≤ 255 := by simpa [Lit.wf, IntKind.min, IntKind.max, IntKind.signed, IntKind.bits] using hx
  obtain ⟨xn, rfl⟩ : ∃ n : Nat, x = n := ⟨x.toNat, by omega⟩
  have hxn : xn ≤ 255 := by omega
  have hwx : IntKind.i64.wrap (xn : Int) = (xn : Int) := by rw [IntKind.wrap_i64]; omega
  have hy0 : 0 ≤ y ∧ y ≤ 255 := by simpa [Lit.wf, IntKind.min, IntKind.max, IntKind.signed, IntKind.bits] using hy
  obtain ⟨yn, rfl⟩ : ∃ n : Nat, y = n := ⟨y.toNat, by omega⟩
  have hyn : yn ≤ 255 := by omega
  have hwy : IntKind.i64.wrap (yn : Int) = (yn : Int) := by rw [IntKind.wrap_i64]; omega
  have hz0 : 0 ≤ z ∧ z ≤ 255 := by simpa [Lit.wf, IntKind.min, IntKind.max, IntKind.signed, IntKind.bits] using hz
  obtain ⟨zn, rfl⟩ : ∃ n : Nat, z = n := ⟨z.toNat, by omega⟩
  have hzn : zn ≤ 255 := by omega
  have hwz : IntKind.i64.wrap (zn : Int) = (zn : Int) := by rw [IntKind.wrap_i64]; omega
  obtain ⟨q1, hqq1⟩ : ∃ q, xn % 8 = q := ⟨_, rfl⟩
  have hq1 : q1 < 8 := by rw [← hqq1]; exact Nat.mod_lt _ (by omega)
  have hmq1 : Int.tmod (xn : Int) 8 = (q1 : Int) := by rw [← hqq1]; rfl
  have hwq1 : IntKind.i64.wrap (q1 : Int) = (q1 : Int) := by rw [IntKind.wrap_i64]; omega
  have hlq1 : (q1 : Int) < 8 := by omega
  obtain ⟨q2, hqq2⟩ : ∃ q, yn % 8 = q := ⟨_, rfl⟩
  have hq2 : q2 < 8 := by rw [← hqq2]; exact Nat.mod_lt _ (by omega)
  have hmq2 : Int.tmod (yn : Int) 8 = (q2 : Int) := by rw [← hqq2]; rfl
  have hwq2 : IntKind.i64.wrap (q2 : Int) = (q2 : Int) := by rw [IntKind.wrap_i64]; omega
  have hlq2 : (q2 : Int) < 8 := by omega
  obtain ⟨q3, hqq3⟩ : ∃ q, zn % 9 = q := ⟨_, rfl⟩
  have hq3 : q3 < 9 := by rw [← hqq3]; exact Nat.mod_lt _ (by omega)
  have hmq3 : Int.tmod (zn : Int) 9 = (q3 : Int) := by rw [← hqq3]; rfl
  have hwq3 : IntKind.i64.wrap (q3 : Int) = (q3 : Int) := by rw [IntKind.wrap_i64]; omega
  have hlq3 : (q3 : Int) < 9 := by omega
  clear hx hy hz hx0 hy0 hz0 hqq1 hqq2 hqq3
  have HE1 := Lib.hid (fits_e hq1 hq2 hq3)
  have HE2 := Lib.hid (fits_c hq3)
  have HE3 := Lib.hid fits_k
  go_enter Try.func8, Try.ntmps8
  go_wp2_with fail
  refine (wildf_any _).mono ?_
  rintro e w1 ⟨rfl, hf⟩
  have HFw1 : Hid (Fr No w w1) := Lib.hid ((Fr.refl _ _).then hf)
  have HDw1 : Hid (Fr No w w1) := Lib.hid hf
  clear hf
  go_wp2_with fail
  refine (wildf_any _).mono ?_
  rintro e w2 ⟨rfl, hf⟩
  have HFw2 : Hid (Fr No w w2) := Lib.hid (HFw1.out.then hf)
  have HDw2 : Hid (Fr No w1 w2) := Lib.hid hf
  clear hf
  go_wp2_with fail
  obtain ⟨w3, hn⟩ : ∃ w8, w2.alloc (.cells #[.int .u8 1, .string ⟨#[]⟩, .int .i64 0, .slice none 0 0, .int .u8 1, .string ⟨#[]⟩, .int .i64 0, .slice none 0 0] 40) = w8 := ⟨_, rfl⟩
  obtain ⟨g24, hg⟩ : ∃ g8, w2.heap.size = g8 := ⟨_, rfl⟩
  rw [hn, hg]
  have HFw3 : Hid (Fr No w w3) := Lib.hid (by rw [← hn]; exact HFw2.out.then (Fr.alloc _ _))
  have HDw3 : Hid (Fr No w2 w3) := Lib.hid (by rw [← hn]; exact Fr.alloc _ _)
  have R24' : Hid (w3.heap[g24]? = some (.cells #[.int .u8 1, .string ⟨#[]⟩, .int .i64 0, .slice none 0 0, .int .u8 1, .string ⟨#[]⟩, .int .i64 0, .slice none 0 0] 40 (0, 0))) := Lib.hid (by rw [← hn, ← hg]; exact new_block _ _)
  clear hn hg
  have R24 := R24'
  clear R24'
  refine (wildf_any _).mono ?_
  rintro e w4 ⟨rfl, hf⟩
  have HFw4 : Hid (Fr No w w4) := Lib.hid (HFw3.out.then hf)
  have HDw4 : Hid (Fr No w3 w4) := Lib.hid hf
  clear hf
  replace R24 := Lib.hid (HDw4.out.keeps R24.out no_one)
  go_wp2_with fail
  refine (wildf_any _).mono ?_
  rintro e w5 ⟨rfl, hf⟩
  have HFw5 : Hid (Fr No w w5) := Lib.hid (HFw4.out.then hf)
  have HDw5 : Hid (Fr No w4 w5) := Lib.hid hf
  clear hf
  replace R24 := Lib.hid (HDw5.out.keeps R24.out no_one)
  go_wp2_with fail
  refine (wildf_any _).mono ?_
  rintro e w6 ⟨rfl, hf⟩
  have HFw6 : Hid (Fr No w w6) := Lib.hid (HFw5.out.then hf)
  have HDw6 : Hid (Fr No w5 w6) := Lib.hid hf
  clear hf
  replace R24 := Lib.hid (HDw6.out.keeps R24.out no_one)
  go_wp2_with fail
  obtain ⟨w7, hn⟩ : ∃ w8, w6.alloc (.cells #[.int .u8 1, .string ⟨#[]⟩, .int .i64 0, .slice none 0 0, .int .u8 1, .string ⟨#[]⟩, .int .i64 0, .slice none 0 0, .int .u8 1, .string ⟨#[]⟩, .int .i64 0, .slice none 0 0] 40) = w8 := ⟨_, rfl⟩
  obtain ⟨g29, hg⟩ : ∃ g8, w6.heap.size = g8 := ⟨_, rfl⟩
  rw [hn, hg]
  have HFw7 : Hid (Fr No w w7) := Lib.hid (by rw [← hn]; exact HFw6.out.then (Fr.alloc _ _))
  have HDw7 : Hid (Fr No w6 w7) := Lib.hid (by rw [← hn]; exact Fr.alloc _ _)
  have R29' : Hid (w7.heap[g29]? = some (.cells #[.int .u8 1, .string ⟨#[]⟩, .int .i64 0, .slice none 0 0, .int .u8 1, .string ⟨#[]⟩, .int .i64 0, .slice none 0 0, .int .u8 1, .string ⟨#[]⟩, .int .i64 0, .slice none 0 0] 40 (0, 0))) := Lib.hid (by rw [← hn, ← hg]; exact new_block _ _)
  have L24_29 : g24 < g29 := by rw [← hg]; exact lt_of_block R24.out
  clear hn hg
  replace R24 := Lib.hid (HDw7.out.keeps R24.out no_one)
  have R29 := R29'
  clear R29'
  refine (con_any _ _ _ _ _).mono ?_
  rintro e w8 ⟨rfl, hf⟩
  have HFw8 : Hid (Fr No w w8) := Lib.hid (HFw7.out.then hf)
  have HDw8 : Hid (Fr No w7 w8) := Lib.hid hf
  clear hf
  replace R24 := Lib.hid (HDw8.out.keeps R24.out no_one)
  replace R29 := Lib.hid (HDw8.out.keeps R29.out no_one)
  go_wp2_with fail
  refine (con_any _ _ _ _ _).mono ?_
  rintro e w9 ⟨rfl, hf⟩
  have HFw9 : Hid (Fr No w w9) := Lib.hid (HFw8.out.then hf)
  have HDw9 : Hid (Fr No w8 w9) := Lib.hid hf
  clear hf
  replace R24 := Lib.hid (HDw9.out.keeps R24.out no_one)
  replace R29 := Lib.hid (HDw9.out.keeps R29.out no_one)
  go_wp2_with fail
  refine (con_any _ _ _ _ _).mono ?_
  rintro e w10 ⟨rfl, hf⟩
  have HFw10 : Hid (Fr No w w10) := Lib.hid (HFw9.out.then hf)
  have HDw10 : Hid (Fr No w9 w10) := Lib.hid hf
  clear hf
  replace R24 := Lib.hid (HDw10.out.keeps R24.out no_one)
  replace R29 := Lib.hid (HDw10.out.keeps R29.out no_one)
  go_wp2_with fail
  refine (wildf_any _).mono ?_
  rintro e w11 ⟨rfl, hf⟩
  have HFw11 : Hid (Fr No w w11) := Lib.hid (HFw10.out.then hf)
  have HDw11 : Hid (Fr No w10 w11) := Lib.hid hf
  clear hf
  replace R24 := Lib.hid (HDw11.out.keeps R24.out no_one)
  replace R29 := Lib.hid (HDw11.out.keeps R29.out no_one)
  go_wp2_with fail
  obtain ⟨w12, hn⟩ : ∃ w8, w11.alloc (.cells #[.int .u8 1, .string ⟨#[]⟩, .int .i64 0, .slice none 0 0] 40) = w8 := ⟨_, rfl⟩
  obtain ⟨g35, hg⟩ : ∃ g8, w11.heap.size = g8 := ⟨_, rfl⟩
  rw [hn, hg]
  have HFw12 : Hid (Fr No w w12) := Lib.hid (by rw [← hn]; exact HFw11.out.then (Fr.alloc _ _))
  have HDw12 : Hid (Fr No w11 w12) := Lib.hid (by rw [← hn]; exact Fr.alloc _ _)
  have R35' : Hid (w12.heap[g35]? = some (.cells #[.int .u8 1, .string ⟨#[]⟩, .int .i64 0, .slice none 0 0] 40 (0, 0))) := Lib.hid (by rw [← hn, ← hg]; exact new_block _ _)
  have L24_35 : g24 < g35 := by rw [← hg]; exact lt_of_block R24.out
  have L29_35 : g29 < g35 := by rw [← hg]; exact lt_of_block R29.out
  clear hn hg
  replace R24 := Lib.hid (HDw12.out.keeps R24.out no_one)
  replace R29 := Lib.hid (HDw12.out.keeps R29.out no_one)
  have R35 := R35'
  clear R35'
  refine (con_any _ _ _ _ _).mono ?_
  rintro e w13 ⟨rfl, hf⟩
  have HFw13 : Hid (Fr No w w13) := Lib.hid (HFw12.out.then hf)
  have HDw13 : Hid (Fr No w12 w13) := Lib.hid hf
  clear hf
  replace R24 := Lib.hid (HDw13.out.keeps R24.out no_one)
  replace R29 := Lib.hid (HDw13.out.keeps R29.out no_one)
  replace R35 := Lib.hid (HDw13.out.keeps R35.out no_one)
  go_upto_region 2 with fail
  obtain ⟨w14, hn⟩ : ∃ w8, w13.alloc (.cells #[.int .u8 3, .string ⟨#[]⟩, .int .i64 0, .slice none 0 0, .int .u8 4, .string ⟨#[]⟩, .int .i64 0, .slice none 0 0, .int .u8 5, .string ⟨#[]⟩, .int .i64 0, .slice (some ⟨g24, 0, none⟩) 2 2, .int .u8 5, .string ⟨#[]⟩, .int .i64 0, .slice (some ⟨g29, 0, none⟩) 3 3, .int .u8 6, .string ⟨#[116, 114, 117, 101]⟩, .int .i64 0, .slice none 0 0, .int .u8 6, .string ⟨#[78, 111, 110, 101]⟩, .int .i64 0, .slice none 0 0, .int .u8 6, .string ⟨#[69]⟩, .int .i64 0, .slice none 0 0, .int .u8 6, .string ⟨#[67, 111, 110, 115]⟩, .int .i64 0, .slice (some ⟨g35, 0, none⟩) 1 1] 40) = w8 := ⟨_, rfl⟩
  obtain ⟨g7, hg⟩ : ∃ g8, w13.heap.size = g8 := ⟨_, rfl⟩
  rw [hn, hg]
  have HFw14 : Hid (Fr No w w14) := Lib.hid (by rw [← hn]; exact HFw13.out.then (Fr.alloc _ _))
  have HDw14 : Hid (Fr No w13 w14) := Lib.hid (by rw [← hn]; exact Fr.alloc _ _)
  have R7' : Hid (w14.heap[g7]? = some (.cells #[.int .u8 3, .string ⟨#[]⟩, .int .i64 0, .slice none 0 0, .int .u8 4, .string ⟨#[]⟩, .int .i64 0, .slice none 0 0, .int .u8 5, .string ⟨#[]⟩, .int .i64 0, .slice (some ⟨g24, 0, none⟩) 2 2, .int .u8 5, .string ⟨#[]⟩, .int .i64 0, .slice (some ⟨g29, 0, none⟩) 3 3, .int .u8 6, .string ⟨#[116, 114, 117, 101]⟩, .int .i64 0, .slice none 0 0, .int .u8 6, .string ⟨#[78, 111, 110, 101]⟩, .int .i64 0, .slice none 0 0, .int .u8 6, .string ⟨#[69]⟩, .int .i64 0, .slice none 0 0, .int .u8 6, .string ⟨#[67, 111, 110, 115]⟩, .int .i64 0, .slice (some ⟨g35, 0, none⟩) 1 1] 40 (0, 0))) := Lib.hid (by rw [← hn, ← hg]; exact new_block _ _)
  have L24_7 : g24 < g7 := by rw [← hg]; exact lt_of_block R24.out
  have L29_7 : g29 < g7 := by rw [← hg]; exact lt_of_block R29.out
  have L35_7 : g35 < g7 := by rw [← hg]; exact lt_of_block R35.out
  clear hn hg
  replace R24 := Lib.hid (HDw14.out.keeps R24.out no_one)
  replace R29 := Lib.hid (HDw14.out.keeps R29.out no_one)
  replace R35 := Lib.hid (HDw14.out.keeps R35.out no_one)
  have R7 := R7'
  clear R7'
  obtain ⟨k8, s8, a8, m8, c8, d0, d1, d2, d3, hi⟩ := eight_at (base := w.heap.size) R24.out R29.out R35.out R7.out q1 hq1
  have HI8 := Lib.hid hi
  clear hi
  go_upto_region 3 with fail
  clear d0 d1 d2 d3
  obtain ⟨w15, hn⟩ : ∃ w8, w14.alloc (.cells #[.int .u8 k8, .string s8, .int .i64 0, .slice a8 m8 c8] 40) = w8 := ⟨_, rfl⟩
  obtain ⟨g8, hg⟩ : ∃ g8, w14.heap.size = g8 := ⟨_, rfl⟩
  rw [hn, hg]
  have HFw15 : Hid (Fr No w w15) := Lib.hid (by rw [← hn]; exact HFw14.out.then (Fr.alloc _ _))
  have HDw15 : Hid (Fr No w14 w15) := Lib.hid (by rw [← hn]; exact Fr.alloc _ _)
  have R8' : Hid (w15.heap[g8]? = some (.cells #[.int .u8 k8, .string s8, .int .i64 0, .slice a8 m8 c8] 40 (0, 0))) := Lib.hid (by rw [← hn, ← hg]; exact new_block _ _)
  have B8 : w.heap.size ≤ g8 := by rw [← hg]; exact HFw14.out.size
  have L24_8 : g24 < g8 := by rw [← hg]; exact lt_of_block R24.out
  have L29_8 : g29 < g8 := by rw [← hg]; exact lt_of_block R29.out
  have L35_8 : g35 < g8 := by rw [← hg]; exact lt_of_block R35.out
  have L7_8 : g7 < g8 := by rw [← hg]; exact lt_of_block R7.out
  clear hn hg
  replace R24 := Lib.hid (HDw15.out.keeps R24.out no_one)
  replace R29 := Lib.hid (HDw15.out.keeps R29.out no_one)
  replace R35 := Lib.hid (HDw15.out.keeps R35.out no_one)
  replace R7 := Lib.hid (HDw15.out.keeps R7.out no_one)
  replace HI8 := Lib.hid (Is.no HI8.out HDw15.out)
  have R8 := R8'
  clear R8'
  obtain ⟨k9, s9, a9, m9, c9, d0, d1, d2, d3, hi⟩ := eight_at (base := w.heap.size) R24.out R29.out R35.out R7.out q2 hq2
  have HI9 := Lib.hid hi
  clear hi
  go_upto_region 4 with fail
  clear d0 d1 d2 d3
  obtain ⟨w16, hn⟩ : ∃ w8, w15.alloc (.cells #[.int .u8 k9, .string s9, .int .i64 0, .slice a9 m9 c9] 40) = w8 := ⟨_, rfl⟩
  obtain ⟨g9, hg⟩ : ∃ g8, w15.heap.size = g8 := ⟨_, rfl⟩
  rw [hn, hg]
  have HFw16 : Hid (Fr No w w16) := Lib.hid (by rw [← hn]; exact HFw15.out.then (Fr.alloc _ _))
  have HDw16 : Hid (Fr No w15 w16) := Lib.hid (by rw [← hn]; exact Fr.alloc _ _)
  have R9' : Hid (w16.heap[g9]? = some (.cells #[.int .u8 k9, .string s9, .int .i64 0, .slice a9 m9 c9] 40 (0, 0))) := Lib.hid (by rw [← hn, ← hg]; exact new_block _ _)
  have L24_9 : g24 < g9 := by rw [← hg]; exact lt_of_block R24.out
  have L29_9 : g29 < g9 := by rw [← hg]; exact lt_of_block R29.out
  have L35_9 : g35 < g9 := by rw [← hg]; exact lt_of_block R35.out
  have L7_9 : g7 < g9 := by rw [← hg]; exact lt_of_block R7.out
  have L8_9 : g8 < g9 := by rw [← hg]; exact lt_of_block R8.out
  clear hn hg
  replace R24 := Lib.hid (HDw16.out.keeps R24.out no_one)
  replace R29 := Lib.hid (HDw16.out.keeps R29.out no_one)
  replace R35 := Lib.hid (HDw16.out.keeps R35.out no_one)
  replace R7 := Lib.hid (HDw16.out.keeps R7.out no_one)
  replace R8 := Lib.hid (HDw16.out.keeps R8.out no_one)
  replace HI8 := Lib.hid (Is.no HI8.out HDw16.out)
  replace HI9 := Lib.hid (Is.no HI9.out HDw16.out)
  have R9 := R9'
  clear R9'
  go_wp2_with fail
  refine (wildf_any _).mono ?_
  rintro e w17 ⟨rfl, hf⟩
  have HFw17 : Hid (Fr No w w17) := Lib.hid (HFw16.out.then hf)
  have HDw17 : Hid (Fr No w16 w17) := Lib.hid hf
  clear hf
  replace R24 := Lib.hid (HDw17.out.keeps R24.out no_one)
  replace R29 := Lib.hid (HDw17.out.keeps R29.out no_one)
  replace R35 := Lib.hid (HDw17.out.keeps R35.out no_one)
  replace R7 := Lib.hid (HDw17.out.keeps R7.out no_one)
  replace R8 := Lib.hid (HDw17.out.keeps R8.out no_one)
  replace R9 := Lib.hid (HDw17.out.keeps R9.out no_one)
  replace HI8 := Lib.hid (Is.no HI8.out HDw17.out)
  replace HI9 := Lib.hid (Is.no HI9.out HDw17.out)
  go_wp2_with fail
  obtain ⟨w18, hn⟩ : ∃ w8, w17.alloc (.cells #[.int .u8 1, .string ⟨#[]⟩, .int .i64 0, .slice none 0 0] 40) = w8 := ⟨_, rfl⟩
  obtain ⟨g55, hg⟩ : ∃ g8, w17.heap.size = g8 := ⟨_, rfl⟩
  rw [hn, hg]
  have HFw18 : Hid (Fr No w w18) := Lib.hid (by rw [← hn]; exact HFw17.out.then (Fr.alloc _ _))
  have HDw18 : Hid (Fr No w17 w18) := Lib.hid (by rw [← hn]; exact Fr.alloc _ _)
  have R55' : Hid (w18.heap[g55]? = some (.cells #[.int .u8 1, .string ⟨#[]⟩, .int .i64 0, .slice none 0 0] 40 (0, 0))) := Lib.hid (by rw [← hn, ← hg]; exact new_block _ _)
  have L24_55 : g24 < g55 := by rw [← hg]; exact lt_of_block R24.out
  have L29_55 : g29 < g55 := by rw [← hg]; exact lt_of_block R29.out
  have L35_55 : g35 < g55 := by rw [← hg]; exact lt_of_block R35.out
  have L7_55 : g7 < g55 := by rw [← hg]; exact lt_of_block R7.out
  have L8_55 : g8 < g55 := by rw [← hg]; exact lt_of_block R8.out
  have L9_55 : g9 < g55 := by rw [← hg]; exact lt_of_block R9.out
  clear hn hg
  replace R24 := Lib.hid (HDw18.out.keeps R24.out no_one)
  replace R29 := Lib.hid (HDw18.out.keeps R29.out no_one)
  replace R35 := Lib.hid (HDw18.out.keeps R35.out no_one)
  replace R7 := Lib.hid (HDw18.out.keeps R7.out no_one)
  replace R8 := Lib.hid (HDw18.out.keeps R8.out no_one)
  replace R9 := Lib.hid (HDw18.out.keeps R9.out no_one)
  replace HI8 := Lib.hid (Is.no HI8.out HDw18.out)
  replace HI9 := Lib.hid (Is.no HI9.out HDw18.out)
  have R55 := R55'
  clear R55'
  refine (con_any _ _ _ _ _).mono ?_
  rintro e w19 ⟨rfl, hf⟩
  have HFw19 : Hid (Fr No w w19) := Lib.hid (HFw18.out.then hf)
  have HDw19 : Hid (Fr No w18 w19) := Lib.hid hf
  clear hf
  replace R24 := Lib.hid (HDw19.out.keeps R24.out no_one)
  replace R29 := Lib.hid (HDw19.out.keeps R29.out no_one)
  replace R35 := Lib.hid (HDw19.out.keeps R35.out no_one)
  replace R7 := Lib.hid (HDw19.out.keeps R7.out no_one)
  replace R8 := Lib.hid (HDw19.out.keeps R8.out no_one)
  replace R9 := Lib.hid (HDw19.out.keeps R9.out no_one)
  replace R55 := Lib.hid (HDw19.out.keeps R55.out no_one)
  replace HI8 := Lib.hid (Is.no HI8.out HDw19.out)
  replace HI9 := Lib.hid (Is.no HI9.out HDw19.out)
  go_upto_region 5 with fail
  obtain ⟨w20, hn⟩ : ∃ w8, w19.alloc (.cells #[.int .u8 6, .string ⟨#[116, 114, 117, 101]⟩, .int .i64 0, .slice (some ⟨g55, 0, none⟩) 1 1] 40) = w8 := ⟨_, rfl⟩
  obtain ⟨g10, hg⟩ : ∃ g8, w19.heap.size = g8 := ⟨_, rfl⟩
  rw [hn, hg]
  have HFw20 : Hid (Fr No w w20) := Lib.hid (by rw [← hn]; exact HFw19.out.then (Fr.alloc _ _))
  have HDw20 : Hid (Fr No w19 w20) := Lib.hid (by rw [← hn]; exact Fr.alloc _ _)
  have R10' : Hid (w20.heap[g10]? = some (.cells #[.int .u8 6, .string ⟨#[116, 114, 117, 101]⟩, .int .i64 0, .slice (some ⟨g55, 0, none⟩) 1 1] 40 (0, 0))) := Lib.hid (by rw [← hn, ← hg]; exact new_block _ _)
  have L24_10 : g24 < g10 := by rw [← hg]; exact lt_of_block R24.out
  have L29_10 : g29 < g10 := by rw [← hg]; exact lt_of_block R29.out
  have L35_10 : g35 < g10 := by rw [← hg]; exact lt_of_block R35.out
  have L7_10 : g7 < g10 := by rw [← hg]; exact lt_of_block R7.out
  have L8_10 : g8 < g10 := by rw [← hg]; exact lt_of_block R8.out
  have L9_10 : g9 < g10 := by rw [← hg]; exact lt_of_block R9.out
  have L55_10 : g55 < g10 := by rw [← hg]; exact lt_of_block R55.out
  clear hn hg
  replace R24 := Lib.hid (HDw20.out.keeps R24.out no_one)
  replace R29 := Lib.hid (HDw20.out.keeps R29.out no_one)
  replace R35 := Lib.hid (HDw20.out.keeps R35.out no_one)
  replace R7 := Lib.hid (HDw20.out.keeps R7.out no_one)
  replace R8 := Lib.hid (HDw20.out.keeps R8.out no_one)
  replace R9 := Lib.hid (HDw20.out.keeps R9.out no_one)
  replace R55 := Lib.hid (HDw20.out.keeps R55.out no_one)
  replace HI8 := Lib.hid (Is.no HI8.out HDw20.out)
  replace HI9 := Lib.hid (Is.no HI9.out HDw20.out)
  have R10 := R10'
  clear R10'
  go_wp2_with fail
  refine (con_any _ _ _ _ _).mono ?_
  rintro e w21 ⟨rfl, hf⟩
  have HFw21 : Hid (Fr No w w21) := Lib.hid (HFw20.out.then hf)
  have HDw21 : Hid (Fr No w20 w21) := Lib.hid hf
  clear hf
  replace R24 := Lib.hid (HDw21.out.keeps R24.out no_one)
  replace R29 := Lib.hid (HDw21.out.keeps R29.out no_one)
  replace R35 := Lib.hid (HDw21.out.keeps R35.out no_one)
  replace R7 := Lib.hid (HDw21.out.keeps R7.out no_one)
  replace R8 := Lib.hid (HDw21.out.keeps R8.out no_one)
  replace R9 := Lib.hid (HDw21.out.keeps R9.out no_one)
  replace R55 := Lib.hid (HDw21.out.keeps R55.out no_one)
  replace R10 := Lib.hid (HDw21.out.keeps R10.out no_one)
  replace HI8 := Lib.hid (Is.no HI8.out HDw21.out)
  replace HI9 := Lib.hid (Is.no HI9.out HDw21.out)
  go_upto_region 6 with fail
  obtain ⟨w22, hn⟩ : ∃ w8, w21.alloc (.cells #[.int .u8 6, .string ⟨#[83, 111, 109, 101]⟩, .int .i64 0, .slice none 0 0] 40) = w8 := ⟨_, rfl⟩
  obtain ⟨g11, hg⟩ : ∃ g8, w21.heap.size = g8 := ⟨_, rfl⟩
  rw [hn, hg]
  have HFw22 : Hid (Fr No w w22) := Lib.hid (by rw [← hn]; exact HFw21.out.then (Fr.alloc _ _))
  have HDw22 : Hid (Fr No w21 w22) := Lib.hid (by rw [← hn]; exact Fr.alloc _ _)
  have R11' : Hid (w22.heap[g11]? = some (.cells #[.int .u8 6, .string ⟨#[83, 111, 109, 101]⟩, .int .i64 0, .slice none 0 0] 40 (0, 0))) := Lib.hid (by rw [← hn, ← hg]; exact new_block _ _)
  have L24_11 : g24 < g11 := by rw [← hg]; exact lt_of_block R24.out
  have L29_11 : g29 < g11 := by rw [← hg]; exact lt_of_block R29.out
  have L35_11 : g35 < g11 := by rw [← hg]; exact lt_of_block R35.out
  have L7_11 : g7 < g11 := by rw [← hg]; exact lt_of_block R7.out
  have L8_11 : g8 < g11 := by rw [← hg]; exact lt_of_block R8.out
  have L9_11 : g9 < g11 := by rw [← hg]; exact lt_of_block R9.out
  have L55_11 : g55 < g11 := by rw [← hg]; exact lt_of_block R55.out
  have L10_11 : g10 < g11 := by rw [← hg]; exact lt_of_block R10.out
  clear hn hg
  replace R24 := Lib.hid (HDw22.out.keeps R24.out no_one)
  replace R29 := Lib.hid (HDw22.out.keeps R29.out no_one)
  replace R35 := Lib.hid (HDw22.out.keeps R35.out no_one)
  replace R7 := Lib.hid (HDw22.out.keeps R7.out no_one)
  replace R8 := Lib.hid (HDw22.out.keeps R8.out no_one)
  replace R9 := Lib.hid (HDw22.out.keeps R9.out no_one)
  replace R55 := Lib.hid (HDw22.out.keeps R55.out no_one)
  replace R10 := Lib.hid (HDw22.out.keeps R10.out no_one)
  replace HI8 := Lib.hid (Is.no HI8.out HDw22.out)
  replace HI9 := Lib.hid (Is.no HI9.out HDw22.out)
  have R11 := R11'
  clear R11'
  go_wp2_with fail
  refine (con_any _ _ _ _ _).mono ?_
  rintro e w23 ⟨rfl, hf⟩
  have HFw23 : Hid (Fr No w w23) := Lib.hid (HFw22.out.then hf)
  have HDw23 : Hid (Fr No w22 w23) := Lib.hid hf
  clear hf
  replace R24 := Lib.hid (HDw23.out.keeps R24.out no_one)
  replace R29 := Lib.hid (HDw23.out.keeps R29.out no_one)
  replace R35 := Lib.hid (HDw23.out.keeps R35.out no_one)
  replace R7 := Lib.hid (HDw23.out.keeps R7.out no_one)
  replace R8 := Lib.hid (HDw23.out.keeps R8.out no_one)
  replace R9 := Lib.hid (HDw23.out.keeps R9.out no_one)
  replace R55 := Lib.hid (HDw23.out.keeps R55.out no_one)
  replace R10 := Lib.hid (HDw23.out.keeps R10.out no_one)
  replace R11 := Lib.hid (HDw23.out.keeps R11.out no_one)
  replace HI8 := Lib.hid (Is.no HI8.out HDw23.out)
  replace HI9 := Lib.hid (Is.no HI9.out HDw23.out)
  go_upto_region 7 with fail
  obtain ⟨w24, hn⟩ : ∃ w8, w23.alloc (.cells #[.int .u8 6, .string ⟨#[90]⟩, .int .i64 0, .slice none 0 0] 40) = w8 := ⟨_, rfl⟩
  obtain ⟨g12, hg⟩ : ∃ g8, w23.heap.size = g8 := ⟨_, rfl⟩
  rw [hn, hg]
  have HFw24 : Hid (Fr No w w24) := Lib.hid (by rw [← hn]; exact HFw23.out.then (Fr.alloc _ _))
  have HDw24 : Hid (Fr No w23 w24) := Lib.hid (by rw [← hn]; exact Fr.alloc _ _)
  have R12' : Hid (w24.heap[g12]? = some (.cells #[.int .u8 6, .string ⟨#[90]⟩, .int .i64 0, .slice none 0 0] 40 (0, 0))) := Lib.hid (by rw [← hn, ← hg]; exact new_block _ _)
  have L24_12 : g24 < g12 := by rw [← hg]; exact lt_of_block R24.out
  have L29_12 : g29 < g12 := by rw [← hg]; exact lt_of_block R29.out
  have L35_12 : g35 < g12 := by rw [← hg]; exact lt_of_block R35.out
  have L7_12 : g7 < g12 := by rw [← hg]; exact lt_of_block R7.out
  have L8_12 : g8 < g12 := by rw [← hg]; exact lt_of_block R8.out
  have L9_12 : g9 < g12 := by rw [← hg]; exact lt_of_block R9.out
  have L55_12 : g55 < g12 := by rw [← hg]; exact lt_of_block R55.out
  have L10_12 : g10 < g12 := by rw [← hg]; exact lt_of_block R10.out
  have L11_12 : g11 < g12 := by rw [← hg]; exact lt_of_block R11.out
  clear hn hg
  replace R24 := Lib.hid (HDw24.out.keeps R24.out no_one)
  replace R29 := Lib.hid (HDw24.out.keeps R29.out no_one)
  replace R35 := Lib.hid (HDw24.out.keeps R35.out no_one)
  replace R7 := Lib.hid (HDw24.out.keeps R7.out no_one)
  replace R8 := Lib.hid (HDw24.out.keeps R8.out no_one)
  replace R9 := Lib.hid (HDw24.out.keeps R9.out no_one)
  replace R55 := Lib.hid (HDw24.out.keeps R55.out no_one)
  replace R10 := Lib.hid (HDw24.out.keeps R10.out no_one)
  replace R11 := Lib.hid (HDw24.out.keeps R11.out no_one)
  replace HI8 := Lib.hid (Is.no HI8.out HDw24.out)
  replace HI9 := Lib.hid (Is.no HI9.out HDw24.out)
  have R12 := R12'
  clear R12'
  obtain ⟨ok, hokd⟩ : ∃ ok : Nat → Prop, ok = fun b => b ≠ g8 ∧ b ≠ g9 ∧ b ≠ g10 ∧ b ≠ g11 ∧ b ≠ g12 := ⟨_, rfl⟩
  have HOK : Hid (∀ b, ok b ↔ b ≠ g8 ∧ b ≠ g9 ∧ b ≠ g10 ∧ b ≠ g11 ∧ b ≠ g12) := Lib.hid (by intro b; rw [hokd])
  have HO3 : Hid (∀ b, (b = g24 ∨ b = g29 ∨ b = g35) → ok b) := Lib.hid (fun b h => (HOK.out b).2 (by omega))
  clear hokd
  have P8 : Hid (Pt w.heap.size ok w24 g8 (eightAt q1)) := Lib.hid ⟨_, _, _, _, _, _, R8.out, Is.mono HI8.out HO3.out⟩
  have P9 : Hid (Pt w.heap.size ok w24 g9 (eightAt q2)) := Lib.hid ⟨_, _, _, _, _, _, R9.out, Is.mono HI9.out HO3.out⟩
  have P10 : Hid (Pt w.heap.size ok w24 g10 cOne) := Lib.hid ⟨_, _, _, _, _, _, R10.out, is_row 6 _ (row_own R55.out ((HOK.out g55).2 (by omega)) (is_none' 1 ⟨#[]⟩ 0)) rfl⟩
  have P11 : Hid (Pt w.heap.size ok w24 g11 dOne) := Lib.hid ⟨_, _, _, _, _, _, R11.out, is_none' 6 _ 0⟩
  have P12 : Hid (Pt w.heap.size ok w24 g12 zOne) := Lib.hid ⟨_, _, _, _, _, _, R12.out, is_none' 6 _ 0⟩
  have HL : Hid (g8 < g9 ∧ g9 < g10 ∧ g10 < g11 ∧ g11 < g12) := Lib.hid ⟨L8_9, L9_10, L10_11, L11_12⟩

  clear R24 R29 R35 R7 R8 R9 R55 R10 R11 R12 HI8 HI9 HO3
  clear L24_29 L24_35 L29_35 L24_7 L29_7 L35_7 L24_8 L29_8 L35_8 L7_8 L24_9 L29_9 L35_9 L7_9 L8_9 L24_55 L29_55 L35_55 L7_55 L8_55 L9_55 L24_10 L29_10 L35_10 L7_10 L8_10 L9_10 L55_10 L24_11 L29_11 L35_11 L7_11 L8_11 L9_11 L55_11 L10_11 L24_12 L29_12 L35_12 L7_12 L8_12 L9_12 L55_12 L10_12 L11_12
  clear HDw1 HDw2 HDw3 HDw4 HDw5 HDw6 HDw7 HDw8 HDw9 HDw10 HDw11 HDw12 HDw13 HDw14 HDw15 HDw16 HDw17 HDw18 HDw19 HDw20 HDw21 HDw22 HDw23 HDw24
  clear HFw1 HFw2 HFw3 HFw4 HFw5 HFw6 HFw7 HFw8 HFw9 HFw10 HFw11 HFw12 HFw13 HFw14 HFw15 HFw16 HFw17 HFw18 HFw19 HFw20 HFw21 HFw22 HFw23
  go_wp2_with fail
  go_loopw [13] (fun v wr => ∃ i : Nat, i ≤ q3 ∧ v = .int .i64 i ∧ Hid (Pt w.heap.size ok wr g8 (someN i (eightAt q1))) ∧ Hid (Pt w.heap.size ok wr g9 (someN i (eightAt q2))) ∧ Hid (Pt w.heap.size ok wr g10 (tupN i cOne)) ∧ Hid (Pt w.heap.size ok wr g11 (someN i dOne)) ∧ Hid (Pt w.heap.size ok wr g12 (someN i zOne)) ∧ Hid (Fr No w wr)) (fun v _ => q3 - (intOf v).toNat)
  case atStart => exact ⟨0, Nat.zero_le _, rfl, P8, P9, P10, P11, P12, HFw24⟩
  case round =>
    clear P8 P9 P10 P11 P12
    obtain ⟨i, hi, rfl, P8, P9, P10, P11, P12, HF⟩ := hrel
    by_cases hiq : i = q3
    · subst hiq
      have T8 := Lib.hid P8.out
      have T9 := Lib.hid P9.out
      have T10 := Lib.hid P10.out
      have T11 := Lib.hid P11.out
      have T12 := Lib.hid P12.out
      clear P8 P9 P10 P11 P12
      obtain ⟨w0, hw0⟩ : ∃ w0, w0 = wr := ⟨wr, rfl⟩
      rw [← hw0] at HF T8 T9 T10 T11 T12 ⊢
      clear hw0 wr
      have HCK' : Hid (∀ (l' : List T) (a' : Option Addr) (n' cap' g : Nat) (w' : World), l'.length = n' → partsL l' ≤ 1048576 → wfL infos18 l' → Row w.heap.size (fun _ => True) w' a' 0 l' → Infs w' (some ⟨g, 0, none⟩) infos18 → Fr No w0 w' → Calls Try.prog 11 #[.slice a' n' cap', .slice (some ⟨g, 0, none⟩) 8 8, .bool false] w' (SaidI w' (checkP infos18 l' false))) := Lib.hid (fun l' a' n' cap' g w' h1 h2 h3 h4 h5 h6 => HCK.out l' a' n' cap' g w' h1 h2 h3 h4 h5 (HF.out.then h6))
      have W1 : Hid (wfP infos18 (someN i (eightAt q1))) := Lib.hid (wf_some i (wf_eight q1 hq1))
      have W2 : Hid (wfP infos18 (someN i (eightAt q2))) := Lib.hid (wf_some i (wf_eight q2 hq2))
      have W3 : Hid (wfP infos18 (tupN i cOne)) := Lib.hid (wf_tup i (wf_con18 (by decide) (by simp) ⟨wf_any18, trivial⟩))
      have W4 : Hid (wfP infos18 (someN i dOne)) := Lib.hid (wf_some i (wf_con18 (by decide) (by simp) trivial))
      have W5 : Hid (wfP infos18 (someN i zOne)) := Lib.hid (wf_some i (wf_con18 (by decide) (by simp) trivial))
      have N1 := Lib.hid (eight_parts q1 hq1)
      have N2 := Lib.hid (eight_parts q2 hq2)
      obtain ⟨V, hV⟩ : ∃ V : Int, (if q1 = q2 then 14 else 13) = V := ⟨_, rfl⟩
      rw [hV] at HE1
      have HV := Lib.hid hV
      clear hV
      go_upto_region 15 with fail
      go_cut [14] from 82 to 86 (fun v wx => v = .int .i64 V ∧ Hid (Fr No w0 wx))
      case first =>
        obtain ⟨k8, s8, n8, a8, m8, c8, hr, hi'⟩ := T8.out
        have I8 := Lib.hid hi'
        have R8 := Lib.hid hr
        clear hr hi'
        obtain ⟨k9, s9, n9, a9, m9, c9, hr, hi'⟩ := T9.out
        have I9 := Lib.hid hi'
        have R9 := Lib.hid hr
        clear hr hi'
        have HS : Hid (∀ w', Fr No w0 w' → w'.cell? ⟨g8, 0, none⟩ = some (.int .u8 k8) ∧ w'.cell? ⟨g8, 1, none⟩ = some (.string s8) ∧ w'.cell? ⟨g8, 2, none⟩ = some (.int .i64 n8) ∧ w'.cell? ⟨g8, 3, none⟩ = some (.slice a8 m8 c8) ∧ w'.cell? ⟨g9, 0, none⟩ = some (.int .u8 k9) ∧ w'.cell? ⟨g9, 1, none⟩ = some (.string s9) ∧ w'.cell? ⟨g9, 2, none⟩ = some (.int .i64 n9) ∧ w'.cell? ⟨g9, 3, none⟩ = some (.slice a9 m9 c9)) := Lib.hid (fun w' hf => ⟨cell_of (hf.keeps R8.out no_one) 0, cell_of (hf.keeps R8.out no_one) 1, cell_of (hf.keeps R8.out no_one) 2, cell_of (hf.keeps R8.out no_one) 3, cell_of (hf.keeps R9.out no_one) 0, cell_of (hf.keeps R9.out no_one) 1, cell_of (hf.keeps R9.out no_one) 2, cell_of (hf.keeps R9.out no_one) 3⟩)
        have HFb : Hid (Fr No w0 w0) := Lib.hid (Fr.refl _ _)
        refine region_e (fun w' => w'.cell? ⟨g8, 0, none⟩ = some (.int .u8 k8) ∧ w'.cell? ⟨g8, 1, none⟩ = some (.string s8) ∧ w'.cell? ⟨g8, 2, none⟩ = some (.int .i64 n8) ∧ w'.cell? ⟨g8, 3, none⟩ = some (.slice a8 m8 c8) ∧ w'.cell? ⟨g9, 0, none⟩ = some (.int .u8 k9) ∧ w'.cell? ⟨g9, 1, none⟩ = some (.string s9) ∧ w'.cell? ⟨g9, 2, none⟩ = some (.int .i64 n9) ∧ w'.cell? ⟨g9, 3, none⟩ = some (.slice a9 m9 c9)) [] (by kernel_rfl) ?_ (fun hHeld => ?_)
        · exact HS.out _ (HFb.out.then (Fr.drew _))
        obtain ⟨wd, hwd⟩ : ∃ wd, wd = w0.drew := ⟨_, rfl⟩
        have HFd : Hid (Fr No w0 wd) := Lib.hid (by rw [hwd]; exact HFb.out.then (Fr.drew _))
        rw [← hwd] at hHeld ⊢
        clear hwd
        refine take_op 0 (some 82) (Op.load 40 ( .tmp 8)) 40 ?_ (by kernel_rfl) (by kernel_rfl) (by kernel_rfl) (fun _ _ _ h => h) ?_ (by assumption) ?_
        rotate_left
        · intro w hSw; (try dsimp only at hSw); go_simp; (try (with_reducible rfl))
        try simp only [Act.put, List.setIfInBounds_toArray, List.set_cons_zero, List.set_cons_succ]
        refine take_op 1 (some 83) (Op.load 40 ( .tmp 9)) 40 ?_ (by kernel_rfl) (by kernel_rfl) (by kernel_rfl) (fun _ _ _ h => h) ?_ (by assumption) ?_
        rotate_left
        · intro w hSw; (try dsimp only at hSw); go_simp; (try (with_reducible rfl))
        try simp only [Act.put, List.setIfInBounds_toArray, List.set_cons_zero, List.set_cons_succ]
        refine ready_e (rs := [2, 3]) (by kernel_rfl) (by simp) ?_
        refine (do_mid (o := _) rfl (fun K hK => ?_) (do_mid (o := _) rfl (fun K hK => ?_) none_e)) -- [(84, 'buildSlice'), (85, 'F16')]
        · skip
          go_simp
          obtain ⟨wz1, hn⟩ : ∃ w8, w8 = (wd).alloc (.cells #[.int .u8 k8, .string s8, .int .i64 n8, .slice a8 m8 c8, .int .u8 k9, .string s9, .int .i64 n9, .slice a9 m9 c9] 40) := ⟨_, rfl⟩
          obtain ⟨B_1, hg8⟩ : ∃ g8, (wd).heap.size = g8 := ⟨_, rfl⟩
          have R_1 : Hid (wz1.heap[B_1]? = some (.cells #[.int .u8 k8, .string s8, .int .i64 n8, .slice a8 m8 c8, .int .u8 k9, .string s9, .int .i64 n9, .slice a9 m9 c9] 40 (0, 0))) := Lib.hid (by rw [hn, ← hg8]; exact new_block _ _)
          have HZ1 : Hid (Fr No w0 wz1) := Lib.hid (by rw [hn]; exact (HFd.out).then (Fr.alloc _ _))
          have DZ1 : Hid (Fr No (wd) wz1) := Lib.hid (by rw [hn]; exact Fr.alloc _ _)
          have S_1 : Hid (w0.heap.size ≤ B_1) := Lib.hid (by rw [← hg8]; exact (HFd.out).size)
          rw [← hn, hg8]
          clear hn hg8
          refine hK.out _ _ ?_ (fun hHeld => ?_)
          · exact HS.out _ HZ1.out
          clear hK K
          try dsimp only
          try simp only [Act.put, List.setIfInBounds_toArray, List.set_cons_zero, List.set_cons_succ]
          refine ready_e (rs := [3]) (by kernel_rfl) (by simp) ?_
          refine (do_mid (o := _) rfl (fun K hK => ?_) none_e) -- [(85, 'F16')]
          go_simp
          go_at_call 16
          refine (infos_any _).mono ?_
          rintro e' wz2 ⟨hf, g_2, rfl, hi⟩
          have HZ2 : Hid (Fr No w0 wz2) := Lib.hid ((HZ1.out).then hf)
          have DZ2 : Hid (Fr No (wz1) wz2) := Lib.hid hf
          have I_2 := Lib.hid hi
          clear hf hi
          refine hK.out _ _ ?_ (fun hHeld => ?_)
          · exact HS.out _ HZ2.out
          clear hK K
          try dsimp only
          try simp only [Act.put, List.setIfInBounds_toArray, List.set_cons_zero, List.set_cons_succ]
          refine ready_e (rs := [4]) (by kernel_rfl) (by simp) ?_
          refine (do_mid (o := _) rfl (fun K hK => ?_) none_e) -- [(86, 'F11')]
          go_simp
          go_at_call 11
          refine (HCK'.out [someN i (eightAt q1), someN i (eightAt q2)] _ 2 2 _ wz2 rfl (by have := N1.out; have := N2.out; simp only [partsL, someN_parts]; omega) ⟨W1.out, W2.out, trivial⟩ (row_own2 (((Fr.refl _ _).then DZ2.out).keeps R_1.out no_one) trivial (Is.mono (Is.no I8.out (HZ2.out)) (fun _ _ => trivial)) (Is.mono (Is.no I9.out (HZ2.out)) (fun _ _ => trivial))) (I_2.out.no (Fr.refl _ _)) (HZ2.out)).mono ?_
          rintro e' wz3 ⟨rfl, hf⟩
          have HZ3 : Hid (Fr No w0 wz3) := Lib.hid ((HZ2.out).then hf)
          have DZ3 : Hid (Fr No (wz2) wz3) := Lib.hid hf
          clear hf
          rw [HE1.out.1]
          refine hK.out _ _ ?_ (fun hHeld => ?_)
          · exact HS.out _ HZ3.out
          clear hK K
          try dsimp only
          try simp only [Act.put, List.setIfInBounds_toArray, List.set_cons_zero, List.set_cons_succ]
          refine take_op 5 (some 14) (Op.assign ( .tmp 86)) 26 ?_ (by kernel_rfl) (by kernel_rfl) (by kernel_rfl) (fun _ _ _ h => h) ?_ (by assumption) ?_
          rotate_left
          · intro w hSw; (try dsimp only at hSw); go_simp; (try (with_reducible rfl))
          try simp only [Act.put, List.setIfInBounds_toArray, List.set_cons_zero, List.set_cons_succ]
          refine done_e (by kernel_rfl) ?_ _
          (try simp only [Exit.inBlock, Exit.then])
          go_wp2_with fail
          go_meet
          exact ⟨rfl, Lib.hid (HZ3.out)⟩
        · skip
          go_simp
          go_at_call 16
          refine (infos_any _).mono ?_
          rintro e' wz4 ⟨hf, g_4, rfl, hi⟩
          have HZ4 : Hid (Fr No w0 wz4) := Lib.hid ((HFd.out).then hf)
          have DZ4 : Hid (Fr No (wd) wz4) := Lib.hid hf
          have I_4 := Lib.hid hi
          clear hf hi
          refine hK.out _ _ ?_ (fun hHeld => ?_)
          · exact HS.out _ HZ4.out
          clear hK K
          try dsimp only
          try simp only [Act.put, List.setIfInBounds_toArray, List.set_cons_zero, List.set_cons_succ]
          refine ready_e (rs := [2]) (by kernel_rfl) (by simp) ?_
          refine (do_mid (o := _) rfl (fun K hK => ?_) none_e) -- [(84, 'buildSlice')]
          go_simp
          obtain ⟨wz5, hn⟩ : ∃ w8, w8 = (wz4).alloc (.cells #[.int .u8 k8, .string s8, .int .i64 n8, .slice a8 m8 c8, .int .u8 k9, .string s9, .int .i64 n9, .slice a9 m9 c9] 40) := ⟨_, rfl⟩
          obtain ⟨B_5, hg8⟩ : ∃ g8, (wz4).heap.size = g8 := ⟨_, rfl⟩
          have R_5 : Hid (wz5.heap[B_5]? = some (.cells #[.int .u8 k8, .string s8, .int .i64 n8, .slice a8 m8 c8, .int .u8 k9, .string s9, .int .i64 n9, .slice a9 m9 c9] 40 (0, 0))) := Lib.hid (by rw [hn, ← hg8]; exact new_block _ _)
          have HZ5 : Hid (Fr No w0 wz5) := Lib.hid (by rw [hn]; exact (HZ4.out).then (Fr.alloc _ _))
          have DZ5 : Hid (Fr No (wz4) wz5) := Lib.hid (by rw [hn]; exact Fr.alloc _ _)
          have S_5 : Hid (w0.heap.size ≤ B_5) := Lib.hid (by rw [← hg8]; exact (HZ4.out).size)
          rw [← hn, hg8]
          clear hn hg8
          refine hK.out _ _ ?_ (fun hHeld => ?_)
          · exact HS.out _ HZ5.out
          clear hK K
          try dsimp only
          try simp only [Act.put, List.setIfInBounds_toArray, List.set_cons_zero, List.set_cons_succ]
          refine ready_e (rs := [4]) (by kernel_rfl) (by simp) ?_
          refine (do_mid (o := _) rfl (fun K hK => ?_) none_e) -- [(86, 'F11')]
          go_simp
          go_at_call 11
          refine (HCK'.out [someN i (eightAt q1), someN i (eightAt q2)] _ 2 2 _ wz5 rfl (by have := N1.out; have := N2.out; simp only [partsL, someN_parts]; omega) ⟨W1.out, W2.out, trivial⟩ (row_own2 ((Fr.refl _ _).keeps R_5.out no_one) trivial (Is.mono (Is.no I8.out (HZ5.out)) (fun _ _ => trivial)) (Is.mono (Is.no I9.out (HZ5.out)) (fun _ _ => trivial))) (I_4.out.no ((Fr.refl _ _).then DZ5.out)) (HZ5.out)).mono ?_
          rintro e' wz6 ⟨rfl, hf⟩
          have HZ6 : Hid (Fr No w0 wz6) := Lib.hid ((HZ5.out).then hf)
          have DZ6 : Hid (Fr No (wz5) wz6) := Lib.hid hf
          clear hf
          rw [HE1.out.1]
          refine hK.out _ _ ?_ (fun hHeld => ?_)
          · exact HS.out _ HZ6.out
          clear hK K
          try dsimp only
          try simp only [Act.put, List.setIfInBounds_toArray, List.set_cons_zero, List.set_cons_succ]
          refine take_op 5 (some 14) (Op.assign ( .tmp 86)) 26 ?_ (by kernel_rfl) (by kernel_rfl) (by kernel_rfl) (fun _ _ _ h => h) ?_ (by assumption) ?_
          rotate_left
          · intro w hSw; (try dsimp only at hSw); go_simp; (try (with_reducible rfl))
          try simp only [Act.put, List.setIfInBounds_toArray, List.set_cons_zero, List.set_cons_succ]
          refine done_e (by kernel_rfl) ?_ _
          (try simp only [Exit.inBlock, Exit.then])
          go_wp2_with fail
          go_meet
          exact ⟨rfl, Lib.hid (HZ6.out)⟩
      case rest =>
        obtain ⟨rfl, HF15⟩ := hcut
        by_cases hq : q1 = q2
        · have hb : ((q1 : Int) == (q2 : Int)) = true := by simp [hq]
          obtain rfl : V = 14 := by rw [← HV.out, if_pos hq]
          clear hq
          go_wp2_with fail
          go_quiet (fail)
          go_wp2_with fail
          refine (works_any _).mono ?_
          rintro e w2 ⟨rfl, hf2⟩
          have HF2 : Hid (Fr No w w2) := Lib.hid (((HF.out.then HF15.out).then (Fr.drewN _ _)).then hf2)
          clear hf2
          go_wp2_with fail
          go_ret
          exact ⟨rfl, HF2.out⟩
        have hb : ((q1 : Int) == (q2 : Int)) = false := by
          simp only [beq_eq_false_iff_ne, ne_eq]
          omega
        obtain rfl : V = 13 := by rw [← HV.out, if_neg hq]
        clear hq
        go_wp2_with fail
        go_quiet (fail)
        obtain ⟨w16, hw16⟩ : ∃ w16, wc.drewN nq = w16 := ⟨_, rfl⟩
        have HF16 : Hid (Fr No w0 w16) := Lib.hid (by rw [← hw16]; exact HF15.out.then (Fr.drewN _ _))
        (try rw [hw16])
        clear hw16 HF15
        go_upto_region 18 with fail
        go_cut [15] from 103 to 106 (fun v wx => v = .int .i64 13 ∧ Hid (Fr No w0 wx))
        case first =>
          obtain ⟨k10, s10, n10, a10, m10, c10, hr, hi'⟩ := T10.out
          have I10 := Lib.hid hi'
          have R10 := Lib.hid hr
          clear hr hi'
          have HS : Hid (∀ w', Fr No w0 w' → w'.cell? ⟨g10, 0, none⟩ = some (.int .u8 k10) ∧ w'.cell? ⟨g10, 1, none⟩ = some (.string s10) ∧ w'.cell? ⟨g10, 2, none⟩ = some (.int .i64 n10) ∧ w'.cell? ⟨g10, 3, none⟩ = some (.slice a10 m10 c10)) := Lib.hid (fun w' hf => ⟨cell_of (hf.keeps R10.out no_one) 0, cell_of (hf.keeps R10.out no_one) 1, cell_of (hf.keeps R10.out no_one) 2, cell_of (hf.keeps R10.out no_one) 3⟩)
          have HFb : Hid (Fr No w0 w16) := HF16
          refine region_e (fun w' => w'.cell? ⟨g10, 0, none⟩ = some (.int .u8 k10) ∧ w'.cell? ⟨g10, 1, none⟩ = some (.string s10) ∧ w'.cell? ⟨g10, 2, none⟩ = some (.int .i64 n10) ∧ w'.cell? ⟨g10, 3, none⟩ = some (.slice a10 m10 c10)) [] (by kernel_rfl) ?_ (fun hHeld => ?_)
          · exact HS.out _ (HFb.out.then (Fr.drew _))
          obtain ⟨wd, hwd⟩ : ∃ wd, wd = w16.drew := ⟨_, rfl⟩
          have HFd : Hid (Fr No w0 wd) := Lib.hid (by rw [hwd]; exact HFb.out.then (Fr.drew _))
          rw [← hwd] at hHeld ⊢
          clear hwd
          refine take_op 0 (some 103) (Op.load 40 ( .tmp 10)) 40 ?_ (by kernel_rfl) (by kernel_rfl) (by kernel_rfl) (fun _ _ _ h => h) ?_ (by assumption) ?_
          rotate_left
          · intro w hSw; (try dsimp only at hSw); go_simp; (try (with_reducible rfl))
          try simp only [Act.put, List.setIfInBounds_toArray, List.set_cons_zero, List.set_cons_succ]
          refine ready_e (rs := [1, 2]) (by kernel_rfl) (by simp) ?_
          refine (do_mid (o := _) rfl (fun K hK => ?_) (do_mid (o := _) rfl (fun K hK => ?_) none_e)) -- [(104, 'buildSlice'), (105, 'F16')]
          · skip
            go_simp
            obtain ⟨wz1, hn⟩ : ∃ w8, w8 = (wd).alloc (.cells #[.int .u8 k10, .string s10, .int .i64 n10, .slice a10 m10 c10] 40) := ⟨_, rfl⟩
            obtain ⟨B_1, hg8⟩ : ∃ g8, (wd).heap.size = g8 := ⟨_, rfl⟩
            have R_1 : Hid (wz1.heap[B_1]? = some (.cells #[.int .u8 k10, .string s10, .int .i64 n10, .slice a10 m10 c10] 40 (0, 0))) := Lib.hid (by rw [hn, ← hg8]; exact new_block _ _)
            have HZ1 : Hid (Fr No w0 wz1) := Lib.hid (by rw [hn]; exact (HFd.out).then (Fr.alloc _ _))
            have DZ1 : Hid (Fr No (wd) wz1) := Lib.hid (by rw [hn]; exact Fr.alloc _ _)
            have S_1 : Hid (w0.heap.size ≤ B_1) := Lib.hid (by rw [← hg8]; exact (HFd.out).size)
            rw [← hn, hg8]
            clear hn hg8
            refine hK.out _ _ ?_ (fun hHeld => ?_)
            · exact HS.out _ HZ1.out
            clear hK K
            try dsimp only
            try simp only [Act.put, List.setIfInBounds_toArray, List.set_cons_zero, List.set_cons_succ]
            refine ready_e (rs := [2]) (by kernel_rfl) (by simp) ?_
            refine (do_mid (o := _) rfl (fun K hK => ?_) none_e) -- [(105, 'F16')]
            go_simp
            go_at_call 16
            refine (infos_any _).mono ?_
            rintro e' wz2 ⟨hf, g_2, rfl, hi⟩
            have HZ2 : Hid (Fr No w0 wz2) := Lib.hid ((HZ1.out).then hf)
            have DZ2 : Hid (Fr No (wz1) wz2) := Lib.hid hf
            have I_2 := Lib.hid hi
            clear hf hi
            refine hK.out _ _ ?_ (fun hHeld => ?_)
            · exact HS.out _ HZ2.out
            clear hK K
            try dsimp only
            try simp only [Act.put, List.setIfInBounds_toArray, List.set_cons_zero, List.set_cons_succ]
            refine ready_e (rs := [3]) (by kernel_rfl) (by simp) ?_
            refine (do_mid (o := _) rfl (fun K hK => ?_) none_e) -- [(106, 'F11')]
            go_simp
            go_at_call 11
            refine (HCK'.out [tupN i cOne] _ 1 1 _ wz2 rfl (by simp only [partsL, tupN_parts, cOne, conP, parts, anyP]; omega) ⟨W3.out, trivial⟩ (row_own (((Fr.refl _ _).then DZ2.out).keeps R_1.out no_one) trivial (Is.mono (Is.no I10.out (HZ2.out)) (fun _ _ => trivial))) (I_2.out.no (Fr.refl _ _)) (HZ2.out)).mono ?_
            rintro e' wz3 ⟨rfl, hf⟩
            have HZ3 : Hid (Fr No w0 wz3) := Lib.hid ((HZ2.out).then hf)
            have DZ3 : Hid (Fr No (wz2) wz3) := Lib.hid hf
            clear hf
            rw [HE2.out.1]
            refine hK.out _ _ ?_ (fun hHeld => ?_)
            · exact HS.out _ HZ3.out
            clear hK K
            try dsimp only
            try simp only [Act.put, List.setIfInBounds_toArray, List.set_cons_zero, List.set_cons_succ]
            refine take_op 4 (some 15) (Op.assign ( .tmp 106)) 26 ?_ (by kernel_rfl) (by kernel_rfl) (by kernel_rfl) (fun _ _ _ h => h) ?_ (by assumption) ?_
            rotate_left
            · intro w hSw; (try dsimp only at hSw); go_simp; (try (with_reducible rfl))
            try simp only [Act.put, List.setIfInBounds_toArray, List.set_cons_zero, List.set_cons_succ]
            refine done_e (by kernel_rfl) ?_ _
            (try simp only [Exit.inBlock, Exit.then])
            go_wp2_with fail
            go_meet
            exact ⟨rfl, Lib.hid (HZ3.out)⟩
          · skip
            go_simp
            go_at_call 16
            refine (infos_any _).mono ?_
            rintro e' wz4 ⟨hf, g_4, rfl, hi⟩
            have HZ4 : Hid (Fr No w0 wz4) := Lib.hid ((HFd.out).then hf)
            have DZ4 : Hid (Fr No (wd) wz4) := Lib.hid hf
            have I_4 := Lib.hid hi
            clear hf hi
            refine hK.out _ _ ?_ (fun hHeld => ?_)
            · exact HS.out _ HZ4.out
            clear hK K
            try dsimp only
            try simp only [Act.put, List.setIfInBounds_toArray, List.set_cons_zero, List.set_cons_succ]
            refine ready_e (rs := [1]) (by kernel_rfl) (by simp) ?_
            refine (do_mid (o := _) rfl (fun K hK => ?_) none_e) -- [(104, 'buildSlice')]
            go_simp
            obtain ⟨wz5, hn⟩ : ∃ w8, w8 = (wz4).alloc (.cells #[.int .u8 k10, .string s10, .int .i64 n10, .slice a10 m10 c10] 40) := ⟨_, rfl⟩
            obtain ⟨B_5, hg8⟩ : ∃ g8, (wz4).heap.size = g8 := ⟨_, rfl⟩
            have R_5 : Hid (wz5.heap[B_5]? = some (.cells #[.int .u8 k10, .string s10, .int .i64 n10, .slice a10 m10 c10] 40 (0, 0))) := Lib.hid (by rw [hn, ← hg8]; exact new_block _ _)
            have HZ5 : Hid (Fr No w0 wz5) := Lib.hid (by rw [hn]; exact (HZ4.out).then (Fr.alloc _ _))
            have DZ5 : Hid (Fr No (wz4) wz5) := Lib.hid (by rw [hn]; exact Fr.alloc _ _)
            have S_5 : Hid (w0.heap.size ≤ B_5) := Lib.hid (by rw [← hg8]; exact (HZ4.out).size)
            rw [← hn, hg8]
            clear hn hg8
            refine hK.out _ _ ?_ (fun hHeld => ?_)
            · exact HS.out _ HZ5.out
            clear hK K
            try dsimp only
            try simp only [Act.put, List.setIfInBounds_toArray, List.set_cons_zero, List.set_cons_succ]
            refine ready_e (rs := [3]) (by kernel_rfl) (by simp) ?_
            refine (do_mid (o := _) rfl (fun K hK => ?_) none_e) -- [(106, 'F11')]
            go_simp
            go_at_call 11
            refine (HCK'.out [tupN i cOne] _ 1 1 _ wz5 rfl (by simp only [partsL, tupN_parts, cOne, conP, parts, anyP]; omega) ⟨W3.out, trivial⟩ (row_own ((Fr.refl _ _).keeps R_5.out no_one) trivial (Is.mono (Is.no I10.out (HZ5.out)) (fun _ _ => trivial))) (I_4.out.no ((Fr.refl _ _).then DZ5.out)) (HZ5.out)).mono ?_
            rintro e' wz6 ⟨rfl, hf⟩
            have HZ6 : Hid (Fr No w0 wz6) := Lib.hid ((HZ5.out).then hf)
            have DZ6 : Hid (Fr No (wz5) wz6) := Lib.hid hf
            clear hf
            rw [HE2.out.1]
            refine hK.out _ _ ?_ (fun hHeld => ?_)
            · exact HS.out _ HZ6.out
            clear hK K
            try dsimp only
            try simp only [Act.put, List.setIfInBounds_toArray, List.set_cons_zero, List.set_cons_succ]
            refine take_op 4 (some 15) (Op.assign ( .tmp 106)) 26 ?_ (by kernel_rfl) (by kernel_rfl) (by kernel_rfl) (fun _ _ _ h => h) ?_ (by assumption) ?_
            rotate_left
            · intro w hSw; (try dsimp only at hSw); go_simp; (try (with_reducible rfl))
            try simp only [Act.put, List.setIfInBounds_toArray, List.set_cons_zero, List.set_cons_succ]
            refine done_e (by kernel_rfl) ?_ _
            (try simp only [Exit.inBlock, Exit.then])
            go_wp2_with fail
            go_meet
            exact ⟨rfl, Lib.hid (HZ6.out)⟩
        case rest =>
          obtain ⟨rfl, HF18⟩ := hcut
          go_upto_region 19 with fail
          go_cut [16] from 107 to 110 (fun v wx => v = .int .i64 13 ∧ Hid (Fr No w0 wx))
          case first =>
            obtain ⟨k11, s11, n11, a11, m11, c11, hr, hi'⟩ := T11.out
            have I11 := Lib.hid hi'
            have R11 := Lib.hid hr
            clear hr hi'
            have HS : Hid (∀ w', Fr No w0 w' → w'.cell? ⟨g11, 0, none⟩ = some (.int .u8 k11) ∧ w'.cell? ⟨g11, 1, none⟩ = some (.string s11) ∧ w'.cell? ⟨g11, 2, none⟩ = some (.int .i64 n11) ∧ w'.cell? ⟨g11, 3, none⟩ = some (.slice a11 m11 c11)) := Lib.hid (fun w' hf => ⟨cell_of (hf.keeps R11.out no_one) 0, cell_of (hf.keeps R11.out no_one) 1, cell_of (hf.keeps R11.out no_one) 2, cell_of (hf.keeps R11.out no_one) 3⟩)
            have HFb : Hid (Fr No w0 wc) := HF18
            refine region_e (fun w' => w'.cell? ⟨g11, 0, none⟩ = some (.int .u8 k11) ∧ w'.cell? ⟨g11, 1, none⟩ = some (.string s11) ∧ w'.cell? ⟨g11, 2, none⟩ = some (.int .i64 n11) ∧ w'.cell? ⟨g11, 3, none⟩ = some (.slice a11 m11 c11)) [] (by kernel_rfl) ?_ (fun hHeld => ?_)
            · exact HS.out _ (HFb.out.then (Fr.drew _))
            obtain ⟨wd, hwd⟩ : ∃ wd, wd = wc.drew := ⟨_, rfl⟩
            have HFd : Hid (Fr No w0 wd) := Lib.hid (by rw [hwd]; exact HFb.out.then (Fr.drew _))
            rw [← hwd] at hHeld ⊢
            clear hwd
            refine take_op 0 (some 107) (Op.load 40 ( .tmp 11)) 40 ?_ (by kernel_rfl) (by kernel_rfl) (by kernel_rfl) (fun _ _ _ h => h) ?_ (by assumption) ?_
            rotate_left
            · intro w hSw; (try dsimp only at hSw); go_simp; (try (with_reducible rfl))
            try simp only [Act.put, List.setIfInBounds_toArray, List.set_cons_zero, List.set_cons_succ]
            refine ready_e (rs := [1, 2]) (by kernel_rfl) (by simp) ?_
            refine (do_mid (o := _) rfl (fun K hK => ?_) (do_mid (o := _) rfl (fun K hK => ?_) none_e)) -- [(108, 'buildSlice'), (109, 'F16')]
            · skip
              go_simp
              obtain ⟨wz1, hn⟩ : ∃ w8, w8 = (wd).alloc (.cells #[.int .u8 k11, .string s11, .int .i64 n11, .slice a11 m11 c11] 40) := ⟨_, rfl⟩
              obtain ⟨B_1, hg8⟩ : ∃ g8, (wd).heap.size = g8 := ⟨_, rfl⟩
              have R_1 : Hid (wz1.heap[B_1]? = some (.cells #[.int .u8 k11, .string s11, .int .i64 n11, .slice a11 m11 c11] 40 (0, 0))) := Lib.hid (by rw [hn, ← hg8]; exact new_block _ _)
              have HZ1 : Hid (Fr No w0 wz1) := Lib.hid (by rw [hn]; exact (HFd.out).then (Fr.alloc _ _))
              have DZ1 : Hid (Fr No (wd) wz1) := Lib.hid (by rw [hn]; exact Fr.alloc _ _)
              have S_1 : Hid (w0.heap.size ≤ B_1) := Lib.hid (by rw [← hg8]; exact (HFd.out).size)
              rw [← hn, hg8]
              clear hn hg8
              refine hK.out _ _ ?_ (fun hHeld => ?_)
              · exact HS.out _ HZ1.out
              clear hK K
              try dsimp only
              try simp only [Act.put, List.setIfInBounds_toArray, List.set_cons_zero, List.set_cons_succ]
              refine ready_e (rs := [2]) (by kernel_rfl) (by simp) ?_
              refine (do_mid (o := _) rfl (fun K hK => ?_) none_e) -- [(109, 'F16')]
              go_simp
              go_at_call 16
              refine (infos_any _).mono ?_
              rintro e' wz2 ⟨hf, g_2, rfl, hi⟩
              have HZ2 : Hid (Fr No w0 wz2) := Lib.hid ((HZ1.out).then hf)
              have DZ2 : Hid (Fr No (wz1) wz2) := Lib.hid hf
              have I_2 := Lib.hid hi
              clear hf hi
              refine hK.out _ _ ?_ (fun hHeld => ?_)
              · exact HS.out _ HZ2.out
              clear hK K
              try dsimp only
              try simp only [Act.put, List.setIfInBounds_toArray, List.set_cons_zero, List.set_cons_succ]
              refine ready_e (rs := [3]) (by kernel_rfl) (by simp) ?_
              refine (do_mid (o := _) rfl (fun K hK => ?_) none_e) -- [(110, 'F11')]
              go_simp
              go_at_call 11
              refine (HCK'.out [someN i dOne] _ 1 1 _ wz2 rfl (by simp only [partsL, someN_parts, dOne, conP, parts]; omega) ⟨W4.out, trivial⟩ (row_own (((Fr.refl _ _).then DZ2.out).keeps R_1.out no_one) trivial (Is.mono (Is.no I11.out (HZ2.out)) (fun _ _ => trivial))) (I_2.out.no (Fr.refl _ _)) (HZ2.out)).mono ?_
              rintro e' wz3 ⟨rfl, hf⟩
              have HZ3 : Hid (Fr No w0 wz3) := Lib.hid ((HZ2.out).then hf)
              have DZ3 : Hid (Fr No (wz2) wz3) := Lib.hid hf
              clear hf
              rw [HE2.out.2]
              refine hK.out _ _ ?_ (fun hHeld => ?_)
              · exact HS.out _ HZ3.out
              clear hK K
              try dsimp only
              try simp only [Act.put, List.setIfInBounds_toArray, List.set_cons_zero, List.set_cons_succ]
              refine take_op 4 (some 16) (Op.assign ( .tmp 110)) 26 ?_ (by kernel_rfl) (by kernel_rfl) (by kernel_rfl) (fun _ _ _ h => h) ?_ (by assumption) ?_
              rotate_left
              · intro w hSw; (try dsimp only at hSw); go_simp; (try (with_reducible rfl))
              try simp only [Act.put, List.setIfInBounds_toArray, List.set_cons_zero, List.set_cons_succ]
              refine done_e (by kernel_rfl) ?_ _
              (try simp only [Exit.inBlock, Exit.then])
              go_wp2_with fail
              go_meet
              exact ⟨rfl, Lib.hid (HZ3.out)⟩
            · skip
              go_simp
              go_at_call 16
              refine (infos_any _).mono ?_
              rintro e' wz4 ⟨hf, g_4, rfl, hi⟩
              have HZ4 : Hid (Fr No w0 wz4) := Lib.hid ((HFd.out).then hf)
              have DZ4 : Hid (Fr No (wd) wz4) := Lib.hid hf
              have I_4 := Lib.hid hi
              clear hf hi
              refine hK.out _ _ ?_ (fun hHeld => ?_)
              · exact HS.out _ HZ4.out
              clear hK K
              try dsimp only
              try simp only [Act.put, List.setIfInBounds_toArray, List.set_cons_zero, List.set_cons_succ]
              refine ready_e (rs := [1]) (by kernel_rfl) (by simp) ?_
              refine (do_mid (o := _) rfl (fun K hK => ?_) none_e) -- [(108, 'buildSlice')]
              go_simp
              obtain ⟨wz5, hn⟩ : ∃ w8, w8 = (wz4).alloc (.cells #[.int .u8 k11, .string s11, .int .i64 n11, .slice a11 m11 c11] 40) := ⟨_, rfl⟩
              obtain ⟨B_5, hg8⟩ : ∃ g8, (wz4).heap.size = g8 := ⟨_, rfl⟩
              have R_5 : Hid (wz5.heap[B_5]? = some (.cells #[.int .u8 k11, .string s11, .int .i64 n11, .slice a11 m11 c11] 40 (0, 0))) := Lib.hid (by rw [hn, ← hg8]; exact new_block _ _)
              have HZ5 : Hid (Fr No w0 wz5) := Lib.hid (by rw [hn]; exact (HZ4.out).then (Fr.alloc _ _))
              have DZ5 : Hid (Fr No (wz4) wz5) := Lib.hid (by rw [hn]; exact Fr.alloc _ _)
              have S_5 : Hid (w0.heap.size ≤ B_5) := Lib.hid (by rw [← hg8]; exact (HZ4.out).size)
              rw [← hn, hg8]
              clear hn hg8
              refine hK.out _ _ ?_ (fun hHeld => ?_)
              · exact HS.out _ HZ5.out
              clear hK K
              try dsimp only
              try simp only [Act.put, List.setIfInBounds_toArray, List.set_cons_zero, List.set_cons_succ]
              refine ready_e (rs := [3]) (by kernel_rfl) (by simp) ?_
              refine (do_mid (o := _) rfl (fun K hK => ?_) none_e) -- [(110, 'F11')]
              go_simp
              go_at_call 11
              refine (HCK'.out [someN i dOne] _ 1 1 _ wz5 rfl (by simp only [partsL, someN_parts, dOne, conP, parts]; omega) ⟨W4.out, trivial⟩ (row_own ((Fr.refl _ _).keeps R_5.out no_one) trivial (Is.mono (Is.no I11.out (HZ5.out)) (fun _ _ => trivial))) (I_4.out.no ((Fr.refl _ _).then DZ5.out)) (HZ5.out)).mono ?_
              rintro e' wz6 ⟨rfl, hf⟩
              have HZ6 : Hid (Fr No w0 wz6) := Lib.hid ((HZ5.out).then hf)
              have DZ6 : Hid (Fr No (wz5) wz6) := Lib.hid hf
              clear hf
              rw [HE2.out.2]
              refine hK.out _ _ ?_ (fun hHeld => ?_)
              · exact HS.out _ HZ6.out
              clear hK K
              try dsimp only
              try simp only [Act.put, List.setIfInBounds_toArray, List.set_cons_zero, List.set_cons_succ]
              refine take_op 4 (some 16) (Op.assign ( .tmp 110)) 26 ?_ (by kernel_rfl) (by kernel_rfl) (by kernel_rfl) (fun _ _ _ h => h) ?_ (by assumption) ?_
              rotate_left
              · intro w hSw; (try dsimp only at hSw); go_simp; (try (with_reducible rfl))
              try simp only [Act.put, List.setIfInBounds_toArray, List.set_cons_zero, List.set_cons_succ]
              refine done_e (by kernel_rfl) ?_ _
              (try simp only [Exit.inBlock, Exit.then])
              go_wp2_with fail
              go_meet
              exact ⟨rfl, Lib.hid (HZ6.out)⟩
          case rest =>
            obtain ⟨rfl, HF19⟩ := hcut
            go_upto_region 20 with fail
            go_cut [17] from 111 to 116 (fun v wx => v = .int .i64 12 ∧ Hid (Fr No w0 wx))
            case first =>
              obtain ⟨k8, s8, n8, a8, m8, c8, hr, hi'⟩ := T8.out
              have I8 := Lib.hid hi'
              have R8 := Lib.hid hr
              clear hr hi'
              obtain ⟨k9, s9, n9, a9, m9, c9, hr, hi'⟩ := T9.out
              have I9 := Lib.hid hi'
              have R9 := Lib.hid hr
              clear hr hi'
              obtain ⟨k12, s12, n12, a12, m12, c12, hr, hi'⟩ := T12.out
              have I12 := Lib.hid hi'
              have R12 := Lib.hid hr
              clear hr hi'
              have HS : Hid (∀ w', Fr No w0 w' → w'.cell? ⟨g8, 0, none⟩ = some (.int .u8 k8) ∧ w'.cell? ⟨g8, 1, none⟩ = some (.string s8) ∧ w'.cell? ⟨g8, 2, none⟩ = some (.int .i64 n8) ∧ w'.cell? ⟨g8, 3, none⟩ = some (.slice a8 m8 c8) ∧ w'.cell? ⟨g9, 0, none⟩ = some (.int .u8 k9) ∧ w'.cell? ⟨g9, 1, none⟩ = some (.string s9) ∧ w'.cell? ⟨g9, 2, none⟩ = some (.int .i64 n9) ∧ w'.cell? ⟨g9, 3, none⟩ = some (.slice a9 m9 c9) ∧ w'.cell? ⟨g12, 0, none⟩ = some (.int .u8 k12) ∧ w'.cell? ⟨g12, 1, none⟩ = some (.string s12) ∧ w'.cell? ⟨g12, 2, none⟩ = some (.int .i64 n12) ∧ w'.cell? ⟨g12, 3, none⟩ = some (.slice a12 m12 c12)) := Lib.hid (fun w' hf => ⟨cell_of (hf.keeps R8.out no_one) 0, cell_of (hf.keeps R8.out no_one) 1, cell_of (hf.keeps R8.out no_one) 2, cell_of (hf.keeps R8.out no_one) 3, cell_of (hf.keeps R9.out no_one) 0, cell_of (hf.keeps R9.out no_one) 1, cell_of (hf.keeps R9.out no_one) 2, cell_of (hf.keeps R9.out no_one) 3, cell_of (hf.keeps R12.out no_one) 0, cell_of (hf.keeps R12.out no_one) 1, cell_of (hf.keeps R12.out no_one) 2, cell_of (hf.keeps R12.out no_one) 3⟩)
              have HFb : Hid (Fr No w0 wc) := HF19
              refine region_e (fun w' => w'.cell? ⟨g8, 0, none⟩ = some (.int .u8 k8) ∧ w'.cell? ⟨g8, 1, none⟩ = some (.string s8) ∧ w'.cell? ⟨g8, 2, none⟩ = some (.int .i64 n8) ∧ w'.cell? ⟨g8, 3, none⟩ = some (.slice a8 m8 c8) ∧ w'.cell? ⟨g9, 0, none⟩ = some (.int .u8 k9) ∧ w'.cell? ⟨g9, 1, none⟩ = some (.string s9) ∧ w'.cell? ⟨g9, 2, none⟩ = some (.int .i64 n9) ∧ w'.cell? ⟨g9, 3, none⟩ = some (.slice a9 m9 c9) ∧ w'.cell? ⟨g12, 0, none⟩ = some (.int .u8 k12) ∧ w'.cell? ⟨g12, 1, none⟩ = some (.string s12) ∧ w'.cell? ⟨g12, 2, none⟩ = some (.int .i64 n12) ∧ w'.cell? ⟨g12, 3, none⟩ = some (.slice a12 m12 c12)) [] (by kernel_rfl) ?_ (fun hHeld => ?_)
              · exact HS.out _ (HFb.out.then (Fr.drew _))
              obtain ⟨wd, hwd⟩ : ∃ wd, wd = wc.drew := ⟨_, rfl⟩
              have HFd : Hid (Fr No w0 wd) := Lib.hid (by rw [hwd]; exact HFb.out.then (Fr.drew _))
              rw [← hwd] at hHeld ⊢
              clear hwd
              refine take_op 0 (some 111) (Op.load 40 ( .tmp 8)) 40 ?_ (by kernel_rfl) (by kernel_rfl) (by kernel_rfl) (fun _ _ _ h => h) ?_ (by assumption) ?_
              rotate_left
              · intro w hSw; (try dsimp only at hSw); go_simp; (try (with_reducible rfl))
              try simp only [Act.put, List.setIfInBounds_toArray, List.set_cons_zero, List.set_cons_succ]
              refine take_op 1 (some 112) (Op.load 40 ( .tmp 9)) 40 ?_ (by kernel_rfl) (by kernel_rfl) (by kernel_rfl) (fun _ _ _ h => h) ?_ (by assumption) ?_
              rotate_left
              · intro w hSw; (try dsimp only at hSw); go_simp; (try (with_reducible rfl))
              try simp only [Act.put, List.setIfInBounds_toArray, List.set_cons_zero, List.set_cons_succ]
              refine take_op 2 (some 113) (Op.load 40 ( .tmp 12)) 40 ?_ (by kernel_rfl) (by kernel_rfl) (by kernel_rfl) (fun _ _ _ h => h) ?_ (by assumption) ?_
              rotate_left
              · intro w hSw; (try dsimp only at hSw); go_simp; (try (with_reducible rfl))
              try simp only [Act.put, List.setIfInBounds_toArray, List.set_cons_zero, List.set_cons_succ]
              refine ready_e (rs := [3, 4]) (by kernel_rfl) (by simp) ?_
              refine (do_mid (o := _) rfl (fun K hK => ?_) (do_mid (o := _) rfl (fun K hK => ?_) none_e)) -- [(114, 'buildSlice'), (115, 'F16')]
              · skip
                go_simp
                obtain ⟨wz1, hn⟩ : ∃ w8, w8 = (wd).alloc (.cells #[.int .u8 k8, .string s8, .int .i64 n8, .slice a8 m8 c8, .int .u8 k9, .string s9, .int .i64 n9, .slice a9 m9 c9, .int .u8 k12, .string s12, .int .i64 n12, .slice a12 m12 c12] 40) := ⟨_, rfl⟩
                obtain ⟨B_1, hg8⟩ : ∃ g8, (wd).heap.size = g8 := ⟨_, rfl⟩
                have R_1 : Hid (wz1.heap[B_1]? = some (.cells #[.int .u8 k8, .string s8, .int .i64 n8, .slice a8 m8 c8, .int .u8 k9, .string s9, .int .i64 n9, .slice a9 m9 c9, .int .u8 k12, .string s12, .int .i64 n12, .slice a12 m12 c12] 40 (0, 0))) := Lib.hid (by rw [hn, ← hg8]; exact new_block _ _)
                have HZ1 : Hid (Fr No w0 wz1) := Lib.hid (by rw [hn]; exact (HFd.out).then (Fr.alloc _ _))
                have DZ1 : Hid (Fr No (wd) wz1) := Lib.hid (by rw [hn]; exact Fr.alloc _ _)
                have S_1 : Hid (w0.heap.size ≤ B_1) := Lib.hid (by rw [← hg8]; exact (HFd.out).size)
                rw [← hn, hg8]
                clear hn hg8
                refine hK.out _ _ ?_ (fun hHeld => ?_)
                · exact HS.out _ HZ1.out
                clear hK K
                try dsimp only
                try simp only [Act.put, List.setIfInBounds_toArray, List.set_cons_zero, List.set_cons_succ]
                refine ready_e (rs := [4]) (by kernel_rfl) (by simp) ?_
                refine (do_mid (o := _) rfl (fun K hK => ?_) none_e) -- [(115, 'F16')]
                go_simp
                go_at_call 16
                refine (infos_any _).mono ?_
                rintro e' wz2 ⟨hf, g_2, rfl, hi⟩
                have HZ2 : Hid (Fr No w0 wz2) := Lib.hid ((HZ1.out).then hf)
                have DZ2 : Hid (Fr No (wz1) wz2) := Lib.hid hf
                have I_2 := Lib.hid hi
                clear hf hi
                refine hK.out _ _ ?_ (fun hHeld => ?_)
                · exact HS.out _ HZ2.out
                clear hK K
                try dsimp only
                try simp only [Act.put, List.setIfInBounds_toArray, List.set_cons_zero, List.set_cons_succ]
                refine ready_e (rs := [5]) (by kernel_rfl) (by simp) ?_
                refine (do_mid (o := _) rfl (fun K hK => ?_) none_e) -- [(116, 'F11')]
                go_simp
                go_at_call 11
                refine (HCK'.out [someN i (eightAt q1), someN i (eightAt q2), someN i zOne] _ 3 3 _ wz2 rfl (by have := N1.out; have := N2.out; simp only [partsL, someN_parts, zOne, conP, parts]; omega) ⟨W1.out, W2.out, W5.out, trivial⟩ (row_own3 (((Fr.refl _ _).then DZ2.out).keeps R_1.out no_one) trivial (Is.mono (Is.no I8.out (HZ2.out)) (fun _ _ => trivial)) (Is.mono (Is.no I9.out (HZ2.out)) (fun _ _ => trivial)) (Is.mono (Is.no I12.out (HZ2.out)) (fun _ _ => trivial))) (I_2.out.no (Fr.refl _ _)) (HZ2.out)).mono ?_
                rintro e' wz3 ⟨rfl, hf⟩
                have HZ3 : Hid (Fr No w0 wz3) := Lib.hid ((HZ2.out).then hf)
                have DZ3 : Hid (Fr No (wz2) wz3) := Lib.hid hf
                clear hf
                rw [HE1.out.2]
                refine hK.out _ _ ?_ (fun hHeld => ?_)
                · exact HS.out _ HZ3.out
                clear hK K
                try dsimp only
                try simp only [Act.put, List.setIfInBounds_toArray, List.set_cons_zero, List.set_cons_succ]
                refine take_op 6 (some 17) (Op.assign ( .tmp 116)) 26 ?_ (by kernel_rfl) (by kernel_rfl) (by kernel_rfl) (fun _ _ _ h => h) ?_ (by assumption) ?_
                rotate_left
                · intro w hSw; (try dsimp only at hSw); go_simp; (try (with_reducible rfl))
                try simp only [Act.put, List.setIfInBounds_toArray, List.set_cons_zero, List.set_cons_succ]
                refine done_e (by kernel_rfl) ?_ _
                (try simp only [Exit.inBlock, Exit.then])
                go_wp2_with fail
                go_meet
                exact ⟨rfl, Lib.hid (HZ3.out)⟩
              · skip
                go_simp
                go_at_call 16
                refine (infos_any _).mono ?_
                rintro e' wz4 ⟨hf, g_4, rfl, hi⟩
                have HZ4 : Hid (Fr No w0 wz4) := Lib.hid ((HFd.out).then hf)
                have DZ4 : Hid (Fr No (wd) wz4) := Lib.hid hf
                have I_4 := Lib.hid hi
                clear hf hi
                refine hK.out _ _ ?_ (fun hHeld => ?_)
                · exact HS.out _ HZ4.out
                clear hK K
                try dsimp only
                try simp only [Act.put, List.setIfInBounds_toArray, List.set_cons_zero, List.set_cons_succ]
                refine ready_e (rs := [3]) (by kernel_rfl) (by simp) ?_
                refine (do_mid (o := _) rfl (fun K hK => ?_) none_e) -- [(114, 'buildSlice')]
                go_simp
                obtain ⟨wz5, hn⟩ : ∃ w8, w8 = (wz4).alloc (.cells #[.int .u8 k8, .string s8, .int .i64 n8, .slice a8 m8 c8, .int .u8 k9, .string s9, .int .i64 n9, .slice a9 m9 c9, .int .u8 k12, .string s12, .int .i64 n12, .slice a12 m12 c12] 40) := ⟨_, rfl⟩
                obtain ⟨B_5, hg8⟩ : ∃ g8, (wz4).heap.size = g8 := ⟨_, rfl⟩
                have R_5 : Hid (wz5.heap[B_5]? = some (.cells #[.int .u8 k8, .string s8, .int .i64 n8, .slice a8 m8 c8, .int .u8 k9, .string s9, .int .i64 n9, .slice a9 m9 c9, .int .u8 k12, .string s12, .int .i64 n12, .slice a12 m12 c12] 40 (0, 0))) := Lib.hid (by rw [hn, ← hg8]; exact new_block _ _)
                have HZ5 : Hid (Fr No w0 wz5) := Lib.hid (by rw [hn]; exact (HZ4.out).then (Fr.alloc _ _))
                have DZ5 : Hid (Fr No (wz4) wz5) := Lib.hid (by rw [hn]; exact Fr.alloc _ _)
                have S_5 : Hid (w0.heap.size ≤ B_5) := Lib.hid (by rw [← hg8]; exact (HZ4.out).size)
                rw [← hn, hg8]
                clear hn hg8
                refine hK.out _ _ ?_ (fun hHeld => ?_)
                · exact HS.out _ HZ5.out
                clear hK K
                try dsimp only
                try simp only [Act.put, List.setIfInBounds_toArray, List.set_cons_zero, List.set_cons_succ]
                refine ready_e (rs := [5]) (by kernel_rfl) (by simp) ?_
                refine (do_mid (o := _) rfl (fun K hK => ?_) none_e) -- [(116, 'F11')]
                go_simp
                go_at_call 11
                refine (HCK'.out [someN i (eightAt q1), someN i (eightAt q2), someN i zOne] _ 3 3 _ wz5 rfl (by have := N1.out; have := N2.out; simp only [partsL, someN_parts, zOne, conP, parts]; omega) ⟨W1.out, W2.out, W5.out, trivial⟩ (row_own3 ((Fr.refl _ _).keeps R_5.out no_one) trivial (Is.mono (Is.no I8.out (HZ5.out)) (fun _ _ => trivial)) (Is.mono (Is.no I9.out (HZ5.out)) (fun _ _ => trivial)) (Is.mono (Is.no I12.out (HZ5.out)) (fun _ _ => trivial))) (I_4.out.no ((Fr.refl _ _).then DZ5.out)) (HZ5.out)).mono ?_
                rintro e' wz6 ⟨rfl, hf⟩
                have HZ6 : Hid (Fr No w0 wz6) := Lib.hid ((HZ5.out).then hf)
                have DZ6 : Hid (Fr No (wz5) wz6) := Lib.hid hf
                clear hf
                rw [HE1.out.2]
                refine hK.out _ _ ?_ (fun hHeld => ?_)
                · exact HS.out _ HZ6.out
                clear hK K
                try dsimp only
                try simp only [Act.put, List.setIfInBounds_toArray, List.set_cons_zero, List.set_cons_succ]
                refine take_op 6 (some 17) (Op.assign ( .tmp 116)) 26 ?_ (by kernel_rfl) (by kernel_rfl) (by kernel_rfl) (fun _ _ _ h => h) ?_ (by assumption) ?_
                rotate_left
                · intro w hSw; (try dsimp only at hSw); go_simp; (try (with_reducible rfl))
                try simp only [Act.put, List.setIfInBounds_toArray, List.set_cons_zero, List.set_cons_succ]
                refine done_e (by kernel_rfl) ?_ _
                (try simp only [Exit.inBlock, Exit.then])
                go_wp2_with fail
                go_meet
                exact ⟨rfl, Lib.hid (HZ6.out)⟩
            case rest =>
              obtain ⟨rfl, HF20⟩ := hcut
              have CKL : Hid (∀ (l' : List T) (a' : Option Addr) (n' cap' g : Nat) (w' : World), l'.length = n' → partsL l' ≤ 1048576 → wfL infos18 l' → Row w.heap.size (fun _ => True) w' a' 0 l' → Infs w' (some ⟨g, 0, none⟩) infos18 → Fr No w0 w' → Calls Try.prog 11 #[.slice a' n' cap', .slice (some ⟨g, 0, none⟩) 8 8, .bool false] w' (SaidI w' (checkP infos18 l' false))) := HCK'
              go_wp2_with fail
              obtain ⟨w21, hn⟩ : ∃ w8, wc.alloc (.cells #[.int .u8 7, .string ⟨#[]⟩, .int .i64 0, .slice none 0 0] 40) = w8 := ⟨_, rfl⟩
              obtain ⟨gk, hg⟩ : ∃ g8, wc.heap.size = g8 := ⟨_, rfl⟩
              rw [hn, hg]
              have RK : Hid (w21.heap[gk]? = some (.cells #[.int .u8 7, .string ⟨#[]⟩, .int .i64 0, .slice none 0 0] 40 (0, 0))) := Lib.hid (by rw [← hn, ← hg]; exact new_block _ _)
              have HF21 : Hid (Fr No w0 w21) := Lib.hid (by rw [← hn]; exact HF20.out.then (Fr.alloc _ _))
              clear hn hg
              refine (infos_any _).mono ?_
              rintro e w22 ⟨hf, gi, rfl, hi⟩
              have HF22 := Lib.hid (HF21.out.then hf)
              have HI22 := Lib.hid hi
              have RK2 := Lib.hid (hf.keeps RK.out no_one)
              clear hf hi
              go_wp2_with fail
              refine (CKL.out [.mk 7 ⟨#[]⟩ 0 []] _ 1 1 _ w22 rfl (by decide) ⟨wf_mk18 (by omega) (by decide) (by simp) trivial, trivial⟩ (row_own RK2.out trivial (is_none' 7 _ 0)) HI22.out HF22.out).mono ?_
              rintro e w23 ⟨rfl, hf⟩
              have HF23 := Lib.hid (HF22.out.then hf)
              clear hf
              rw [HE3.out.1]
              go_wp2_with fail
              refine (wildf_any _).mono ?_
              rintro e w24 ⟨rfl, hf⟩
              have HF24 := Lib.hid (HF23.out.then hf)
              clear hf
              go_wp2_with fail
              obtain ⟨g25, hg⟩ : ∃ g, w24.heap.size = g := ⟨_, rfl⟩
              rw [hg]
              obtain ⟨w25, hn⟩ : ∃ w8, (w24.alloc (.cells #[.int .u8 1, .string ⟨#[]⟩, .int .i64 0, .slice none 0 0] 40)).alloc (.cells #[.int .u8 5, .string ⟨#[]⟩, .int .i64 0, .slice (some ⟨g25, 0, none⟩) 1 1] 40) = w8 := ⟨_, rfl⟩
              rw [hn]
              have RA : Hid (w25.heap[g25]? = some (.cells #[.int .u8 1, .string ⟨#[]⟩, .int .i64 0, .slice none 0 0] 40 (0, 0))) := Lib.hid (by rw [← hn, ← hg]; exact (Fr.alloc _ _).keeps (new_block _ _) no_one)
              have RB : Hid (w25.heap[g25 + 1]? = some (.cells #[.int .u8 5, .string ⟨#[]⟩, .int .i64 0, .slice (some ⟨g25, 0, none⟩) 1 1] 40 (0, 0))) := Lib.hid (by rw [← hn, ← hg]; exact new_block2' _ _ _)
              have HF25 : Hid (Fr No w0 w25) := Lib.hid (by rw [← hn]; exact (HF24.out.then (Fr.alloc _ _)).then (Fr.alloc _ _))
              clear hn hg
              refine (infos_any _).mono ?_
              rintro e w26 ⟨hf, gj, rfl, hi⟩
              have HF26 := Lib.hid (HF25.out.then hf)
              have HI26 := Lib.hid hi
              replace RA := Lib.hid (hf.keeps RA.out no_one)
              replace RB := Lib.hid (hf.keeps RB.out no_one)
              clear hf hi
              go_wp2_with fail
              refine (CKL.out [.mk 5 ⟨#[]⟩ 0 [anyP]] _ 1 1 _ w26 rfl (by decide) ⟨wf_mk18 (by omega) (by decide) (by simp) ⟨wf_any18, trivial⟩, trivial⟩ (row_own RB.out trivial (is_row 5 _ (row_own RA.out trivial (is_none' 1 _ 0)) rfl)) HI26.out HF26.out).mono ?_
              rintro e w27 ⟨rfl, hf⟩
              have HF27 := Lib.hid (HF26.out.then hf)
              clear hf
              rw [HE3.out.2]
              go_wp2_with fail
              refine (works_any _).mono ?_
              rintro e w28 ⟨rfl, hf⟩
              have HF28 := Lib.hid (HF27.out.then hf)
              clear hf
              go_wp2_with fail
              go_ret
              exact ⟨rfl, HF.out.then HF28.out⟩
    · have hlt : (i : Int) < (q3 : Int) := by omega
      have HOG : Hid (∀ g : Nat, g12 < g → ok g) := Lib.hid (fun g h => (HOK.out g).2 (by have := HL.out; omega))
      have HG8 : Hid (∀ b, ok b → b ≠ g8) := Lib.hid (fun b h => ((HOK.out b).1 h).1)
      have HG9 : Hid (∀ b, ok b → b ≠ g9) := Lib.hid (fun b h => ((HOK.out b).1 h).2.1)
      have HG10 : Hid (∀ b, ok b → b ≠ g10) := Lib.hid (fun b h => ((HOK.out b).1 h).2.2.1)
      have HG11 : Hid (∀ b, ok b → b ≠ g11) := Lib.hid (fun b h => ((HOK.out b).1 h).2.2.2.1)
      have HG12 : Hid (∀ b, ok b → b ≠ g12) := Lib.hid (fun b h => ((HOK.out b).1 h).2.2.2.2)
      have HS12 : Hid (g12 < wr.heap.size) := Lib.hid (by
        obtain ⟨_, _, _, _, _, _, h, _⟩ := P12.out
        exact lt_of_block h)
      obtain ⟨k, s, n, a, m, c, hr, hi'⟩ := P8.out
      have HI := Lib.hid hi'
      have R := Lib.hid hr
      clear hr hi' P8
      obtain ⟨⟨c0, c1, c2, c3⟩, f0, f1, f2, f3⟩ := z4 R.out
      go_wp2_with fail
      obtain ⟨wA8, hn⟩ : ∃ w8, wr.alloc (.cells #[.int .u8 k, .string s, .int .i64 n, .slice a m c] 40) = w8 := ⟨_, rfl⟩
      obtain ⟨gA, hg⟩ : ∃ g8, wr.heap.size = g8 := ⟨_, rfl⟩
      rw [hn, hg]
      have RA : Hid (wA8.heap[gA]? = some (.cells #[.int .u8 k, .string s, .int .i64 n, .slice a m c] 40 (0, 0))) := Lib.hid (by rw [← hn, ← hg]; exact new_block _ _)
      have HFA : Hid (Fr No wr wA8) := Lib.hid (by rw [← hn]; exact Fr.alloc _ _)
      have HOA : Hid (ok gA) := Lib.hid (HOG.out gA (by rw [← hg]; exact HS12.out))
      clear hn hg c0 c1 c2 c3 f0 f1 f2 f3
      refine (con_any _ _ _ _ _).mono ?_
      rintro e wB8 ⟨rfl, hf⟩
      replace RA := Lib.hid (hf.keeps RA.out no_one)
      replace HFA := Lib.hid (HFA.out.then hf)
      replace R := Lib.hid (HFA.out.keeps R.out no_one)
      clear hf
      obtain ⟨⟨c0, c1, c2, c3⟩, f0, f1, f2, f3⟩ := z4 R.out
      go_upto_region 11 with fail
      obtain ⟨h4, hs⟩ := four_cells (.int .u8 6) (.string ⟨#[83, 111, 109, 101]⟩) (.int .i64 0) (.slice (some ⟨gA, 0, none⟩) 1 1) R.out
      obtain ⟨wC8, hn⟩ : ∃ w8, (((wB8.setCell ⟨g8, 0, none⟩ (.int .u8 6)).setCell ⟨g8, 1, none⟩ (.string ⟨#[83, 111, 109, 101]⟩)).setCell ⟨g8, 2, none⟩ (.int .i64 0)).setCell ⟨g8, 3, none⟩ (.slice (some ⟨gA, 0, none⟩) 1 1) = w8 := ⟨_, rfl⟩
      rw [hn] at h4 hs
      rw [hn]
      clear hn c0 c1 c2 c3 f0 f1 f2 f3
      have P8' : Hid (Pt w.heap.size ok wC8 g8 (someN (i + 1) (eightAt q1))) := Lib.hid (wrap_pt HI.out RA.out HFA.out hs h4 HG8.out HOA.out)
      replace HF := Lib.hid ((HF.out.then HFA.out).own hs (fun j (h : j = g8) => by have := HL.out; omega))
      replace HS12 := Lib.hid (Nat.lt_of_lt_of_le HS12.out (Nat.le_trans HFA.out.size hs.size))
      replace P9 := Lib.hid ((P9.out.no HFA.out).keep hs (fun (h : g9 = g8) => by have := HL.out; omega) HG8.out)
      replace P10 := Lib.hid ((P10.out.no HFA.out).keep hs (fun (h : g10 = g8) => by have := HL.out; omega) HG8.out)
      replace P11 := Lib.hid ((P11.out.no HFA.out).keep hs (fun (h : g11 = g8) => by have := HL.out; omega) HG8.out)
      replace P12 := Lib.hid ((P12.out.no HFA.out).keep hs (fun (h : g12 = g8) => by have := HL.out; omega) HG8.out)
      have P8 := P8'
      clear P8' h4 hs RA HFA R HI HOA
      obtain ⟨k, s, n, a, m, c, hr, hi'⟩ := P9.out
      have HI := Lib.hid hi'
      have R := Lib.hid hr
      clear hr hi' P9
      obtain ⟨⟨c0, c1, c2, c3⟩, f0, f1, f2, f3⟩ := z4 R.out
      go_wp2_with fail
      obtain ⟨wA9, hn⟩ : ∃ w8, wC8.alloc (.cells #[.int .u8 k, .string s, .int .i64 n, .slice a m c] 40) = w8 := ⟨_, rfl⟩
      obtain ⟨gA, hg⟩ : ∃ g8, wC8.heap.size = g8 := ⟨_, rfl⟩
      rw [hn, hg]
      have RA : Hid (wA9.heap[gA]? = some (.cells #[.int .u8 k, .string s, .int .i64 n, .slice a m c] 40 (0, 0))) := Lib.hid (by rw [← hn, ← hg]; exact new_block _ _)
      have HFA : Hid (Fr No wC8 wA9) := Lib.hid (by rw [← hn]; exact Fr.alloc _ _)
      have HOA : Hid (ok gA) := Lib.hid (HOG.out gA (by rw [← hg]; exact HS12.out))
      clear hn hg c0 c1 c2 c3 f0 f1 f2 f3
      refine (con_any _ _ _ _ _).mono ?_
      rintro e wB9 ⟨rfl, hf⟩
      replace RA := Lib.hid (hf.keeps RA.out no_one)
      replace HFA := Lib.hid (HFA.out.then hf)
      replace R := Lib.hid (HFA.out.keeps R.out no_one)
      clear hf
      obtain ⟨⟨c0, c1, c2, c3⟩, f0, f1, f2, f3⟩ := z4 R.out
      go_upto_region 12 with fail
      obtain ⟨h4, hs⟩ := four_cells (.int .u8 6) (.string ⟨#[83, 111, 109, 101]⟩) (.int .i64 0) (.slice (some ⟨gA, 0, none⟩) 1 1) R.out
      obtain ⟨wC9, hn⟩ : ∃ w8, (((wB9.setCell ⟨g9, 0, none⟩ (.int .u8 6)).setCell ⟨g9, 1, none⟩ (.string ⟨#[83, 111, 109, 101]⟩)).setCell ⟨g9, 2, none⟩ (.int .i64 0)).setCell ⟨g9, 3, none⟩ (.slice (some ⟨gA, 0, none⟩) 1 1) = w8 := ⟨_, rfl⟩
      rw [hn] at h4 hs
      rw [hn]
      clear hn c0 c1 c2 c3 f0 f1 f2 f3
      have P9' : Hid (Pt w.heap.size ok wC9 g9 (someN (i + 1) (eightAt q2))) := Lib.hid (wrap_pt HI.out RA.out HFA.out hs h4 HG9.out HOA.out)
      replace HF := Lib.hid ((HF.out.then HFA.out).own hs (fun j (h : j = g9) => by have := HL.out; omega))
      replace HS12 := Lib.hid (Nat.lt_of_lt_of_le HS12.out (Nat.le_trans HFA.out.size hs.size))
      replace P8 := Lib.hid ((P8.out.no HFA.out).keep hs (fun (h : g8 = g9) => by have := HL.out; omega) HG9.out)
      replace P10 := Lib.hid ((P10.out.no HFA.out).keep hs (fun (h : g10 = g9) => by have := HL.out; omega) HG9.out)
      replace P11 := Lib.hid ((P11.out.no HFA.out).keep hs (fun (h : g11 = g9) => by have := HL.out; omega) HG9.out)
      replace P12 := Lib.hid ((P12.out.no HFA.out).keep hs (fun (h : g12 = g9) => by have := HL.out; omega) HG9.out)
      have P9 := P9'
      clear P9' h4 hs RA HFA R HI HOA
      obtain ⟨k, s, n, a, m, c, hr, hi'⟩ := P10.out
      have HI := Lib.hid hi'
      have R := Lib.hid hr
      clear hr hi' P10
      have HS : Hid (∀ w', Fr No wC9 w' → w'.cell? ⟨g10, 0, none⟩ = some (.int .u8 k) ∧ w'.cell? ⟨g10, 1, none⟩ = some (.string s) ∧ w'.cell? ⟨g10, 2, none⟩ = some (.int .i64 n) ∧ w'.cell? ⟨g10, 3, none⟩ = some (.slice a m c)) := Lib.hid (fun w' hf => ⟨cell_of (hf.keeps R.out no_one) 0, cell_of (hf.keeps R.out no_one) 1, cell_of (hf.keeps R.out no_one) 2, cell_of (hf.keeps R.out no_one) 3⟩)
      refine region_e (fun w' => w'.cell? ⟨g10, 0, none⟩ = some (.int .u8 k) ∧ w'.cell? ⟨g10, 1, none⟩ = some (.string s) ∧ w'.cell? ⟨g10, 2, none⟩ = some (.int .i64 n) ∧ w'.cell? ⟨g10, 3, none⟩ = some (.slice a m c)) [4] (by kernel_rfl) ?_ (fun hHeld => ?_)
      · exact HS.out _ (Fr.drew _)
      refine take_op 1 (some 73) (Op.load 40 ( .tmp 10)) 40 ?_ (by kernel_rfl) (by kernel_rfl) (by kernel_rfl) (fun _ _ _ h => h) ?_ (by assumption) ?_
      rotate_left
      · intro w hSw; (try dsimp only at hSw); go_simp; (try (with_reducible rfl))
      try simp only [Act.put, List.setIfInBounds_toArray, List.set_cons_zero, List.set_cons_succ]
      refine ready_e (rs := [0]) (by kernel_rfl) (by simp) ?_
      refine (do_mid (o := _) rfl (fun K hK => ?_) none_e) -- [(72, 'F18')]
      go_simp
      go_at_call 18
      refine (wildf_any _).mono ?_
      rintro e' wz1 ⟨rfl, hf⟩
      have HZ1 : Hid (Fr No wC9 wz1) := Lib.hid (((Fr.drew wC9)).then hf)
      have DZ1 : Hid (Fr No (wC9.drew) wz1) := Lib.hid hf
      clear hf
      refine hK.out _ _ ?_ (fun hHeld => ?_)
      · exact HS.out _ HZ1.out
      clear hK K
      try dsimp only
      try simp only [Act.put, List.setIfInBounds_toArray, List.set_cons_zero, List.set_cons_succ]
      refine ready_e (rs := [2]) (by kernel_rfl) (by simp) ?_
      refine (do_mid (o := _) rfl (fun K hK => ?_) none_e) -- [(74, 'buildSlice')]
      go_simp
      obtain ⟨wz2, hn⟩ : ∃ w8, w8 = (wz1).alloc (.cells #[.int .u8 1, .string ⟨#[]⟩, .int .i64 0, .slice none 0 0, .int .u8 k, .string s, .int .i64 n, .slice a m c] 40) := ⟨_, rfl⟩
      obtain ⟨B_2, hg8⟩ : ∃ g8, (wz1).heap.size = g8 := ⟨_, rfl⟩
      have R_2 : Hid (wz2.heap[B_2]? = some (.cells #[.int .u8 1, .string ⟨#[]⟩, .int .i64 0, .slice none 0 0, .int .u8 k, .string s, .int .i64 n, .slice a m c] 40 (0, 0))) := Lib.hid (by rw [hn, ← hg8]; exact new_block _ _)
      have HZ2 : Hid (Fr No wC9 wz2) := Lib.hid (by rw [hn]; exact (HZ1.out).then (Fr.alloc _ _))
      have DZ2 : Hid (Fr No (wz1) wz2) := Lib.hid (by rw [hn]; exact Fr.alloc _ _)
      have S_2 : Hid (wC9.heap.size ≤ B_2) := Lib.hid (by rw [← hg8]; exact (HZ1.out).size)
      rw [← hn, hg8]
      clear hn hg8
      refine hK.out _ _ ?_ (fun hHeld => ?_)
      · exact HS.out _ HZ2.out
      clear hK K
      try dsimp only
      try simp only [Act.put, List.setIfInBounds_toArray, List.set_cons_zero, List.set_cons_succ]
      refine take_op 3 (some 75) (Op.build 40 #[(0,  .const (.int .u8 5)), (3,  .tmp 74)]) 40 ?_ (by kernel_rfl) (by kernel_rfl) (by kernel_rfl) (fun _ _ _ h => h) ?_ (by assumption) ?_
      rotate_left
      · intro w hSw; (try dsimp only at hSw); go_simp; (try (with_reducible rfl))
      try simp only [Act.put, List.setIfInBounds_toArray, List.set_cons_zero, List.set_cons_succ]
      obtain ⟨⟨c0, c1, c2, c3⟩, f0, f1, f2, f3⟩ := z4 (HZ2.out.keeps R.out no_one)
      refine ready_e (rs := [4]) (by kernel_rfl) (by simp) ?_
      refine (do_late (o := _) rfl (by kernel_rfl) (fun K hK => ?_) none_e) -- [(None, 'store')]
      go_simp
      obtain ⟨h4, hs⟩ := four_cells (.int .u8 5) (.string ⟨#[]⟩) (.int .i64 0) (.slice (some ⟨B_2, 0, none⟩) 2 2) (HZ2.out.keeps R.out no_one)
      obtain ⟨wC10, hn⟩ : ∃ w8, (((wz2.setCell ⟨g10, 0, none⟩ (.int .u8 5)).setCell ⟨g10, 1, none⟩ (.string ⟨#[]⟩)).setCell ⟨g10, 2, none⟩ (.int .i64 0)).setCell ⟨g10, 3, none⟩ (.slice (some ⟨B_2, 0, none⟩) 2 2) = w8 := ⟨_, rfl⟩
      rw [hn] at h4 hs
      rw [hn]
      clear hn c0 c1 c2 c3 f0 f1 f2 f3
      refine hK.out _ _ ?_
      clear hK K
      try dsimp only
      try simp only [Act.put, List.setIfInBounds_toArray, List.set_cons_zero, List.set_cons_succ]
      refine done_e (by kernel_rfl) ?_ _
      (try simp only [Exit.inBlock, Exit.then])
      have RA := R_2
      have HFA := HZ2
      have HOA : Hid (ok B_2) := Lib.hid (HOG.out _ (Nat.lt_of_lt_of_le HS12.out S_2.out))
      have P10' : Hid (Pt w.heap.size ok wC10 g10 (tupN (i + 1) cOne)) := Lib.hid (wrap_tup HI.out RA.out HFA.out hs h4 HG10.out HOA.out)
      replace HF := Lib.hid ((HF.out.then HFA.out).own hs (fun j (h : j = g10) => by have := HL.out; omega))
      replace HS12 := Lib.hid (Nat.lt_of_lt_of_le HS12.out (Nat.le_trans HFA.out.size hs.size))
      replace P8 := Lib.hid ((P8.out.no HFA.out).keep hs (fun (h : g8 = g10) => by have := HL.out; omega) HG10.out)
      replace P9 := Lib.hid ((P9.out.no HFA.out).keep hs (fun (h : g9 = g10) => by have := HL.out; omega) HG10.out)
      replace P11 := Lib.hid ((P11.out.no HFA.out).keep hs (fun (h : g11 = g10) => by have := HL.out; omega) HG10.out)
      replace P12 := Lib.hid ((P12.out.no HFA.out).keep hs (fun (h : g12 = g10) => by have := HL.out; omega) HG10.out)
      have P10 := P10'
      clear P10' h4 hs RA HFA R HI HOA HS R_2 S_2 HZ1 HZ2 DZ1 DZ2
      obtain ⟨k, s, n, a, m, c, hr, hi'⟩ := P11.out
      have HI := Lib.hid hi'
      have R := Lib.hid hr
      clear hr hi' P11
      obtain ⟨⟨c0, c1, c2, c3⟩, f0, f1, f2, f3⟩ := z4 R.out
      go_wp2_with fail
      obtain ⟨wA11, hn⟩ : ∃ w8, wC10.alloc (.cells #[.int .u8 k, .string s, .int .i64 n, .slice a m c] 40) = w8 := ⟨_, rfl⟩
      obtain ⟨gA, hg⟩ : ∃ g8, wC10.heap.size = g8 := ⟨_, rfl⟩
      rw [hn, hg]
      have RA : Hid (wA11.heap[gA]? = some (.cells #[.int .u8 k, .string s, .int .i64 n, .slice a m c] 40 (0, 0))) := Lib.hid (by rw [← hn, ← hg]; exact new_block _ _)
      have HFA : Hid (Fr No wC10 wA11) := Lib.hid (by rw [← hn]; exact Fr.alloc _ _)
      have HOA : Hid (ok gA) := Lib.hid (HOG.out gA (by rw [← hg]; exact HS12.out))
      clear hn hg c0 c1 c2 c3 f0 f1 f2 f3
      refine (con_any _ _ _ _ _).mono ?_
      rintro e wB11 ⟨rfl, hf⟩
      replace RA := Lib.hid (hf.keeps RA.out no_one)
      replace HFA := Lib.hid (HFA.out.then hf)
      replace R := Lib.hid (HFA.out.keeps R.out no_one)
      clear hf
      obtain ⟨⟨c0, c1, c2, c3⟩, f0, f1, f2, f3⟩ := z4 R.out
      go_upto_region 14 with fail
      obtain ⟨h4, hs⟩ := four_cells (.int .u8 6) (.string ⟨#[83, 111, 109, 101]⟩) (.int .i64 0) (.slice (some ⟨gA, 0, none⟩) 1 1) R.out
      obtain ⟨wC11, hn⟩ : ∃ w8, (((wB11.setCell ⟨g11, 0, none⟩ (.int .u8 6)).setCell ⟨g11, 1, none⟩ (.string ⟨#[83, 111, 109, 101]⟩)).setCell ⟨g11, 2, none⟩ (.int .i64 0)).setCell ⟨g11, 3, none⟩ (.slice (some ⟨gA, 0, none⟩) 1 1) = w8 := ⟨_, rfl⟩
      rw [hn] at h4 hs
      rw [hn]
      clear hn c0 c1 c2 c3 f0 f1 f2 f3
      have P11' : Hid (Pt w.heap.size ok wC11 g11 (someN (i + 1) dOne)) := Lib.hid (wrap_pt HI.out RA.out HFA.out hs h4 HG11.out HOA.out)
      replace HF := Lib.hid ((HF.out.then HFA.out).own hs (fun j (h : j = g11) => by have := HL.out; omega))
      replace HS12 := Lib.hid (Nat.lt_of_lt_of_le HS12.out (Nat.le_trans HFA.out.size hs.size))
      replace P8 := Lib.hid ((P8.out.no HFA.out).keep hs (fun (h : g8 = g11) => by have := HL.out; omega) HG11.out)
      replace P9 := Lib.hid ((P9.out.no HFA.out).keep hs (fun (h : g9 = g11) => by have := HL.out; omega) HG11.out)
      replace P10 := Lib.hid ((P10.out.no HFA.out).keep hs (fun (h : g10 = g11) => by have := HL.out; omega) HG11.out)
      replace P12 := Lib.hid ((P12.out.no HFA.out).keep hs (fun (h : g12 = g11) => by have := HL.out; omega) HG11.out)
      have P11 := P11'
      clear P11' h4 hs RA HFA R HI HOA
      obtain ⟨k, s, n, a, m, c, hr, hi'⟩ := P12.out
      have HI := Lib.hid hi'
      have R := Lib.hid hr
      clear hr hi' P12
      obtain ⟨⟨c0, c1, c2, c3⟩, f0, f1, f2, f3⟩ := z4 R.out
      go_wp2_with fail
      obtain ⟨wA12, hn⟩ : ∃ w8, wC11.alloc (.cells #[.int .u8 k, .string s, .int .i64 n, .slice a m c] 40) = w8 := ⟨_, rfl⟩
      obtain ⟨gA, hg⟩ : ∃ g8, wC11.heap.size = g8 := ⟨_, rfl⟩
      rw [hn, hg]
      have RA : Hid (wA12.heap[gA]? = some (.cells #[.int .u8 k, .string s, .int .i64 n, .slice a m c] 40 (0, 0))) := Lib.hid (by rw [← hn, ← hg]; exact new_block _ _)
      have HFA : Hid (Fr No wC11 wA12) := Lib.hid (by rw [← hn]; exact Fr.alloc _ _)
      have HOA : Hid (ok gA) := Lib.hid (HOG.out gA (by rw [← hg]; exact HS12.out))
      clear hn hg c0 c1 c2 c3 f0 f1 f2 f3
      refine (con_any _ _ _ _ _).mono ?_
      rintro e wB12 ⟨rfl, hf⟩
      replace RA := Lib.hid (hf.keeps RA.out no_one)
      replace HFA := Lib.hid (HFA.out.then hf)
      replace R := Lib.hid (HFA.out.keeps R.out no_one)
      clear hf
      obtain ⟨⟨c0, c1, c2, c3⟩, f0, f1, f2, f3⟩ := z4 R.out
      go_wp2_with fail
      obtain ⟨h4, hs⟩ := four_cells (.int .u8 6) (.string ⟨#[83, 111, 109, 101]⟩) (.int .i64 0) (.slice (some ⟨gA, 0, none⟩) 1 1) R.out
      obtain ⟨wC12, hn⟩ : ∃ w8, (((wB12.setCell ⟨g12, 0, none⟩ (.int .u8 6)).setCell ⟨g12, 1, none⟩ (.string ⟨#[83, 111, 109, 101]⟩)).setCell ⟨g12, 2, none⟩ (.int .i64 0)).setCell ⟨g12, 3, none⟩ (.slice (some ⟨gA, 0, none⟩) 1 1) = w8 := ⟨_, rfl⟩
      rw [hn] at h4 hs
      rw [hn]
      clear hn c0 c1 c2 c3 f0 f1 f2 f3
      have P12' : Hid (Pt w.heap.size ok wC12 g12 (someN (i + 1) zOne)) := Lib.hid (wrap_pt HI.out RA.out HFA.out hs h4 HG12.out HOA.out)
      replace HF := Lib.hid ((HF.out.then HFA.out).own hs (fun j (h : j = g12) => by have := HL.out; omega))
      replace HS12 := Lib.hid (Nat.lt_of_lt_of_le HS12.out (Nat.le_trans HFA.out.size hs.size))
      replace P8 := Lib.hid ((P8.out.no HFA.out).keep hs (fun (h : g8 = g12) => by have := HL.out; omega) HG12.out)
      replace P9 := Lib.hid ((P9.out.no HFA.out).keep hs (fun (h : g9 = g12) => by have := HL.out; omega) HG12.out)
      replace P10 := Lib.hid ((P10.out.no HFA.out).keep hs (fun (h : g10 = g12) => by have := HL.out; omega) HG12.out)
      replace P11 := Lib.hid ((P11.out.no HFA.out).keep hs (fun (h : g11 = g12) => by have := HL.out; omega) HG12.out)
      have P12 := P12'
      clear P12' h4 hs RA HFA R HI HOA
      exact ⟨⟨i + 1, by omega, by go_num, P8, P9, P10, P11, P12, HF⟩, by simp [intOf]; omega⟩
end Go.Proofs.Ythjecikdkdjlaaa
