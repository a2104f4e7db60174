/- Put; Apply. -/
import Derived.Test.YtfjddfcndammdaaSm
import Derived.Test.YtfjddfcndammdaaApply
import Derived.Test.YtfjddfcndammdaaOwn
namespace Go.Proofs.Ytfjddfcndammdaa
open Go.RowKit

set_option maxHeartbeats 2000000 in
theorem put_any (l : List T) (m : Nat) (hl : l.length = m) (hp : ∀ t ∈ l, parts t ≤ 1048576) (t : T) (ht : parts t ≤ 1048576) (B0 : Nat) (ok : Nat → Prop) (B1 : Nat) (ok1 : Nat → Prop) (v : Value) (a : Option Addr) (cap : Nat) (w : World) (hi : Is B0 ok w t v) (hrow : Row B1 ok1 w a 0 l) :
    Calls Try.prog 27 #[v, .slice a m cap] w (MadeT w (putT l t)) := by
  have HW := Lib.hid (fun w' c (hf : Fr No w w') (hc : w'.cell? ⟨c, 0, none⟩ = some (.slice a m cap)) => walk_any (putF l) 47 #[.pointer (some ⟨c, 0, none⟩)] enters47 (parts t) t (putT l t) (Nat.le_refl _) ht (walk_put l t) B0 ok v w' (hi.no hf) (put_of l m hl hp B1 ok1 a cap c w' (Row.keep (Stays.of_no hf) (fun _ h => h) a 0 l hrow) hc))
  obtain ⟨x0, x1, x2, x3, rfl⟩ := is_agg hi
  obtain ⟨k1, s1, n1, aa1, mm1, cc1, rfl, rfl, rfl, rfl⟩ := is_cells hi
  have hF := ((Fr.alloc w (.cells #[.int .u8 k1, .string s1, .int .i64 n1, .slice aa1 mm1 cc1] 24)).then (Fr.alloc _ (.cells #[.slice a m cap] 22))).then (Fr.alloc _ (.cells #[.int .u8 0, .string ⟨#[]⟩, .int .i64 0, .slice none 0 0] 24))
  have HF := Lib.hid hF
  have hc := new_block (w.alloc (.cells #[.int .u8 k1, .string s1, .int .i64 n1, .slice aa1 mm1 cc1] 24)) (.cells #[.slice a m cap] 22)
  rw [size_alloc] at hc
  have HC := Lib.hid (HW.out _ (w.heap.size + 1) hF (cell_of (keep_alloc hc _) 0))
  have hnb := new_block ((w.alloc (.cells #[.int .u8 k1, .string s1, .int .i64 n1, .slice aa1 mm1 cc1] 24)).alloc (.cells #[.slice a m cap] 22)) (.cells #[.int .u8 0, .string ⟨#[]⟩, .int .i64 0, .slice none 0 0] 24)
  rw [size_alloc, size_alloc] at hnb
  have HN := Lib.hid hnb
  have HSZ : Hid ((((w.alloc (.cells #[.int .u8 k1, .string s1, .int .i64 n1, .slice aa1 mm1 cc1] 24)).alloc (.cells #[.slice a m cap] 22)).alloc (.cells #[.int .u8 0, .string ⟨#[]⟩, .int .i64 0, .slice none 0 0] 24)).heap.size = w.heap.size + 1 + 1 + 1) := Lib.hid (by rw [size_alloc, size_alloc, size_alloc])
  clear hF hnb hc hi hrow hp hl
  go_enter Try.func27, Try.ntmps27
  go_wp2_with fail
  refine HC.out.mono ?_
  rintro e w2 ⟨v2, rfl, his2, hf2⟩
  obtain ⟨y0, y1, y2, y3, rfl⟩ := is_agg his2
  obtain ⟨k3, s3, n3, aa3, mm3, cc3, rfl, rfl, rfl, rfl⟩ := is_cells his2
  have R1 := Lib.hid (hf2.keeps HN.out no_one)
  obtain ⟨⟨z0, z1, z2, z3⟩, y0, y1, y2, y3⟩ := z24 R1.out
  have HIS := Lib.hid (his2.mono (ok' := fun b => w.heap.size + 1 + 1 < b) (fun b hb => by rw [HSZ.out] at hb; omega))
  have HF2 := Lib.hid (HF.out.then hf2)
  clear his2 hf2
  go_wp2_with fail
  (try simp only [Exit.inBlock, Exit.then])
  refine bodyPost_ret (results_ty rfl _ _ (w.heap.size + 1 + 1) _ rfl rfl (four_block R1.out _ _ _ _)) rfl ?_
  exact ⟨_, rfl, made_close (by omega) HF2.out HIS.out _ _ _ _⟩
/-- what Apply comes to -/
def Applied (many : Nat) (l : Bs) (t u : T) : Prop :=
  (may many t = false ∧ u = t) ∨ (Good many t ∧ ∃ F x, ap l F t = some x ∧ ((greatT x = true ∧ u = zeroT) ∨ (greatT x = false ∧ u = x)))
set_option maxHeartbeats 1000000 in
theorem Apply_nil (v : Value) (hv : ∃ x0 x1 x2 x3, v = .agg #[x0, x1, x2, x3]) (w : World) : Calls Try.prog 14 #[.pointer none, v] w fun e w' => e = .returned (.agg #[.int .u8 0, .string ⟨#[]⟩, .int .i64 0, .slice none 0 0]) ∧ Fr No w w' := by
  obtain ⟨x0, x1, x2, x3, rfl⟩ := hv
  have h := new_block (w.alloc (.cells #[x0, x1, x2, x3] 24)) (.cells #[.int .u8 0, .string ⟨#[]⟩, .int .i64 0, .slice none 0 0] 24)
  rw [size_alloc] at h
  have H := Lib.hid h
  clear h
  go_enter Try.func14, Try.ntmps14
  go_wp2_with fail
  (try simp only [Exit.inBlock, Exit.then])
  refine bodyPost_ret (results_ty rfl _ _ (w.heap.size + 1) _ rfl rfl H.out) rfl ?_
  exact ⟨rfl, (Fr.alloc w _).then (Fr.alloc _ _)⟩
set_option maxHeartbeats 4000000 in
theorem Apply_any (base N g many : Nat) (l : Bs) (hw : Fine many l) (t u : T) (hpt : parts t ≤ 1048576) (hu : Applied many l t u) (v : Value) (w : World) (hbk : BkR base w g many l N) (hN : N ≤ w.heap.size) (hi : IsT base w t v) :
    Calls Try.prog 14 #[.pointer (some ⟨g, 0, none⟩), v] w (MadeT w u) := by
  have HM := Lib.hid (fun w' (hf : Fr No w w') => may_any g many base t hpt v w' (hi.no hf) (hf.cell hbk.cell0))
  have HC := Lib.hid (fun w' (hf : Fr No w w') => copied_any t hpt base (fun _ => True) v w' (hi.no hf))
  have HU := Lib.hid hu
  have HX := Lib.hid (And.intro hbk hi)
  have HFI := Lib.hid hw
  obtain ⟨x0, x1, x2, x3, rfl⟩ := is_agg hi
  obtain ⟨k1, s1, n1, aa1, mm1, cc1, rfl, rfl, rfl, rfl⟩ := is_cells hi
  obtain ⟨w0, hw0⟩ : ∃ w0, w0 = (w.alloc (.cells #[.int .u8 k1, .string s1, .int .i64 n1, .slice aa1 mm1 cc1] 24)).alloc (.cells #[.int .u8 0, .string ⟨#[]⟩, .int .i64 0, .slice none 0 0] 24) := ⟨_, rfl⟩
  have r0 : Hid (w0.heap[w.heap.size]? = some (.cells #[.int .u8 k1, .string s1, .int .i64 n1, .slice aa1 mm1 cc1] 24 (0, 0))) := Lib.hid (by rw [hw0]; exact keep_alloc (new_block w _) _)
  have r1 : Hid (w0.heap[w.heap.size + 1]? = some (.cells #[.int .u8 0, .string ⟨#[]⟩, .int .i64 0, .slice none 0 0] 24 (0, 0))) := Lib.hid (by
    have h := new_block (w.alloc (.cells #[.int .u8 k1, .string s1, .int .i64 n1, .slice aa1 mm1 cc1] 24)) (.cells #[.int .u8 0, .string ⟨#[]⟩, .int .i64 0, .slice none 0 0] 24)
    rw [size_alloc] at h
    rw [hw0]
    exact h)
  have HF0 : Hid (Fr No w w0) := Lib.hid (by rw [hw0]; exact (Fr.alloc _ _).then (Fr.alloc _ _))
  have hs0 : w0.heap.size = w.heap.size + 1 + 1 := by rw [hw0, size_alloc, size_alloc]
  have HS0 := Lib.hid hs0
  clear hi hbk hu hw hs0
  go_enter Try.func14, Try.ntmps14
  go_upto_region 3 with fail
  rw [← hw0]
  obtain ⟨gt, hg⟩ : ∃ gt, w.heap.size = gt := ⟨_, rfl⟩
  obtain ⟨g1, hg1⟩ : ∃ g1, gt + 1 = g1 := ⟨_, rfl⟩
  rw [hg] at r0 r1 HS0 ⊢
  rw [hg1] at r1 HS0 ⊢
  have hgs : w.heap.size ≤ gt ∧ w.heap.size ≤ g1 := by omega
  clear hg hg1 hw0
  obtain ⟨p0, p1, p2, p3⟩ : w0.cell? ⟨gt, 0, none⟩ = some (.int .u8 k1) ∧ w0.cell? ⟨gt, 1, none⟩ = some (.string s1) ∧ w0.cell? ⟨gt, 2, none⟩ = some (.int .i64 n1) ∧ w0.cell? ⟨gt, 3, none⟩ = some (.slice aa1 mm1 cc1) := ⟨cell_of r0.out 0, cell_of r0.out 1, cell_of r0.out 2, cell_of r0.out 3⟩
  go_wp2_with fail
  refine (HM.out _ HF0.out).mono ?_
  rintro e w1 ⟨rfl, hf1⟩
  have HF1 := Lib.hid hf1
  have R0 := Lib.hid (hf1.keeps r0.out no_one)
  have R1 := Lib.hid (hf1.keeps r1.out no_one)
  clear p0 p1 p2 p3 hf1
  obtain ⟨p0, p1, p2, p3⟩ : w1.cell? ⟨gt, 0, none⟩ = some (.int .u8 k1) ∧ w1.cell? ⟨gt, 1, none⟩ = some (.string s1) ∧ w1.cell? ⟨gt, 2, none⟩ = some (.int .i64 n1) ∧ w1.cell? ⟨gt, 3, none⟩ = some (.slice aa1 mm1 cc1) := ⟨cell_of R0.out 0, cell_of R0.out 1, cell_of R0.out 2, cell_of R0.out 3⟩
  cases hm : may many t with
  | false =>
    have hu := HU.out
    rcases hu with ⟨_, rfl⟩ | ⟨h, _⟩
    case inr => rw [may_good.2 h] at hm; cases hm
    clear hm HU
    go_wp2_with fail
    refine (HC.out _ (HF0.out.then HF1.out)).mono ?_
    rintro e w2 ⟨v2, rfl, his2, hf2⟩
    obtain ⟨y0, y1, y2, y3, rfl⟩ := is_agg his2
    obtain ⟨k3, s3, n3, aa3, mm3, cc3, rfl, rfl, rfl, rfl⟩ := is_cells his2
    have Q1 := Lib.hid (hf2.keeps R1.out no_one)
    obtain ⟨⟨z0, z1, z2, z3⟩, y0, y1, y2, y3⟩ := z24 Q1.out
    have HIS := Lib.hid (his2.mono (ok' := fun b => g1 < b) (fun b hb => by have h1 := HF1.out.size; have h2 := HS0.out; omega))
    have HF2 := Lib.hid ((HF0.out.then HF1.out).then hf2)
    clear his2 hf2
    go_wp2_with fail
    (try simp only [Exit.inBlock, Exit.then])
    refine bodyPost_ret (results_ty rfl _ _ g1 _ rfl rfl (four_block Q1.out _ _ _ _)) rfl ?_
    exact ⟨_, rfl, made_close hgs.2 HF2.out HIS.out _ _ _ _⟩
  | true =>
  rcases HU.out with ⟨hm', _⟩ | ⟨hgood, F, x, hx, hrest⟩
  · rw [hm'] at hm
    cases hm
  have HG := Lib.hid (great_any base N g many l HFI.out F t x hx hgood hpt _ w1 (HX.out.1.no (HF0.out.then HF1.out)) (Nat.le_trans hN (HF0.out.then HF1.out).size) (HX.out.2.no (HF0.out.then HF1.out)))
  have HA := Lib.hid (fun w' (hf : Fr No w w') => apply_any base N g many l HFI.out F t x hgood hpt hx (.agg #[.int .u8 k1, .string s1, .int .i64 n1, .slice aa1 mm1 cc1]) w' (HX.out.1.no hf) (HX.out.2.no hf))
  have HR := Lib.hid hrest
  clear hm hgood hx hrest HU HC HM
  go_wp2_with fail
  refine HG.out.mono ?_
  rintro e w2 ⟨rfl, hf2⟩
  have HF2 := Lib.hid ((HF0.out.then HF1.out).then hf2)
  have Q0 := Lib.hid (hf2.keeps R0.out no_one)
  have Q1 := Lib.hid (hf2.keeps R1.out no_one)
  have HSZ : Hid (g1 < w2.heap.size) := Lib.hid (lt_of_block Q1.out)
  clear p0 p1 p2 p3 hf2
  obtain ⟨p0, p1, p2, p3⟩ : w2.cell? ⟨gt, 0, none⟩ = some (.int .u8 k1) ∧ w2.cell? ⟨gt, 1, none⟩ = some (.string s1) ∧ w2.cell? ⟨gt, 2, none⟩ = some (.int .i64 n1) ∧ w2.cell? ⟨gt, 3, none⟩ = some (.slice aa1 mm1 cc1) := ⟨cell_of Q0.out 0, cell_of Q0.out 1, cell_of Q0.out 2, cell_of Q0.out 3⟩
  cases hgx : greatT x with
  | true =>
    have hr := HR.out
    rw [hgx] at hr
    rcases hr with ⟨_, rfl⟩ | ⟨h, _⟩
    case inr => cases h
    clear hgx HR
    obtain ⟨⟨z0, z1, z2, z3⟩, y0, y1, y2, y3⟩ := z24 Q1.out
    go_wp2_with fail
    (try simp only [Exit.inBlock, Exit.then])
    refine bodyPost_ret (results_ty rfl _ _ g1 _ rfl rfl (four_block Q1.out _ _ _ _)) rfl ?_
    exact ⟨_, rfl, made_close hgs.2 HF2.out (is_none 0 ⟨#[]⟩ 0) _ _ _ _⟩
  | false =>
    have hr := HR.out
    rw [hgx] at hr
    rcases hr with ⟨h, _⟩ | ⟨_, rfl⟩
    · cases h
    clear hgx HR
    go_wp2_with fail
    refine (HA.out _ HF2.out).mono ?_
    rintro e w3 ⟨v2, rfl, his2, hf3⟩
    obtain ⟨y0, y1, y2, y3, rfl⟩ := is_agg his2
    obtain ⟨k3, s3, n3, aa3, mm3, cc3, rfl, rfl, rfl, rfl⟩ := is_cells his2
    have P1 := Lib.hid (hf3.keeps Q1.out no_one)
    obtain ⟨⟨z0, z1, z2, z3⟩, y0, y1, y2, y3⟩ := z24 P1.out
    have HIS := Lib.hid (his2.mono (ok' := fun b => g1 < b) (fun b hb => by have h2 := HSZ.out; omega))
    have HF3 := Lib.hid (HF2.out.then hf3)
    clear his2 hf3
    go_wp2_with fail
    (try simp only [Exit.inBlock, Exit.then])
    refine bodyPost_ret (results_ty rfl _ _ g1 _ rfl rfl (four_block P1.out _ _ _ _)) rfl ?_
    exact ⟨_, rfl, made_close hgs.2 HF3.out HIS.out _ _ _ _⟩
end Go.Proofs.Ytfjddfcndammdaa
