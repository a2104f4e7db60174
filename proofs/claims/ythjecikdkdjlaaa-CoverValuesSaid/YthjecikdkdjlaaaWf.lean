/- Is a constructor among patterns told by no info? -/
import Derived.Test.YthjecikdkdjlaaaWe
namespace Go.Proofs.Ythjecikdkdjlaaa
open Go.RowKit

theorem enters25 (args : Array Value) (u : World) : Sem.run Try.prog (callFunc 25 args) u = .ok (.enter 25 args) u := by kernel_rfl
set_option maxHeartbeats 2000000 in
theorem one_unk (is : List Inf) (gb gc : Nat) (k : Nat) (s : ByteArray) (n : Int) (aa : Option Addr) (mm cc : Nat) (w : World) (B : Bool) (hc : Chk w gc is) (hb : w.cell? ⟨gb, 0, none⟩ = some (.pointer (some ⟨gc, 0, none⟩)))
    (h : Hid (∀ w', Fr No w w' → Calls Try.prog 21 #[.pointer (some ⟨gc, 0, none⟩), .slice aa mm cc] w' (SaidT w' B))) :
    Calls Try.prog 25 #[.agg #[.int .u8 k, .string s, .int .i64 n, .slice aa mm cc], .pointer (some ⟨gb, 0, none⟩)] w (SaidT w ((decide (k = 6) && (findI is s).isNone) || B)) := by
  have HIN := Lib.hid (fun w' (hf : Fr No w w') => info_any is gc s w' (hc.no hf))
  have HB := Lib.hid hb
  obtain ⟨x, hx⟩ : ∃ x, infoOf is s = x := ⟨_, rfl⟩
  obtain ⟨y, hy⟩ : ∃ y, (findI is s).isSome = y := ⟨_, rfl⟩
  have hny : (findI is s).isNone = !y := by rw [← hy]; cases findI is s <;> rfl
  have HIX := Lib.hid (fun w' hf => (HIN.out w' hf).mono (fun e w2 (h : InfoSaid w' is s e w2) => (show e = .returned (.tuple #[infV x, .bool y]) ∧ Fr No w' w2 from hy ▸ hx ▸ h)))
  rw [hny]
  obtain ⟨xa, xb, xc, xd, xe⟩ := x
  simp only [infV] at HIX
  clear hx hy hny HIN hc
  obtain ⟨w0, hw0⟩ : ∃ w0, w0 = w.alloc (.cells #[.int .u8 k, .string s, .int .i64 n, .slice aa mm cc] 40) := ⟨_, rfl⟩
  have r0 : Hid (w0.heap[w.heap.size]? = some (.cells #[.int .u8 k, .string s, .int .i64 n, .slice aa mm cc] 40 (0, 0))) := Lib.hid (by rw [hw0]; exact new_block w _)
  have HF0 : Hid (Fr No w w0) := Lib.hid (by rw [hw0]; exact Fr.alloc w _)
  clear hb
  go_enter Try.func25, Try.ntmps25
  go_upto_region 1 with fail
  rw [← hw0]
  obtain ⟨g, hg⟩ : ∃ g, w.heap.size = g := ⟨_, rfl⟩
  rw [hg] at r0 ⊢
  clear hw0 hg
  have b0 := HF0.out.cell HB.out
  have c1 : w0.cell? ⟨g, 1, none⟩ = some (.string s) := cell_of r0.out 1
  go_wp2_with fail
  refine (HIX.out _ HF0.out).mono ?_
  rintro e w1 ⟨rfl, hf1⟩
  have HF1 : Hid (Fr No w0 w1) := Lib.hid hf1
  clear hf1 b0 c1
  go_upto_region 2 with fail
  obtain ⟨w2, hw2⟩ : ∃ w2, w1.alloc (.cells #[.string xa, .string xb, .int .i64 xc, .int .i64 xd, .bool xe] 30) = w2 := ⟨_, rfl⟩
  have HF2 : Hid (Fr No w0 w2) := Lib.hid (by rw [← hw2]; exact HF1.out.then (Fr.alloc _ _))
  rw [hw2]
  clear hw2
  have b0 := HF2.out.cell (HF0.out.cell HB.out)
  have c0 : w2.cell? ⟨g, 0, none⟩ = some (.int .u8 k) := cell_of (HF2.out.keeps r0.out no_one) 0
  have c3 : w2.cell? ⟨g, 3, none⟩ = some (.slice aa mm cc) := cell_of (HF2.out.keeps r0.out no_one) 3
  by_cases h6 : k = 6
  · have hb6 : ((k : Int) == 6) = true := by simp only [beq_iff_eq]; omega
    have HD : Hid (decide (k = 6) = true) := Lib.hid (by simp [h6])
    clear h6
    cases y with
    | true =>
      go_wp2_with fail
      refine (h.out _ (HF0.out.then HF2.out)).mono ?_
      rintro e w3 ⟨rfl, hf3⟩
      have HF3 := Lib.hid ((HF0.out.then HF2.out).then hf3)
      clear hf3
      go_wp2_with fail
      go_ret
      exact ⟨by rw [HD.out]; cases B <;> rfl, HF3.out⟩
    | false =>
      go_wp2_with fail
      go_ret
      exact ⟨by rw [HD.out]; rfl, HF0.out.then HF2.out⟩
  · have hb6 : ((k : Int) == 6) = false := by simp only [beq_eq_false_iff_ne, ne_eq]; omega
    have HD : Hid (decide (k = 6) = false) := Lib.hid (by simp [h6])
    clear h6
    go_wp2_with fail
    refine (h.out _ (HF0.out.then HF2.out)).mono ?_
    rintro e w3 ⟨rfl, hf3⟩
    have HF3 := Lib.hid ((HF0.out.then HF2.out).then hf3)
    clear hf3
    go_wp2_with fail
    go_ret
    exact ⟨by rw [HD.out]; cases B <;> rfl, HF3.out⟩
set_option maxHeartbeats 2000000 in
theorem unknown_any (base : Nat) (is : List Inf) (gc : Nat) : ∀ (f : Nat) (l : List T), partsL l ≤ f → f ≤ 1152921504606846976 → ∀ (a : Option Addr) (cap m : Nat) (w : World), l.length = m → Row base (fun _ => True) w a 0 l → Chk w gc is → Calls Try.prog 21 #[.pointer (some ⟨gc, 0, none⟩), .slice a m cap] w (SaidT w (unkL is l))
  | f, l, h, hf, a, cap, m, w, hm, hrow, hc => by
    have hml := partsL_len l
    rw [hm] at hml
    have HI : Hid (∀ (j : Nat) (t : T) (a : Option Addr) (cap m : Nat) (w' : World), l[j]? = some t → t.kids.length = m → Row base (fun _ => True) w' a 0 t.kids → Chk w' gc is → Calls Try.prog 21 #[.pointer (some ⟨gc, 0, none⟩), .slice a m cap] w' (SaidT w' (unkL is t.kids))) := Lib.hid (fun j t a cap m w' hj hm hr hc => by
      have hk := parts_kid l j t hj
      have hlt : partsL t.kids < f := by
        obtain ⟨k, s, n, r⟩ := t
        simp only [parts] at hk
        show partsL r < f
        omega
      exact unknown_any base is gc (f - 1) t.kids (by omega) (by omega) a cap m w' hm hr hc)
    have hb0 := new_block w (.cells #[.pointer (some ⟨gc, 0, none⟩)] 53)
    have HT := Lib.hid (any_said base l m cap a 25 #[.pointer (some ⟨w.heap.size, 0, none⟩)] (unkT is) (w.alloc (.cells #[.pointer (some ⟨gc, 0, none⟩)] 53)) hm (by omega) enters25 (row_keepNo hrow (Fr.alloc w _)) (fun t v w1 hmem hst hi => by
      obtain ⟨j, hj⟩ := List.getElem?_of_mem hmem
      obtain ⟨x0, x1, x2, x3, rfl⟩ := is_agg hi
      obtain ⟨k, s, n, aa, mm, cc, rfl, rfl, rfl, rfl⟩ := is_cells hi
      obtain ⟨r, hre, hr1, hrr⟩ := is_mk hi
      subst hre
      exact one_unk is w.heap.size gc k s n aa mm cc w1 (unkL is r) (hc.no ((Fr.alloc w _).then hst)) (hst.cell (cell_of hb0 0)) (Lib.hid (fun w' hf' => HI.out j _ aa cc mm w' hj hr1 (row_keepNo hrr hf') ((hc.no ((Fr.alloc w _).then hst)).no hf')))))
    have HU : Hid (unkL is l = l.any (unkT is)) := Lib.hid (unkL_any is l)
    clear hm hrow hc hb0
    go_enter Try.func21, Try.ntmps21
    go_wp2_with fail
    refine HT.out.mono ?_
    rintro e w1 ⟨rfl, hf⟩
    go_wp2_with fail
    go_ret
    exact ⟨by rw [HU.out]; rfl, (Fr.alloc w _).then hf⟩
  termination_by f => f
  decreasing_by omega
end Go.Proofs.Ythjecikdkdjlaaa
