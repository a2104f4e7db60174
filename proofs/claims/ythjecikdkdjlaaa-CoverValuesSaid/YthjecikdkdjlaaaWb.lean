/- The info of a constructor. -/
import Derived.Test.YthjecikdkdjlaaaWa
import Derived.Deep.CutRange
namespace Go.Proofs.Ythjecikdkdjlaaa
open Go.RowKit

theorem enters44 (args : Array Value) (u : World) : Sem.run Try.prog (callFunc 44 args) u = .ok (.enter 44 args) u := by kernel_rfl
theorem bytes_inj {a b : ByteArray} (h : a.toList = b.toList) : a = b := by
  rw [ByteArray.toList_eq, ByteArray.toList_eq] at h
  obtain ⟨x⟩ := a
  obtain ⟨y⟩ := b
  exact congrArg ByteArray.mk (Array.toList_inj.1 h)
theorem bytes_eq_iff (a b : ByteArray) : (a.toList == b.toList) = decide (a = b) := by
  by_cases h : a = b
  · simp [h]
  · have : ¬ a.toList = b.toList := fun e => h (bytes_inj e)
    simp [h, this]
set_option maxHeartbeats 1000000 in
theorem named_any (x : Inf) (s : ByteArray) (gn : Nat) (w : World) (hn : w.cell? ⟨gn, 0, none⟩ = some (.string s)) : Calls Try.prog 44 #[infV x, .pointer (some ⟨gn, 0, none⟩)] w (SaidT w (decide (x.name = s))) := by
  obtain ⟨a, b, c, d, e⟩ := x
  simp only [infV]
  have hA := (Fr.alloc w (.cells #[.string a, .string b, .int .i64 c, .int .i64 d, .bool e] 30)).cell hn
  have HE := Lib.hid (bytes_eq_iff a s)
  clear hn
  go_enter Try.func44, Try.ntmps44
  go_wp2_with fail
  go_ret
  refine ⟨?_, Fr.alloc w _⟩
  first
    | rfl
    | (rw [← HE.out]; rfl)
def InfoAt (w : World) (is : List Inf) (s : ByteArray) (e : Ending) (w' : World) : Prop :=
  ∃ i : Int, e = .returned (.int .i64 i) ∧ Fr No w w' ∧ ((i = -1 ∧ findI is s = none) ∨ ∃ (j : Nat) (x : Inf), i = j ∧ is[j]? = some x ∧ findI is s = some x)
theorem findI_none {is : List Inf} {s : ByteArray} (h : ∀ (j : Nat) (x : Inf), is[j]? = some x → x.name ≠ s) : findI is s = none := by
  unfold findI
  rw [List.find?_eq_none]
  intro x hx
  obtain ⟨j, hj⟩ := List.getElem?_of_mem hx
  simpa using h j x hj
theorem findI_at : ∀ (is : List Inf) (s : ByteArray) (j : Nat) (x : Inf), is[j]? = some x → x.name = s → (∀ (k : Nat) (y : Inf), k < j → is[k]? = some y → y.name ≠ s) → findI is s = some x
  | [], _, j, x, h, _, _ => by simp at h
  | y :: r, s, 0, x, h, hn, _ => by
    simp only [List.getElem?_cons_zero, Option.some.injEq] at h
    simp [findI, h, hn]
  | y :: r, s, j + 1, x, h, hn, hf => by
    have h1 := hf 0 y (by omega) rfl
    have h2 := findI_at r s j x (by simpa using h) hn (fun k z hk hz => hf (k + 1) z (by omega) (by simpa using hz))
    unfold findI at h2 ⊢
    rw [List.find?_cons]
    simp only [h1, decide_false]
    exact h2
set_option maxHeartbeats 1000000 in
theorem index_inf (is : List Inf) (n cap : Nat) (a : Option Addr) (s : ByteArray) (gn : Nat) (w : World) (hl : is.length = n) (hn : n ≤ 1152921504606846976) (hi : Infs w a is) (hs : w.cell? ⟨gn, 0, none⟩ = some (.string s)) :
    Calls Try.prog 43 #[.slice a n cap, .func (.func 44) #[] #[.pointer (some ⟨gn, 0, none⟩)]] w (InfoAt w is s) := by
  have HI := Lib.hid hi
  have HS := Lib.hid hs
  have HL := Lib.hid hl
  have hcf := enters44
  clear hi hs hl
  go_enter Try.func43, Try.ntmps43
  go_wp2_with fail
  go_loopw [8] (fun i wr => ∃ q : Nat, q ≤ n ∧ i = .int .i64 q ∧ Hid (Fr No w wr) ∧ Hid (∀ (j : Nat) (x : Inf), j < q → is[j]? = some x → x.name ≠ s)) (fun i _ => n - (intOf i).toNat)
  case atStart => exact ⟨0, Nat.zero_le _, rfl, Lib.hid (Fr.refl _ _), Lib.hid (fun j x hj => by omega)⟩
  case round =>
    obtain ⟨q, hq, rfl, HF, HN⟩ := hrel
    by_cases hqn : q = n
    · have HR : Hid (findI is s = none) := Lib.hid (findI_none fun j x hx => HN.out j x (by have := (List.getElem?_eq_some_iff.1 hx).1; have := HL.out; omega) hx)
      go_wp2_with fail
      go_ret
      exact ⟨-1, rfl, HF.out, .inl ⟨rfl, HR.out⟩⟩
    · obtain ⟨x, hx⟩ : ∃ x, is[q]? = some x := ⟨_, List.getElem?_eq_getElem (by rw [HL.out]; omega)⟩
      obtain ⟨b, off, rfl, h0, h1, h2, h3, h4⟩ := (HI.out.no HF.out) q x hx
      have HC := Lib.hid (named_any x s gn wr (HF.out.cell HS.out))
      have HX := Lib.hid hx
      have hlt : (q : Int) < (n : Int) := by omega
      obtain ⟨xa, xb, xc, xd, xe⟩ := x
      simp only [infV] at h0 h1 h2 h3 h4 HC
      clear hx
      cases hd : decide (xa = s) with
      | true =>
        rw [hd] at HC
        have HR : Hid (findI is s = some ⟨xa, xb, xc, xd, xe⟩) := Lib.hid (findI_at is s q _ HX.out (of_decide_eq_true hd) HN.out)
        clear hd
        go_wp2_with fail
        refine HC.out.mono ?_
        rintro e w2 ⟨rfl, hf⟩
        have HF2 := Lib.hid (HF.out.then hf)
        clear hf
        go_wp2_with fail
        go_ret
        exact ⟨q, rfl, HF2.out, .inr ⟨q, _, rfl, HX.out, HR.out⟩⟩
      | false =>
        rw [hd] at HC
        have HN2 : Hid (∀ (j : Nat) (x : Inf), j < q + 1 → is[j]? = some x → x.name ≠ s) := Lib.hid (fun j y hj hy => by
          rcases Nat.lt_or_ge j q with h | h
          · exact HN.out j y h hy
          · rw [show j = q by omega, HX.out] at hy
            simp only [Option.some.injEq] at hy
            rw [← hy]
            exact of_decide_eq_false hd)
        clear hd
        go_wp2_with fail
        refine HC.out.mono ?_
        rintro e w2 ⟨rfl, hf⟩
        have HF2 := Lib.hid (HF.out.then hf)
        clear hf
        go_wp2_with fail
        exact ⟨⟨q + 1, by omega, by go_num, HF2, HN2⟩, by simp [intOf]; omega⟩
theorem five_block {w : World} {b : Nat} {a0 a1 a2 a3 a4 : Value} {t : TypeId} {z : Nat × Nat} (h : w.heap[b]? = some (.cells #[a0, a1, a2, a3, a4] t z)) (v0 v1 v2 v3 v4 : Value) :
    (((((w.setCell ⟨b, 0, none⟩ v0).setCell ⟨b, 1, none⟩ v1).setCell ⟨b, 2, none⟩ v2).setCell ⟨b, 3, none⟩ v3).setCell ⟨b, 4, none⟩ v4).heap[b]? = some (.cells #[v0, v1, v2, v3, v4] t z) :=
  block_setCell (block_setCell (block_setCell (block_setCell (block_setCell h 0 v0) 1 v1) 2 v2) 3 v3) 4 v4
theorem fr_five (w : World) (b : Nat) (v0 v1 v2 v3 v4 : Value) : Fr (Just b) w (((((w.setCell ⟨b, 0, none⟩ v0).setCell ⟨b, 1, none⟩ v1).setCell ⟨b, 2, none⟩ v2).setCell ⟨b, 3, none⟩ v3).setCell ⟨b, 4, none⟩ v4) :=
  (((((Fr.setCell w ⟨b, 0, none⟩ v0).trans (Fr.setCell _ ⟨b, 1, none⟩ v1) (fun _ _ h => h)).trans (Fr.setCell _ ⟨b, 2, none⟩ v2) (fun _ _ h => h)).trans (Fr.setCell _ ⟨b, 3, none⟩ v3) (fun _ _ h => h)).trans (Fr.setCell _ ⟨b, 4, none⟩ v4) (fun _ _ h => h))
theorem inf_row (w : World) (g : Nat) (cs : Array Value) (hs : cs.size = 5) (hb : w.heap[g]? = some (.cells cs 30 (0, 0))) : (loadVar 30 ⟨g, 0, none⟩).run Try.prog w = .ok (.agg cs) w :=
  run_loadVar_row w g 30 30 cs (0, 0) _ hb Try.underlying30 rfl (by rw [hs]; kernel_rfl)
/-- what info says -/
def InfoSaid (w : World) (is : List Inf) (s : ByteArray) (e : Ending) (w' : World) : Prop := e = .returned (.tuple #[infV (infoOf is s), .bool (findI is s).isSome]) ∧ Fr No w w'
set_option maxHeartbeats 2000000 in
theorem info_any (is : List Inf) (gc : Nat) (s : ByteArray) (w : World) (hc : Chk w gc is) : Calls Try.prog 26 #[.pointer (some ⟨gc, 0, none⟩), .string s] w (InfoSaid w is s) := by
  obtain ⟨hlen, a, cap, hcell, hinf⟩ := hc
  obtain ⟨n, hn⟩ : ∃ n, is.length = n := ⟨_, rfl⟩
  rw [hn] at hlen hcell
  have HN := Lib.hid hn
  obtain ⟨w0, hw0⟩ : ∃ w0, w0 = (w.alloc (.cells #[.string s] 9)).alloc (.cells #[.string ⟨#[]⟩, .string ⟨#[]⟩, .int .i64 0, .int .i64 0, .bool false] 30) := ⟨_, rfl⟩
  have r0 : Hid (w0.heap[w.heap.size]? = some (.cells #[.string s] 9 (0, 0))) := Lib.hid (by rw [hw0]; exact keep_alloc (new_block w _) _)
  have r1 : Hid (w0.heap[w.heap.size + 1]? = some (.cells #[.string ⟨#[]⟩, .string ⟨#[]⟩, .int .i64 0, .int .i64 0, .bool false] 30 (0, 0))) := Lib.hid (by
    have h := new_block (w.alloc (.cells #[.string s] 9)) (.cells #[.string ⟨#[]⟩, .string ⟨#[]⟩, .int .i64 0, .int .i64 0, .bool false] 30)
    rw [size_alloc] at h
    rw [hw0]
    exact h)
  have HF0 : Hid (Fr No w w0) := Lib.hid (by rw [hw0]; exact (Fr.alloc _ _).then (Fr.alloc _ _))
  have HI := Lib.hid (hinf.no HF0.out)
  have HC := Lib.hid hcell
  clear hinf hn hcell
  go_enter Try.func26, Try.ntmps26
  go_upto_region 1 with fail
  rw [← hw0]
  obtain ⟨gn, hgn⟩ : ∃ gn, w.heap.size = gn := ⟨_, rfl⟩
  obtain ⟨gr, hgr⟩ : ∃ gr, gn + 1 = gr := ⟨_, rfl⟩
  rw [hgn] at r0 r1 ⊢
  rw [hgr] at r1 ⊢
  have hgs : w.heap.size ≤ gr := by omega
  clear hw0 hgn hgr
  have c0 := HF0.out.cell HC.out
  go_wp2_with fail
  refine (index_inf is n cap a s gn w0 HN.out hlen HI.out (cell_of r0.out 0)).mono ?_
  rintro e w1 ⟨i, rfl, hf1, hor⟩
  have HF1 := Lib.hid (HF0.out.then hf1)
  have HI1 := Lib.hid (HI.out.no hf1)
  have R1 := Lib.hid (hf1.keeps r1.out no_one)
  have HC1 := Lib.hid (hf1.cell c0)
  clear hf1 c0
  have y0 := free_of R1.out 0
  have y1 := free_of R1.out 1
  have y2 := free_of R1.out 2
  have y3 := free_of R1.out 3
  have y4 := free_of R1.out 4
  have z0 : w1.cell? ⟨gr, 0, none⟩ = some (.string ⟨#[]⟩) := cell_of R1.out 0
  have z1 : w1.cell? ⟨gr, 1, none⟩ = some (.string ⟨#[]⟩) := cell_of R1.out 1
  have z2 : w1.cell? ⟨gr, 2, none⟩ = some (.int .i64 0) := cell_of R1.out 2
  have z3 : w1.cell? ⟨gr, 3, none⟩ = some (.int .i64 0) := cell_of R1.out 3
  have z4 : w1.cell? ⟨gr, 4, none⟩ = some (.bool false) := cell_of R1.out 4
  rcases hor with ⟨rfl, hnone⟩ | ⟨j, x, rfl, hj, hsome⟩
  · have HR : Hid (infoOf is s = zInf ∧ (findI is s).isSome = false) := Lib.hid (by rw [infoOf, hnone]; exact ⟨rfl, rfl⟩)
    clear hnone
    go_wp2_with fail
    (try simp only [Exit.inBlock, Exit.then])
    refine bodyPost_ret (results_ty_tmp rfl _ _ gr _ rfl (inf_row _ _ _ rfl (five_block R1.out _ _ _ _ _))) rfl ?_
    refine ⟨?_, HF1.out.own (fr_five w1 gr _ _ _ _ _) (fun i e => by rw [show i = gr from e]; exact hgs)⟩
    rw [HR.out.1, HR.out.2]
    rfl
  · have HR : Hid (infoOf is s = x ∧ (findI is s).isSome = true) := Lib.hid (by rw [infoOf, hsome]; exact ⟨rfl, rfl⟩)
    obtain ⟨b, off, rfl, h0, h1, h2, h3, h4⟩ := HI1.out j x hj
    have hlt : (j : Int) < (n : Int) := by have := (List.getElem?_eq_some_iff.1 hj).1; have := HN.out; omega
    have c1 := HC1.out
    obtain ⟨xa, xb, xc, xd, xe⟩ := x
    simp only at h0 h1 h2 h3 h4
    clear hsome hj
    go_wp2_with fail
    (try simp only [Exit.inBlock, Exit.then])
    refine bodyPost_ret (results_ty_tmp rfl _ _ gr _ rfl (inf_row _ _ _ rfl (five_block R1.out _ _ _ _ _))) rfl ?_
    refine ⟨?_, HF1.out.own (fr_five w1 gr _ _ _ _ _) (fun i e => by rw [show i = gr from e]; exact hgs)⟩
    rw [HR.out.1, HR.out.2]
    rfl
end Go.Proofs.Ythjecikdkdjlaaa
