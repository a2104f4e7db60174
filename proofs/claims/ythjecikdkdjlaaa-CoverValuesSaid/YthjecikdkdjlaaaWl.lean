/- Have some patterns all heads that there can be? -/
import Derived.Test.YthjecikdkdjlaaaWf
namespace Go.Proofs.Ythjecikdkdjlaaa
open Go.RowKit

theorem enters46 (args : Array Value) (u : World) : Sem.run Try.prog (callFunc 46 args) u = .ok (.enter 46 args) u := by kernel_rfl
theorem enters47 (args : Array Value) (u : World) : Sem.run Try.prog (callFunc 47 args) u = .ok (.enter 47 args) u := by kernel_rfl
set_option maxHeartbeats 1000000 in
/-- slices.IndexFunc over infos -/
theorem index_infs (is : List Inf) (n cap : Nat) (a : Option Addr) (g : FuncId) (caps : Array Value) (q : Inf → Bool) (w : World) (hl : is.length = n) (hn : n ≤ 1152921504606846976) (hcf : ∀ (args : Array Value) (u : World), Sem.run Try.prog (callFunc g args) u = .ok (.enter g args) u)
    (hi : Infs w a is) (hg : ∀ (x : Inf) (w1 : World), Fr No w w1 → Calls Try.prog g (#[infV x] ++ caps) w1 (SaidT w1 (q x))) :
    Calls Try.prog 43 #[.slice a n cap, .func (.func g) #[] caps] w fun e w' => ∃ i : Int, e = .returned (.int .i64 i) ∧ Fr No w w' ∧ ((i = -1 ∧ is.any q = false) ∨ (0 ≤ i ∧ is.any q = true)) := by
  have HI := Lib.hid hi
  have HL := Lib.hid hl
  have HG := Lib.hid hg
  clear hi hl hg
  go_enter Try.func43, Try.ntmps43
  go_wp2_with fail
  go_loopw [8] (fun i wr => ∃ k : Nat, k ≤ n ∧ i = .int .i64 k ∧ Hid (Fr No w wr) ∧ Hid (∀ (j : Nat) (x : Inf), j < k → is[j]? = some x → q x = false)) (fun i _ => n - (intOf i).toNat)
  case atStart => exact ⟨0, Nat.zero_le _, rfl, Lib.hid (Fr.refl _ _), Lib.hid (fun j x hj => by omega)⟩
  case round =>
    obtain ⟨k, hk, rfl, HF, HN⟩ := hrel
    by_cases hqn : k = n
    · have HR : Hid (is.any q = false) := Lib.hid (by
        rw [List.any_eq_false]
        intro x hx
        obtain ⟨j, hj⟩ := List.getElem?_of_mem hx
        have := HN.out j x (by have := (List.getElem?_eq_some_iff.1 hj).1; have := HL.out; omega) hj
        simp [this])
      go_wp2_with fail
      go_ret
      exact ⟨-1, rfl, HF.out, .inl ⟨rfl, HR.out⟩⟩
    · obtain ⟨x, hx⟩ : ∃ x, is[k]? = some x := ⟨_, List.getElem?_eq_getElem (by rw [HL.out]; omega)⟩
      obtain ⟨b, off, rfl, h0, h1, h2, h3, h4⟩ := (HI.out.no HF.out) k x hx
      have HC := Lib.hid (HG.out x wr HF.out)
      have HX := Lib.hid hx
      have hlt : (k : Int) < (n : Int) := by omega
      obtain ⟨xa, xb, xc, xd, xe⟩ := x
      simp only [infV] at h0 h1 h2 h3 h4 HC
      clear hx
      cases hd : q ⟨xa, xb, xc, xd, xe⟩ with
      | true =>
        rw [hd] at HC
        have HR : Hid (is.any q = true) := Lib.hid (List.any_eq_true.2 ⟨_, List.mem_of_getElem? HX.out, hd⟩)
        clear hd
        go_wp2_with fail
        refine HC.out.mono ?_
        rintro e w2 ⟨rfl, hf⟩
        have HF2 := Lib.hid (HF.out.then hf)
        clear hf
        go_wp2_with fail
        go_ret
        exact ⟨k, rfl, HF2.out, .inr ⟨by omega, HR.out⟩⟩
      | false =>
        rw [hd] at HC
        have HN2 : Hid (∀ (j : Nat) (x : Inf), j < k + 1 → is[j]? = some x → q x = false) := Lib.hid (fun j y hj hy => by
          rcases Nat.lt_or_ge j k with h | h
          · exact HN.out j y h hy
          · rw [show j = k by omega, HX.out] at hy
            simp only [Option.some.injEq] at hy
            rw [← hy]
            exact hd)
        clear hd
        go_wp2_with fail
        refine HC.out.mono ?_
        rintro e w2 ⟨rfl, hf⟩
        have HF2 := Lib.hid (HF.out.then hf)
        clear hf
        go_wp2_with fail
        exact ⟨⟨k + 1, by omega, by go_num, HF2, HN2⟩, by simp [intOf]; omega⟩
set_option maxHeartbeats 1000000 in
theorem infs_any (is : List Inf) (n cap : Nat) (a : Option Addr) (g : FuncId) (caps : Array Value) (q : Inf → Bool) (w : World) (hl : is.length = n) (hn : n ≤ 1152921504606846976) (hcf : ∀ (args : Array Value) (u : World), Sem.run Try.prog (callFunc g args) u = .ok (.enter g args) u)
    (hi : Infs w a is) (hg : ∀ (x : Inf) (w1 : World), Fr No w w1 → Calls Try.prog g (#[infV x] ++ caps) w1 (SaidT w1 (q x))) :
    Calls Try.prog 48 #[.slice a n cap, .func (.func g) #[] caps] w (SaidT w (is.any q)) := by
  have HC := Lib.hid (index_infs is n cap a g caps q w hl hn hcf hi hg)
  clear hi hl hg
  go_enter Try.func48, Try.ntmps48
  go_wp2_with fail
  refine HC.out.mono ?_
  rintro e w2 ⟨i, rfl, hf, hor⟩
  have HF := Lib.hid hf
  have HO := Lib.hid hor
  clear hf hor
  by_cases h0 : 0 ≤ i
  · have HV : Hid (is.any q = true) := Lib.hid (by rcases HO.out with ⟨h, _⟩ | ⟨_, h⟩; omega; exact h)
    go_wp2_with fail
    go_ret
    exact ⟨by rw [HV.out]; rfl, HF.out⟩
  · have HV : Hid (is.any q = false) := Lib.hid (by rcases HO.out with ⟨_, h⟩ | ⟨h, _⟩; exact h; omega)
    have hd : decide (0 ≤ i) = false := by simp; omega
    go_wp2_with fail
    go_ret
    exact ⟨by rw [HV.out]; rfl, HF.out⟩
set_option maxHeartbeats 1000000 in
theorem same_name (base : Nat) (t : T) (v : Value) (gx : Nat) (nm : ByteArray) (w : World) (hi : IsT base w t v) (hx : w.cell? ⟨gx, 0, none⟩ = some (.string nm)) : Calls Try.prog 47 #[v, .pointer (some ⟨gx, 0, none⟩)] w (SaidT w (decide (t.name = nm))) := by
  obtain ⟨x0, x1, x2, x3, rfl⟩ := is_agg hi
  obtain ⟨k, s, n, a, m, c, rfl, rfl, rfl, rfl⟩ := is_cells hi
  obtain ⟨l, rfl, _, _⟩ := is_mk hi
  have HE := Lib.hid (bytes_eq_iff s nm)
  have hA := (Fr.alloc w (.cells #[.int .u8 k, .string s, .int .i64 n, .slice a m c] 40)).cell hx
  show Calls Try.prog 47 _ w (SaidT w (decide (s = nm)))
  clear hi hx
  go_enter Try.func47, Try.ntmps47
  go_wp2_with fail
  go_ret
  refine ⟨?_, Fr.alloc w _⟩
  first
    | rfl
    | (rw [← HE.out]; rfl)
set_option maxHeartbeats 1000000 in
/-- one info whose constructor is not among them -/
theorem wanting_any (base : Nat) (is : List Inf) (l : List T) (n cap : Nat) (a : Option Addr) (gf gl : Nat) (of : ByteArray) (x : Inf) (w : World) (hl : l.length = n) (hn : n ≤ 1152921504606846976) (hrow : Row base (fun _ => True) w a 0 l)
    (hof : w.cell? ⟨gf, 0, none⟩ = some (.string of)) (hgl : w.cell? ⟨gl, 0, none⟩ = some (.slice a n cap)) :
    Calls Try.prog 46 #[infV x, .pointer (some ⟨gf, 0, none⟩), .pointer (some ⟨gl, 0, none⟩)] w (SaidT w (decide (x.of = of) && !(l.any fun q => decide (q.name = x.name)))) := by
  obtain ⟨xa, xb, xc, xd, xe⟩ := x
  simp only [infV]
  obtain ⟨w0, hw0⟩ : ∃ w0, w0 = w.alloc (.cells #[.string xa, .string xb, .int .i64 xc, .int .i64 xd, .bool xe] 30) := ⟨_, rfl⟩
  obtain ⟨g, hg⟩ : ∃ g, w.heap.size = g := ⟨_, rfl⟩
  have r0 : Hid (w0.heap[g]? = some (.cells #[.string xa, .string xb, .int .i64 xc, .int .i64 xd, .bool xe] 30 (0, 0))) := Lib.hid (by rw [hw0, ← hg]; exact new_block w _)
  have HF0 : Hid (Fr No w w0) := Lib.hid (by rw [hw0]; exact Fr.alloc w _)
  have HC := Lib.hid (any_said base l n cap a 47 #[.pointer (some ⟨g, 0, none⟩)] (fun q => decide (q.name = xa)) w0 hl hn enters47 (row_keepNo hrow HF0.out) (fun t v w1 _ hf hi => same_name base t v g xa w1 hi (hf.cell (cell_of r0.out 0))))
  have c1 : w0.cell? ⟨g, 1, none⟩ = some (.string xb) := cell_of r0.out 1
  have c2 := HF0.out.cell hof
  have c3 := HF0.out.cell hgl
  have HE := Lib.hid (bytes_eq_iff xb of)
  obtain ⟨B, hB⟩ : ∃ B, (l.any fun q => decide (q.name = xa)) = B := ⟨_, rfl⟩
  rw [hB] at HC ⊢
  clear hrow hof hgl hl r0 hB
  cases hd : decide (xb = of) with
  | true =>
    have hb : (xb.toList == of.toList) = true := by rw [HE.out, hd]
    have hb2 : xb.toList = of.toList := by simpa using hb
    clear hd HE
    go_enter Try.func46, Try.ntmps46
    go_upto_region 1 with fail
    rw [← hw0]
    clear hw0 hg
    go_wp2_with fail
    refine HC.out.mono ?_
    rintro e w2 ⟨rfl, hf⟩
    have HF := Lib.hid hf
    clear hf c1 c2 c3
    go_wp2_with fail
    go_ret
    exact ⟨by cases B <;> rfl, HF0.out.then HF.out⟩
  | false =>
    have hb : (xb.toList == of.toList) = false := by rw [HE.out, hd]
    have hb2 : ¬ xb.toList = of.toList := by simpa using hb
    clear hd HE
    go_enter Try.func46, Try.ntmps46
    go_upto_region 1 with fail
    rw [← hw0]
    clear hw0 hg
    go_wp2_with fail
    go_ret
    exact ⟨rfl, HF0.out⟩
theorem exn_bytes : (ByteArray.mk #[101, 120, 110]) = exn := rfl
set_option maxHeartbeats 400000 in
set_option maxRecDepth 100000 in
theorem whole_any (base : Nat) (is : List Inf) (gc : Nat) (l : List T) (n cap : Nat) (a : Option Addr) (w : World) (hl : l.length = n) (hn : n ≤ 1152921504606846976) (hc : Chk w gc is) (hrow : Row base (fun _ => True) w a 0 l) :
    Calls Try.prog 37 #[.pointer (some ⟨gc, 0, none⟩), .slice a n cap] w (SaidT w (whole is l)) := by
  obtain ⟨w0, hw0⟩ : ∃ w0, w0 = w.alloc (.cells #[.slice a n cap] 22) := ⟨_, rfl⟩
  obtain ⟨g3, hg3⟩ : ∃ g3, w.heap.size = g3 := ⟨_, rfl⟩
  have r0 : Hid (w0.heap[g3]? = some (.cells #[.slice a n cap] 22 (0, 0))) := Lib.hid (by rw [hw0, ← hg3]; exact new_block w _)
  have HF0 : Hid (Fr No w w0) := Lib.hid (by rw [hw0]; exact Fr.alloc w _)
  have c3 : w0.cell? ⟨g3, 0, none⟩ = some (.slice a n cap) := cell_of r0.out 0
  cases l with
  | nil =>
    have hn0 : n = 0 := by simpa using hl.symm
    subst hn0
    clear hl hrow hc
    go_enter Try.func37, Try.ntmps37
    go_upto_region 1 with fail
    rw [← hw0]
    clear hw0 hg3
    go_wp2_with fail
    go_ret
    exact ⟨rfl, HF0.out⟩
  | cons p r =>
    obtain ⟨b, off, x0, x1, x2, x3, rfl, hj1, hj2, d0, d1, d2, d3, his⟩ := Row.at_ 0 (p :: r) (row_keepNo hrow HF0.out) 0 p rfl
    clear hj1 hj2
    obtain ⟨k, s, nn, aa, mm, cc, rfl, rfl, rfl, rfl⟩ := is_cells his
    have HHD := Lib.hid (head_any base is gc p _ w0 (hc.no HF0.out) his)
    obtain ⟨kids, hp, hj3, hj4⟩ := is_mk his
    clear hj3 hj4
    have hk : p.kind = k := by rw [hp]; rfl
    have hs : p.name = s := by rw [hp]; rfl
    obtain ⟨V, hV⟩ : ∃ V, hdOf is p = V := ⟨_, rfl⟩
    have HV : Hid (V.of = if k = 6 then (infoOf is s).of else ⟨#[]⟩) := Lib.hid (by rw [← hV, hp]; rfl)
    have HW : Hid (whole is (p :: r) = if k = 4 ∨ k = 5 then true else if k = 6 then !decide ((infoOf is s).of = exn) && !(is.any fun x => decide (x.of = (infoOf is s).of) && !((p :: r).any fun q => decide (q.name = x.name))) else false) := Lib.hid (by rw [← hk, ← hs]; rfl)
    obtain ⟨R, hR⟩ : ∃ R, whole is (p :: r) = R := ⟨_, rfl⟩
    rw [hR] at HW ⊢
    rw [hV] at HHD
    obtain ⟨vk, vn, vm, vs, vo⟩ := V
    simp only [hdV] at HHD HV
    have hn0 : ((n : Int) == 0) = false := by
      have : 0 < n := by rw [← hl]; simp
      simp only [beq_eq_false_iff_ne, ne_eq]
      omega
    have hn1 : (0 : Int) < (n : Int) := by
      have : 0 < n := by rw [← hl]; simp
      omega
    have HL := Lib.hid hl
    have HROW := Lib.hid hrow
    have HCH := Lib.hid hc
    have e0 : (0 + 0) * 4 = 0 := rfl
    rw [e0, Nat.add_zero] at d0 d1 d2 d3
    have D0 := Lib.hid d0
    clear his hp hk hs hV hR hl hrow hc e0
    have hfld : ∀ u : World, (Instr.field 66 (.agg #[.int .u8 (vk : Int), .int .i64 vn, .int .i64 vm, .string vs, .string vo]) 4).run Try.prog u = .ok (.string vo) u := fun _ => by kernel_rfl
    go_enter Try.func37, Try.ntmps37
    go_upto_region 1 with fail
    rw [← hw0]
    clear hw0 hg3
    go_wp2_with fail
    refine HHD.out.mono ?_
    rintro e w1 ⟨rfl, hf1⟩
    have HF1 : Hid (Fr No w0 w1) := Lib.hid hf1
    have c1 := HF1.out.cell c3
    have D1 := HF1.out.cell D0.out
    clear hf1 c3 d0 d1 d2 d3
    obtain ⟨g5, hg5⟩ : ∃ g5, w1.heap.size = g5 := ⟨_, rfl⟩
    obtain ⟨w2, hw2⟩ : ∃ w2, w2 = w1.alloc (.cells #[.string vo] 9) := ⟨_, rfl⟩
    have r5 : Hid (w2.heap[g5]? = some (.cells #[.string vo] 9 (0, 0))) := Lib.hid (by rw [hw2, ← hg5]; exact new_block w1 _)
    have HF2 : Hid (Fr No w w2) := Lib.hid (by rw [hw2]; exact (HF0.out.then HF1.out).then (Fr.alloc w1 _))
    have HF12 : Hid (Fr No w1 w2) := Lib.hid (by rw [hw2]; exact Fr.alloc w1 _)
    go_upto_region 4 with fail
    rw [← hw2]
    clear hw2 hg5
    have D2 := HF12.out.cell D1
    have c2 := HF12.out.cell c1
    clear c1 D1
    by_cases h4 : k = 4
    · have hb4 : ((k : Int) == 4) = true := by simp only [beq_iff_eq]; omega
      have HR : Hid (R = true) := Lib.hid (by rw [HW.out]; simp [h4])
      clear h4 HV HW
      go_wp2_with fail
      go_ret
      exact ⟨by rw [HR.out]; rfl, HF2.out⟩
    have hb4 : ((k : Int) == 4) = false := by simp only [beq_eq_false_iff_ne, ne_eq]; omega
    by_cases h5 : k = 5
    · have hb5 : ((k : Int) == 5) = true := by simp only [beq_iff_eq]; omega
      have HR : Hid (R = true) := Lib.hid (by rw [HW.out]; simp [h5])
      clear h4 h5 HV HW
      go_wp2_with fail
      go_ret
      exact ⟨by rw [HR.out]; rfl, HF2.out⟩
    have hb5 : ((k : Int) == 5) = false := by simp only [beq_eq_false_iff_ne, ne_eq]; omega
    by_cases h6 : k = 6
    · have hb6 : ((k : Int) == 6) = true := by simp only [beq_iff_eq]; omega
      have HVO : Hid (vo = (infoOf is s).of) := Lib.hid (by have := HV.out; simpa [h6] using this)
      have HR : Hid (R = (!decide (vo = exn) && !(is.any fun x => decide (x.of = vo) && !((p :: r).any fun q => decide (q.name = x.name))))) := Lib.hid (by rw [HW.out, HVO.out]; simp [h6])
      clear h4 h5 h6 HV HW
      have HE := Lib.hid (bytes_eq_iff vo exn)
      obtain ⟨hlen, ai, capi, hci, hinf⟩ := HCH.out
      have HCI := Lib.hid hci
      have HINF := Lib.hid hinf
      obtain ⟨ni, hni⟩ : ∃ ni, is.length = ni := ⟨_, rfl⟩
      rw [hni] at hlen HCI
      have HIN := Lib.hid (infs_any is ni capi ai 46 #[.pointer (some ⟨g5, 0, none⟩), .pointer (some ⟨g3, 0, none⟩)] (fun x => decide (x.of = vo) && !((p :: r).any fun q => decide (q.name = x.name))) w2 hni hlen enters46 (HINF.out.no HF2.out) (fun x w3 hf => wanting_any base is (p :: r) n cap (some ⟨b, off, none⟩) g5 g3 vo x w3 HL.out hn (row_keepNo HROW.out (HF2.out.then hf)) (hf.cell (cell_of r5.out 0)) (hf.cell (HF12.out.cell (HF1.out.cell (cell_of r0.out 0))))))
      obtain ⟨B, hB⟩ : ∃ B, (is.any fun x => decide (x.of = vo) && !((p :: r).any fun q => decide (q.name = x.name))) = B := ⟨_, rfl⟩
      rw [hB] at HIN HR
      have c5 : w2.cell? ⟨g5, 0, none⟩ = some (.string vo) := cell_of r5.out 0
      have cc := HF2.out.cell HCI.out
      have HEX : Hid (exn.toList = [101, 120, 110]) := Lib.hid (by rw [ByteArray.toList_eq]; rfl)
      clear hci hinf hni hB HVO
      cases hd : decide (vo = exn) with
      | true =>
        have hb2 : (vo.toList == [101, 120, 110]) = true := by rw [← HEX.out, HE.out, hd]
        have HR2 : Hid (R = false) := Lib.hid (by rw [HR.out, hd]; rfl)
        clear hd HE HR
        go_wp2_with fail
        go_ret
        exact ⟨by rw [HR2.out]; rfl, HF2.out⟩
      | false =>
        have hb2 : (vo.toList == [101, 120, 110]) = false := by rw [← HEX.out, HE.out, hd]
        have HR2 : Hid (R = !B) := Lib.hid (by rw [HR.out, hd]; rfl)
        clear hd HE HR
        go_wp2_with fail
        refine HIN.out.mono ?_
        rintro e w3 ⟨rfl, hf3⟩
        have HF3 := Lib.hid hf3
        clear hf3 c2 D2 c5 cc
        go_wp2_with fail
        go_ret
        exact ⟨by rw [HR2.out]; rfl, HF2.out.then HF3.out⟩
    · have hb6 : ((k : Int) == 6) = false := by simp only [beq_eq_false_iff_ne, ne_eq]; omega
      have HR : Hid (R = false) := Lib.hid (by rw [HW.out]; simp [h4, h5, h6])
      clear h4 h5 h6 HV HW
      go_wp2_with fail
      go_ret
      exact ⟨by rw [HR.out]; rfl, HF2.out⟩
end Go.Proofs.Ythjecikdkdjlaaa
