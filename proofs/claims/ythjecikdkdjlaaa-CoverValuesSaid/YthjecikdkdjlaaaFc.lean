/- Do patterns fit? The functions that are handed in; columns in memory. -/
import Derived.Test.YthjecikdkdjlaaaFp
import Derived.Test.YthjecikdkdjlaaaWl
namespace Go.Proofs.Ythjecikdkdjlaaa
open Go.RowKit

theorem enters27 (args : Array Value) (u : World) : Sem.run Try.prog (callFunc 27 args) u = .ok (.enter 27 args) u := by kernel_rfl
theorem enters29 (args : Array Value) (u : World) : Sem.run Try.prog (callFunc 29 args) u = .ok (.enter 29 args) u := by kernel_rfl
theorem enters34 (args : Array Value) (u : World) : Sem.run Try.prog (callFunc 34 args) u = .ok (.enter 34 args) u := by kernel_rfl
set_option maxHeartbeats 1000000 in
theorem nw_any (base : Nat) (t : T) (v : Value) (w : World) (hi : IsT base w t v) : Calls Try.prog 27 #[v] w (SaidT w (!isWild t)) := by
  obtain ⟨x0, x1, x2, x3, rfl⟩ := is_agg hi
  obtain ⟨k, s, n, a, m, c, rfl, rfl, rfl, rfl⟩ := is_cells hi
  have HC := Lib.hid (wild_any base t _ _ (hi.no (Fr.alloc w (.cells #[.int .u8 k, .string s, .int .i64 n, .slice a m c] 40))))
  clear hi
  go_enter Try.func27, Try.ntmps27
  go_wp2_with fail
  refine HC.out.mono ?_
  rintro e w2 ⟨rfl, hf⟩
  have HF := Lib.hid ((Fr.alloc w _).then hf)
  clear hf
  go_wp2_with fail
  go_ret
  exact ⟨rfl, HF.out⟩
set_option maxHeartbeats 1000000 in
theorem nr_any (base : Nat) (is : List Inf) (gc gb : Nat) (t : T) (v : Value) (w : World) (hc : Chk w gc is) (hb : w.cell? ⟨gb, 0, none⟩ = some (.pointer (some ⟨gc, 0, none⟩))) (hi : IsT base w t v) : Calls Try.prog 29 #[v, .pointer (some ⟨gb, 0, none⟩)] w (SaidT w (!rightP is t)) := by
  obtain ⟨x0, x1, x2, x3, rfl⟩ := is_agg hi
  obtain ⟨k, s, n, a, m, c, rfl, rfl, rfl, rfl⟩ := is_cells hi
  have HC := Lib.hid (right_any base is gc t _ _ (hc.no (Fr.alloc w (.cells #[.int .u8 k, .string s, .int .i64 n, .slice a m c] 40))) (hi.no (Fr.alloc w _)))
  have c1 := (Fr.alloc w (.cells #[.int .u8 k, .string s, .int .i64 n, .slice a m c] 40)).cell hb
  clear hi hc hb
  go_enter Try.func29, Try.ntmps29
  go_wp2_with fail
  refine HC.out.mono ?_
  rintro e w2 ⟨rfl, hf⟩
  have HF := Lib.hid ((Fr.alloc w _).then hf)
  clear hf c1
  go_wp2_with fail
  go_ret
  exact ⟨rfl, HF.out⟩
set_option maxHeartbeats 1000000 in
theorem nf_any (gc gb : Nat) (a : Option Addr) (n c : Nat) (B : Bool) (w : World) (hb : w.cell? ⟨gb, 0, none⟩ = some (.pointer (some ⟨gc, 0, none⟩))) (h : Calls Try.prog 22 #[.pointer (some ⟨gc, 0, none⟩), .slice a n c] w (SaidT w B)) : Calls Try.prog 34 #[.slice a n c, .pointer (some ⟨gb, 0, none⟩)] w (SaidT w (!B)) := by
  have HC := Lib.hid h
  clear h
  go_enter Try.func34, Try.ntmps34
  go_wp2_with fail
  refine HC.out.mono ?_
  rintro e w2 ⟨rfl, hf⟩
  have HF := Lib.hid hf
  clear hf hb
  go_wp2_with fail
  go_ret
  exact ⟨rfl, HF.out⟩
set_option maxHeartbeats 1000000 in
theorem index_cols (g n : Nat) (vs : List Value) (fn : FuncId) (caps : Array Value) (q : Nat → Bool) (w : World) (hl : vs.length = n) (hn : n ≤ 1048576) (hcf : ∀ (args : Array Value) (u : World), Sem.run Try.prog (callFunc fn args) u = .ok (.enter fn args) u)
    (hcell : ∀ (j : Nat) (v : Value), vs[j]? = some v → w.cell? ⟨g, j, none⟩ = some v ∧ ∃ a m c, v = .slice a m c) (hg : ∀ (j : Nat) (v : Value) (w1 : World), vs[j]? = some v → Fr No w w1 → Calls Try.prog fn (#[v] ++ caps) w1 (SaidT w1 (q j))) :
    Calls Try.prog 45 #[.slice (some ⟨g, 0, none⟩) n n, .func (.func fn) #[] caps] w fun e w' => ∃ i : Int, e = .returned (.int .i64 i) ∧ Fr No w w' ∧ ((i = -1 ∧ (List.range n).any q = false) ∨ (0 ≤ i ∧ (List.range n).any q = true)) := by
  have HL := Lib.hid hl
  have HG := Lib.hid hg
  have HC := Lib.hid hcell
  clear hl hg hcell
  go_enter Try.func45, Try.ntmps45
  go_wp2_with fail
  go_loopw [8] (fun i wr => ∃ k : Nat, k ≤ n ∧ i = .int .i64 k ∧ Hid (Fr No w wr) ∧ Hid (∀ (j : Nat), j < k → q j = false)) (fun i _ => n - (intOf i).toNat)
  case atStart => exact ⟨0, Nat.zero_le _, rfl, Lib.hid (Fr.refl _ _), Lib.hid (fun j hj => by omega)⟩
  case round =>
    obtain ⟨k, hk, rfl, HF, HN⟩ := hrel
    by_cases hqn : k = n
    · have HR : Hid ((List.range n).any q = false) := Lib.hid (by
        rw [List.any_eq_false]
        intro j hj
        have := HN.out j (by have := List.mem_range.1 hj; omega)
        simp [this])
      go_wp2_with fail
      go_ret
      exact ⟨-1, rfl, HF.out, .inl ⟨rfl, HR.out⟩⟩
    · obtain ⟨x, hx⟩ : ∃ x, vs[k]? = some x := ⟨_, List.getElem?_eq_getElem (by rw [HL.out]; omega)⟩
      obtain ⟨hc, a, m, c, rfl⟩ := HC.out k x hx
      have hc2 := HF.out.cell hc
      have HCC := Lib.hid (HG.out k _ wr hx HF.out)
      have hlt : (k : Int) < (n : Int) := by omega
      clear hx hc
      cases hd : q k with
      | true =>
        rw [hd] at HCC
        have HR : Hid ((List.range n).any q = true) := Lib.hid (List.any_eq_true.2 ⟨k, List.mem_range.2 (by omega), hd⟩)
        clear hd
        go_wp2_with fail
        refine HCC.out.mono ?_
        rintro e w2 ⟨rfl, hf⟩
        have HF2 := Lib.hid (HF.out.then hf)
        clear hf
        go_wp2_with fail
        go_ret
        exact ⟨k, rfl, HF2.out, .inr ⟨by omega, HR.out⟩⟩
      | false =>
        rw [hd] at HCC
        have HN2 : Hid (∀ (j : Nat), j < k + 1 → q j = false) := Lib.hid (fun j hj => by
          rcases Nat.lt_or_ge j k with h | h
          · exact HN.out j h
          · rw [show j = k by omega]
            exact hd)
        clear hd
        go_wp2_with fail
        refine HCC.out.mono ?_
        rintro e w2 ⟨rfl, hf⟩
        have HF2 := Lib.hid (HF.out.then hf)
        clear hf
        go_wp2_with fail
        exact ⟨⟨k + 1, by omega, by go_num, HF2, HN2⟩, by simp [intOf]; omega⟩
set_option maxHeartbeats 1000000 in
theorem any_cols (g n : Nat) (vs : List Value) (fn : FuncId) (caps : Array Value) (q : Nat → Bool) (w : World) (hl : vs.length = n) (hn : n ≤ 1048576) (hcf : ∀ (args : Array Value) (u : World), Sem.run Try.prog (callFunc fn args) u = .ok (.enter fn args) u)
    (hcell : ∀ (j : Nat) (v : Value), vs[j]? = some v → w.cell? ⟨g, j, none⟩ = some v ∧ ∃ a m c, v = .slice a m c) (hg : ∀ (j : Nat) (v : Value) (w1 : World), vs[j]? = some v → Fr No w w1 → Calls Try.prog fn (#[v] ++ caps) w1 (SaidT w1 (q j))) :
    Calls Try.prog 33 #[.slice (some ⟨g, 0, none⟩) n n, .func (.func fn) #[] caps] w (SaidT w ((List.range n).any q)) := by
  have HC := Lib.hid (index_cols g n vs fn caps q w hl hn hcf hcell hg)
  obtain ⟨B, hB⟩ : ∃ B, (List.range n).any q = B := ⟨_, rfl⟩
  rw [hB] at HC ⊢
  clear hl hg hcell hB
  go_enter Try.func33, Try.ntmps33
  go_wp2_with fail
  refine HC.out.mono ?_
  rintro e w2 ⟨i, rfl, hf, hor⟩
  have HF := Lib.hid hf
  have HO := Lib.hid hor
  clear hf hor
  by_cases h0 : 0 ≤ i
  · have HV : Hid (B = true) := Lib.hid (by rcases HO.out with ⟨h, _⟩ | ⟨_, h⟩; omega; exact h)
    go_wp2_with fail
    go_ret
    exact ⟨by rw [HV.out]; rfl, HF.out⟩
  · have HV : Hid (B = false) := Lib.hid (by rcases HO.out with ⟨_, h⟩ | ⟨h, _⟩; exact h; omega)
    have hd : decide (0 ≤ i) = false := by simp; omega
    go_wp2_with fail
    go_ret
    exact ⟨by rw [HV.out]; rfl, HF.out⟩
end Go.Proofs.Ythjecikdkdjlaaa
