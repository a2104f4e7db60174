/- The document's numbers. -/
import Derived.Test.YtcaejcbmkiacmaaDoorRb
namespace Go.Proofs.YtcaejcbmkiacmaaDoor
open Go.RowKit

theorem takeWhile_get (p : UInt8 → Bool) (l : Bs) (q : Nat) (c : UInt8) (h : (l.takeWhile p)[q]? = some c) : l[q]? = some c := by
  obtain ⟨z, hz⟩ := List.takeWhile_prefix (p := p) (l := l)
  have h1 : (l.takeWhile p ++ z)[q]? = some c := by
    rw [List.getElem?_append_left (List.getElem?_eq_some_iff.1 h).1]
    exact h
  rwa [hz] at h1
theorem takeWhile_stop (p : UInt8 → Bool) (l : Bs) (c : UInt8) (h : l[(l.takeWhile p).length]? = some c) : p c = false :=
  takeWhile_next p l c _ (drop_two h)
theorem row_end {w : World} {b : Nat} {v0 v1 v2 v3 u0 u1 u2 u3 : Value} (h : w.heap[b]? = some (.cells #[v0, v1, v2, v3] 34 (0, 0))) :
    (loadVar 34 ⟨b, 0, none⟩).run Tryd.prog ((((w.setCell ⟨b, 0, none⟩ u0).setCell ⟨b, 1, none⟩ u1).setCell ⟨b, 2, none⟩ u2).setCell ⟨b, 3, none⟩ u3) = .ok (.agg #[u0, u1, u2, u3]) ((((w.setCell ⟨b, 0, none⟩ u0).setCell ⟨b, 1, none⟩ u1).setCell ⟨b, 2, none⟩ u2).setCell ⟨b, 3, none⟩ u3) :=
  tok_row _ _ _ rfl (row_first h)
set_option maxHeartbeats 1000000 in
theorem rnumber_any (l : Bs) (s : ByteArray) (hsl : Hid (s = mk l)) (n : Nat) (hn : n ≤ 1099511627776) (hs : s.size = n) (w : World) :
    Calls Tryd.prog 45 #[.string s] w (ReadOut w (readV (numT l))) := by
  obtain ⟨V, hV⟩ : ∃ V, readV (numT l) = V := ⟨_, rfl⟩
  rw [hV]
  unfold numT at hV
  have hln : l.length = n := by rw [← hs, hsl.out, mk_size]
  have hm0 : (l.takeWhile digit).length ≤ n := by
    rw [← hln]
    exact takeWhile_le digit l
  have hdig := takeWhile_mem digit l
  have hget := takeWhile_get digit l
  have hstop := takeWhile_stop digit l
  generalize l.takeWhile digit = x at hm0 hV hdig hget hstop
  obtain ⟨m, hm⟩ : ∃ m, x.length = m := ⟨_, rfl⟩
  rw [hm] at hm0 hstop hV
  have HV := Lib.hid hV
  have HD := Lib.hid hdig
  have HG := Lib.hid hget
  have HST := Lib.hid hstop
  have HM := Lib.hid hm
  have HLN := Lib.hid hln
  clear hV hdig hget hstop hm hln
  have hrow := Lib.hid (last_block w (.cells #[.int .u8 0, .string ⟨#[]⟩, .int .i64 0, .int .i64 0] 34))
  have c0 := (tokRow_of hrow.out).1
  have c1 := (tokRow_of hrow.out).2.1
  have c2 := (tokRow_of hrow.out).2.2.1
  have c3 := (tokRow_of hrow.out).2.2.2.1
  have f0 := (tokRow_of hrow.out).2.2.2.2 0
  have f1 := (tokRow_of hrow.out).2.2.2.2 1
  have f2 := (tokRow_of hrow.out).2.2.2.2 2
  have f3 := (tokRow_of hrow.out).2.2.2.2 3
  go_enter Tryd.func45, Tryd.ntmps45
  go_wp2_with fail
  go_loopw [4, 5] (fun i a wr => ∃ q acc : Nat, q ≤ m ∧ acc ≤ 4611686018427387903 ∧ i = .int .i64 q ∧ a = .int .i64 acc ∧ wr = w.alloc (.cells #[.int .u8 0, .string ⟨#[]⟩, .int .i64 0, .int .i64 0] 34) ∧ Hid (numF 0 x = numF acc (x.drop q)))
    (fun i _ _ => m - (intOf i).toNat)
  case atStart => exact ⟨0, 0, Nat.zero_le _, Nat.zero_le _, rfl, rfl, rfl, Lib.hid rfl⟩
  case round =>
    obtain ⟨q, acc, hq, hacc, rfl, rfl, rfl, HI⟩ := hrel
    by_cases hlt : q < m
    · obtain ⟨c, hc⟩ : ∃ c, x[q]? = some c := ⟨_, List.getElem?_eq_getElem (by rw [HM.out]; exact hlt)⟩
      have hqs : q < s.size := by omega
      have hsc : s[q] = c := by
        have e := hsl.out
        subst e
        exact Option.some.inj ((mk_get l q hqs).symm.trans (HG.out q c hc))
      have hd : digit c = true := HD.out c (List.mem_of_getElem? hc)
      have hcd : 48 ≤ c.toNat ∧ c.toNat ≤ 57 := by simpa [digit] using hd
      have hdc := rdigit_any c (w.alloc (.cells #[.int .u8 0, .string ⟨#[]⟩, .int .i64 0, .int .i64 0] 34))
      rw [hd] at hdc
      obtain ⟨d, hd2⟩ : ∃ d, c.toNat = 48 + d := ⟨c.toNat - 48, by omega⟩
      have hd9 : d ≤ 9 := by omega
      rw [hd2] at hdc
      have HDC := Lib.hid hdc
      have HDR := Lib.hid (drop_two hc)
      have HC := Lib.hid hd2
      have hcast : (c.toNat : Int) = 48 + (d : Int) := by omega
      clear hc hd hcd hdc hd2
      by_cases hbig : (4611686018427387903 - d) / 10 < acc
      · go_wp2_with fail
        refine HDC.out.mono ?_
        rintro e w2 ⟨rfl, rfl⟩
        go_wp2_with fail
        (try simp only [Exit.inBlock, Exit.then])
        refine bodyPost_ret (results_cell_tmp rfl _ _ _ _ rfl (tok_row _ _ _ rfl (last_block _ _))) rfl ?_
        refine ⟨congrArg Ending.returned ?_, below_alloc w _⟩
        rw [← HV.out, HI.out, HDR.out, numF_big acc c _ d HC.out hbig]
        rfl
      · go_wp2_with fail
        refine HDC.out.mono ?_
        rintro e w2 ⟨rfl, rfl⟩
        go_wp2_with fail
        refine ⟨⟨q + 1, 10 * acc + d, by omega, by omega, by go_num, ?_, trivial, Lib.hid ?_⟩, by simp [intOf]; omega⟩
        · have e : (10 * (acc : Int) + (48 + (d : Int) - 48)) = ((10 * acc + d : Nat) : Int) := by omega
          rw [e]
        · rw [HI.out, HDR.out, numF_small acc c _ d HC.out hbig]
    · have hqm : q = m := by omega
      subst hqm
      by_cases hqn : q < n
      · have hqs : q < s.size := by omega
        obtain ⟨c, hc⟩ : ∃ c, s[q] = c := ⟨_, rfl⟩
        have hdc := rdigit_any c (w.alloc (.cells #[.int .u8 0, .string ⟨#[]⟩, .int .i64 0, .int .i64 0] 34))
        have hcl : l[q]? = some c := by
          have e := hsl.out
          subst e
          rw [mk_get l q hqs, hc]
        rw [HST.out c hcl] at hdc
        have HDC := Lib.hid hdc
        clear hcl hdc
        go_wp2_with fail
        refine HDC.out.mono ?_
        rintro e w2 ⟨rfl, rfl⟩
        go_wp2_with fail
        (try simp only [Exit.inBlock, Exit.then])
        refine bodyPost_ret (results_cell_tmp rfl _ _ _ _ rfl (tok_row _ _ _ rfl (last_block _ _))) rfl ?_
        refine ⟨congrArg Ending.returned ?_, below_alloc w _⟩
        rw [← HV.out, HI.out, List.drop_eq_nil_of_le (by rw [HM.out]; omega)]
        rfl
      · go_wp2_with fail
        (try simp only [Exit.inBlock, Exit.then])
        refine bodyPost_ret (results_cell_tmp rfl _ _ _ _ rfl (tok_row _ _ _ rfl (last_block _ _))) rfl ?_
        refine ⟨congrArg Ending.returned ?_, below_alloc w _⟩
        rw [← HV.out, HI.out, List.drop_eq_nil_of_le (by rw [HM.out]; omega)]
        rfl
end Go.Proofs.YtcaejcbmkiacmaaDoor
