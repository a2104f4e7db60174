/- The reader of numbers. -/
import Derived.Test.YtcaejcbmkiacmaaDoorWd
namespace Go.Proofs.YtcaejcbmkiacmaaDoor
open Go.RowKit

theorem second_block (w : World) (a b : Obj) : ((w.alloc a).alloc b).heap[w.heap.size]? = some a := by
  show ((w.heap.push a).push b)[w.heap.size]? = some a
  rw [Array.getElem?_push, if_neg (by simp), Array.getElem?_push, if_pos rfl]
theorem iterPos_two (w : World) (a : Obj) (s : ByteArray) (p : Nat) : ((w.alloc a).alloc (.stringIter s p)).iterPos (w.heap.size + 1) = p := by
  have h : ((w.alloc a).alloc (.stringIter s p)).heap[w.heap.size + 1]? = some (.stringIter s p) := by
    show ((w.heap.push a).push (.stringIter s p))[w.heap.size + 1]? = _
    rw [Array.getElem?_push, if_pos (by simp)]
  unfold World.iterPos
  rw [h]
theorem below_two (w : World) (a b : Obj) : Below w.heap.size w ((w.alloc a).alloc b) := ((Below.refl _ w).alloc (Nat.le_refl _) _).alloc (by simp) _
theorem numF_big (acc : Nat) (c : UInt8) (r : Bs) (d : Nat) (hc : c.toNat = 48 + d) (h : (4611686018427387903 - d) / 10 < acc) : numF acc (c :: r) = none := by
  have e : c.toNat - 48 = d := by omega
  rw [numF, e, if_pos h]
theorem numF_small (acc : Nat) (c : UInt8) (r : Bs) (d : Nat) (hc : c.toNat = 48 + d) (h : ¬ (4611686018427387903 - d) / 10 < acc) : numF acc (c :: r) = numF (10 * acc + d) r := by
  have e : c.toNat - 48 = d := by omega
  rw [numF, e, if_neg h]

set_option maxHeartbeats 1000000 in
theorem number_any (l : Bs) (s : ByteArray) (hsl : Hid (s = mk l)) (n : Nat) (hn : n ≤ 2305843009213693952) (hs : s.size = n) (w : World) :
    Calls Tryd.prog 36 #[.string s] w fun e w' => e = .returned (readV (numT l)) ∧ Below w.heap.size w w' := by
  have hr := fun w => run_any l s hsl 35 digit (Lib.hid tells_digit) enters35 n (by omega) hs w
  obtain ⟨V, hV⟩ : ∃ V, readV (numT l) = V := ⟨_, rfl⟩
  rw [hV]
  unfold numT at hV
  have hm0 : (l.takeWhile digit).length ≤ n := by
    rw [← hs, hsl.out, mk_size]
    exact (List.takeWhile_sublist digit).length_le
  have hdig := takeWhile_mem digit l
  generalize l.takeWhile digit = x at hr hm0 hV hdig
  have HR := Lib.hid hr
  have HV := Lib.hid hV
  have HD := Lib.hid hdig
  clear hr hV hdig
  obtain ⟨m, hm⟩ : ∃ m, x.length = m := ⟨_, rfl⟩
  have hxs : (mk x).size = m := by rw [mk_size, hm]
  rw [hm] at hm0
  have HM := Lib.hid hm
  clear hm
  have E35 := enters35
  go_enter Tryd.func36, Tryd.ntmps36
  go_wp2_with fail
  refine (HR.out _).mono ?_
  rintro e w1 ⟨rfl, rfl⟩
  go_wp2_with fail
  go_loopw [7] (fun _ wr => ∃ pos acc : Nat, pos ≤ m ∧ acc ≤ 4611686018427387903 ∧ wr = (w.alloc (.cells #[.int .u8 4, .string ⟨#[]⟩, .int .i64 acc, .int .i64 0] 34)).alloc (.stringIter (mk x) pos) ∧ Hid (numF 0 x = numF acc (x.drop pos)))
    (fun _ wr => m - wr.iterPos (w.heap.size + 1))
  case atStart => exact ⟨0, 0, Nat.zero_le _, Nat.zero_le _, rfl, Lib.hid rfl⟩
  case round =>
    obtain ⟨pos, acc, hpos, hacc, rfl, HI⟩ := hrel
    by_cases hlt : pos < m
    · have hlt2 : pos < (mk x).size := by omega
      obtain ⟨c, hc⟩ : ∃ c, (mk x)[pos] = c := ⟨_, rfl⟩
      have hget : x[pos]? = some c := by rw [mk_get x pos hlt2, hc]
      have hd : digit c = true := HD.out c (List.mem_of_getElem? hget)
      have hcd : 48 ≤ c.toNat ∧ c.toNat ≤ 57 := by simpa [digit] using hd
      obtain ⟨hc1, hc2⟩ := hcd
      have hdrop : x.drop pos = c :: x.drop (pos + 1) := by
        have h1 : pos < x.length := by rw [HM.out]; exact hlt
        have e : x[pos] = c := by
          rw [List.getElem?_eq_getElem h1] at hget
          exact Option.some.inj hget
        rw [List.drop_eq_getElem_cons h1, e]
      have hnx : ∀ ty, (Instr.next (.pointer (some ⟨w.heap.size + 1, 0, none⟩)) true ty).run Tryd.prog ((w.alloc (.cells #[.int .u8 4, .string ⟨#[]⟩, .int .i64 acc, .int .i64 0] 34)).alloc (.stringIter (mk x) pos)) =
          .ok (.tuple #[.bool true, .int .i64 pos, .int .i32 c.toNat]) ((w.alloc (.cells #[.int .u8 4, .string ⟨#[]⟩, .int .i64 acc, .int .i64 0] 34)).alloc (.stringIter (mk x) (pos + 1))) := fun ty => by
        have := run_next_ascii (P := Tryd.prog) (w.alloc (.cells #[.int .u8 4, .string ⟨#[]⟩, .int .i64 acc, .int .i64 0] 34)) (mk x) pos ty hlt2 (by simp only [hc]; omega)
        simp only [hc] at this
        have hsz : (w.alloc (.cells #[.int .u8 4, .string ⟨#[]⟩, .int .i64 acc, .int .i64 0] 34)).heap.size = w.heap.size + 1 := by simp
        rw [hsz] at this
        exact this
      have HG := Lib.hid hget
      have HDR := Lib.hid hdrop
      clear hget hd hc hdrop
      have hc3 : c.toNat < 256 := c.toNat_lt
      obtain ⟨d, hd⟩ : ∃ d, c.toNat = 48 + d := ⟨c.toNat - 48, by omega⟩
      have HC := Lib.hid hd
      rw [hd] at hnx
      have hd9 : d ≤ 9 := by omega
      clear hd
      by_cases hbig : (4611686018427387903 - d) / 10 < acc
      · go_wp2_with fail
        (try simp only [Exit.inBlock, Exit.then])
        refine bodyPost_ret (results_cell_tmp rfl _ _ _ _ rfl (tok_row _ _ _ rfl (second_block _ _ _))) rfl ?_
        refine ⟨congrArg Ending.returned ?_, below_two _ _ _⟩
        rw [← HV.out, HI.out, HDR.out, numF_big acc c _ d HC.out hbig]
        rfl
      · go_wp2_with fail
        refine ⟨⟨pos + 1, 10 * acc + d, by omega, by omega, ?_, Lib.hid ?_⟩, ?_⟩
        · have e : (10 * (acc : Int) + (48 + (d : Int) - 48)) = ((10 * acc + d : Nat) : Int) := by omega
          rw [e]
        · rw [HI.out, HDR.out, numF_small acc c _ d HC.out hbig]
        · rw [iterPos_two, iterPos_two]
          omega
    · have hnx : ∀ ty, (Instr.next (.pointer (some ⟨w.heap.size + 1, 0, none⟩)) true ty).run Tryd.prog ((w.alloc (.cells #[.int .u8 4, .string ⟨#[]⟩, .int .i64 acc, .int .i64 0] 34)).alloc (.stringIter (mk x) pos)) =
          .ok (.tuple #[.bool false]) ((w.alloc (.cells #[.int .u8 4, .string ⟨#[]⟩, .int .i64 acc, .int .i64 0] 34)).alloc (.stringIter (mk x) pos)) := fun ty => by
        have := run_next_end (P := Tryd.prog) (w.alloc (.cells #[.int .u8 4, .string ⟨#[]⟩, .int .i64 acc, .int .i64 0] 34)) (mk x) pos ty (by omega)
        have hsz : (w.alloc (.cells #[.int .u8 4, .string ⟨#[]⟩, .int .i64 acc, .int .i64 0] 34)).heap.size = w.heap.size + 1 := by simp
        rw [hsz] at this
        exact this
      go_wp2_with fail
      (try simp only [Exit.inBlock, Exit.then])
      refine bodyPost_ret (results_cell_tmp rfl _ _ _ _ rfl (tok_row _ _ _ rfl (second_block _ _ _))) rfl ?_
      refine ⟨congrArg Ending.returned ?_, below_two _ _ _⟩
      rw [← HV.out, HI.out, List.drop_eq_nil_of_le (by rw [HM.out]; omega), HM.out]
      rfl
end Go.Proofs.YtcaejcbmkiacmaaDoor
