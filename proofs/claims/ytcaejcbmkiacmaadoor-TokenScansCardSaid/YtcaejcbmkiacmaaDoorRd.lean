/- The document's names. -/
import Derived.Test.YtcaejcbmkiacmaaDoorRc
namespace Go.Proofs.YtcaejcbmkiacmaaDoor
open Go.RowKit

theorem other_block {w : World} {b g i : Nat} {v : Value} {o : Obj} (h : w.heap[g]? = some o) (hne : g ≠ b) : (w.setCell ⟨b, i, none⟩ v).heap[g]? = some o :=
  (Below.heap_setCell _ _ _ _ (by show g ≠ b; exact hne)).trans h
theorem first_of_two (w : World) (a b : Obj) : ((w.alloc a).alloc b).heap[w.heap.size]? = some a := second_block w a b
theorem last_of_two (w : World) (a b : Obj) : ((w.alloc a).alloc b).heap[w.heap.size + 1]? = some b := by
  have := last_block (w.alloc a) b
  have e : (w.alloc a).heap.size = w.heap.size + 1 := by simp
  rw [e] at this
  exact this
theorem row_lt {w : World} {b : Nat} {o : Obj} (h : w.heap[b]? = some o) : b < w.heap.size := by
  rcases Nat.lt_or_ge b w.heap.size with h1 | h1
  · exact h1
  · rw [Array.getElem?_eq_none h1] at h
    cases h
set_option maxHeartbeats 1000000 in
theorem rname_any (l : Bs) (s : ByteArray) (hsl : Hid (s = mk l)) (n : Nat) (hn : n ≤ 1099511627776) (hs : s.size = n) (w : World) (h0 : Hid (l.takeWhile part ≠ [])) :
    Calls Tryd.prog 43 #[.string s] w (ReadOut w (readV (nameT l))) := by
  have hr := fun w => rrun_any l s hsl n hn hs w
  obtain ⟨V, hV⟩ : ∃ V, readV (nameT l) = V := ⟨_, rfl⟩
  rw [hV]
  unfold nameT at hV
  have hp : 0 < (l.takeWhile part).length := List.length_pos_iff.2 h0.out
  have hln : l.length = n := by rw [← hs, hsl.out, mk_size]
  have hm0 : (l.takeWhile part).length ≤ n := by
    rw [← hln]
    exact takeWhile_le part l
  have htk := takeWhile_take part l
  obtain ⟨m, hm⟩ : ∃ m, (l.takeWhile part).length = m := ⟨_, rfl⟩
  rw [hm] at hr hp hm0 hV htk
  have hx : s.extract 0 m = mk (l.takeWhile part) := by rw [hsl.out, mk_take, ← htk]
  clear h0 htk hm
  generalize l.takeWhile part = x at hV hx
  have h00 : 0 < s.size := by omega
  have hhd : s[0] = l.headD 0 := by
    have e := hsl.out
    subst e
    exact mk_head l h00
  have hg : ∀ w, Calls Tryd.prog 42 #[.int .u8 s[0].toNat] w fun e w' => e = .returned (.bool (great (l.headD 0))) ∧ w' = w := fun w => by
    rw [← hhd]
    exact rgreat_any _ w
  have HG := Lib.hid hg
  have HR := Lib.hid hr
  have HW : Hid (∀ w', Calls Tryd.prog 16 #[.string (mk x)] w' (Said w' (decide (x ∈ words)))) := Lib.hid (fun w' => refWord_any x w')
  have hV2 : readV (if 32 < m then none else some (⟨if great (l.headD 0) then 2 else if decide (x ∈ words) = true then 6 else 1, x, 0, 0⟩, m)) = V := by
    rw [← hV]
    simp only [decide_eq_true_eq]
  clear hV hr hg hhd
  generalize great (l.headD 0) = pg at HG hV2
  generalize decide (x ∈ words) = pw at HW hV2
  have HV := Lib.hid hV2
  clear hV2
  go_enter Tryd.func43, Tryd.ntmps43
  by_cases h32 : 32 < m
  · have hv := HV.out
    rw [if_pos h32] at hv
    have HV2 := Lib.hid hv
    clear hv HV
    go_wp2_with fail
    refine (HR.out _).mono ?_
    rintro e w1 ⟨rfl, rfl⟩
    go_wp2_with fail
    (try simp only [Exit.inBlock, Exit.then])
    refine bodyPost_ret (results_cell_tmp rfl _ _ _ _ rfl (tok_row _ _ _ rfl (last_block _ _))) rfl ?_
    refine ⟨congrArg Ending.returned ?_, below_alloc _ _⟩
    exact HV2.out
  · have hv := HV.out
    rw [if_neg h32] at hv
    have HV2 := Lib.hid hv
    clear hv HV
    go_wp2_with fail
    refine (HR.out _).mono ?_
    rintro e w1 ⟨rfl, rfl⟩
    go_wp2_with fail
    refine (HG.out _).mono ?_
    rintro e w1 ⟨rfl, hw1⟩
    have hr0 := first_of_two w (.cells #[.int .u8 0, .string ⟨#[]⟩, .int .i64 0, .int .i64 0] 34) (.cells #[.int .u8 1, .string (mk x), .int .i64 0, .int .i64 0] 34)
    have hr1 := last_of_two w (.cells #[.int .u8 0, .string ⟨#[]⟩, .int .i64 0, .int .i64 0] 34) (.cells #[.int .u8 1, .string (mk x), .int .i64 0, .int .i64 0] 34)
    have hbw := below_two w (.cells #[.int .u8 0, .string ⟨#[]⟩, .int .i64 0, .int .i64 0] 34) (.cells #[.int .u8 1, .string (mk x), .int .i64 0, .int .i64 0] 34)
    rw [← hw1] at hr0 hr1 hbw
    have R0 := Lib.hid hr0
    have R1 := Lib.hid hr1
    have HB1 := Lib.hid hbw
    clear hr0 hr1 hbw hw1
    obtain ⟨g0, hg0⟩ : ∃ g0, w.heap.size = g0 := ⟨_, rfl⟩
    obtain ⟨g1, hg1⟩ : ∃ g1, w.heap.size + 1 = g1 := ⟨_, rfl⟩
    have hne : g0 ≠ g1 := by omega
    have hne2 : g1 ≠ g0 := by omega
    have hge : w.heap.size ≤ g1 := by omega
    have hge0 : w.heap.size ≤ g0 := by omega
    have R0' : Hid (w1.heap[g0]? = some (.cells #[.int .u8 0, .string ⟨#[]⟩, .int .i64 0, .int .i64 0] 34)) := by rw [← hg0]; exact R0
    have R1' : Hid (w1.heap[g1]? = some (.cells #[.int .u8 1, .string (mk x), .int .i64 0, .int .i64 0] 34)) := by rw [← hg1]; exact R1
    rw [hg1, hg0]
    clear R0 R1 hg0 hg1
    cases pg with
    | true =>
      have d0 := (tokRow_of R0'.out).1
      have d1 := (tokRow_of R0'.out).2.1
      have d2 := (tokRow_of R0'.out).2.2.1
      have d3 := (tokRow_of R0'.out).2.2.2.1
      have f0 := (tokRow_of R0'.out).2.2.2.2 0
      have f1 := (tokRow_of R0'.out).2.2.2.2 1
      have f2 := (tokRow_of R0'.out).2.2.2.2 2
      have f3 := (tokRow_of R0'.out).2.2.2.2 3
      have c0 := (tokRow_of R1'.out).1
      have c1 := (tokRow_of R1'.out).2.1
      have c2 := (tokRow_of R1'.out).2.2.1
      have c3 := (tokRow_of R1'.out).2.2.2.1
      have k0 := (tokRow_of R1'.out).2.2.2.2 0
      go_wp2_with fail
      (try simp only [Exit.inBlock, Exit.then])
      refine bodyPost_ret (results_cell_tmp rfl _ _ _ _ rfl (tok_row _ _ _ rfl (four_block (other_block R0'.out hne) _ _ _ _))) rfl ?_
      refine ⟨congrArg Ending.returned ?_, below_setCell (below_setCell (below_setCell (below_setCell (below_setCell HB1.out hge _ _) hge0 _ _) hge0 _ _) hge0 _ _) hge0 _ _⟩
      exact HV2.out
    | false =>
      have c1' := (tokRow_of R1'.out).2.1
      go_wp2_with fail
      refine (HW.out _).mono ?_
      rintro e w2 ⟨rfl, hb2⟩
      have R0 := Lib.hid ((hb2.block g0 (row_lt R0'.out)).trans R0'.out)
      have R1 := Lib.hid ((hb2.block g1 (row_lt R1'.out)).trans R1'.out)
      have HB2 := Lib.hid (HB1.out.trans (hb2.mono HB1.out.size))
      have d0 := (tokRow_of R0.out).1
      have d1 := (tokRow_of R0.out).2.1
      have d2 := (tokRow_of R0.out).2.2.1
      have d3 := (tokRow_of R0.out).2.2.2.1
      have f0 := (tokRow_of R0.out).2.2.2.2 0
      have f1 := (tokRow_of R0.out).2.2.2.2 1
      have f2 := (tokRow_of R0.out).2.2.2.2 2
      have f3 := (tokRow_of R0.out).2.2.2.2 3
      have c0 := (tokRow_of R1.out).1
      have c1 := (tokRow_of R1.out).2.1
      have c2 := (tokRow_of R1.out).2.2.1
      have c3 := (tokRow_of R1.out).2.2.2.1
      have k0 := (tokRow_of R1.out).2.2.2.2 0
      clear hb2 R0' R1' c1'
      cases pw with
      | true =>
        go_wp2_with fail
        (try simp only [Exit.inBlock, Exit.then])
        refine bodyPost_ret (results_cell_tmp rfl _ _ _ _ rfl (tok_row _ _ _ rfl (four_block (other_block R0.out hne) _ _ _ _))) rfl ?_
        refine ⟨congrArg Ending.returned ?_, below_setCell (below_setCell (below_setCell (below_setCell (below_setCell HB2.out hge _ _) hge0 _ _) hge0 _ _) hge0 _ _) hge0 _ _⟩
        exact HV2.out
      | false =>
        go_wp2_with fail
        (try simp only [Exit.inBlock, Exit.then])
        refine bodyPost_ret (results_cell_tmp rfl _ _ _ _ rfl (tok_row _ _ _ rfl (four_block R0.out _ _ _ _))) rfl ?_
        refine ⟨congrArg Ending.returned ?_, below_setCell (below_setCell (below_setCell (below_setCell HB2.out hge0 _ _) hge0 _ _) hge0 _ _) hge0 _ _⟩
        exact HV2.out
end Go.Proofs.YtcaejcbmkiacmaaDoor
