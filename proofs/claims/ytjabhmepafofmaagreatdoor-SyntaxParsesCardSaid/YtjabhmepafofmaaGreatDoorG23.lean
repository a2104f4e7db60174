/- Tc -/
import Derived.Test.YtjabhmepafofmaaGreatDoorG22
set_option linter.unusedVariables false
set_option linter.unusedSimpArgs false
namespace Go.Proofs.YtjabhmepafofmaaGreatDoor.Sc
open Go.RowKit
theorem takeWhile_get (p : UInt8 → Bool) (l : Bs) (q : Nat) (c : UInt8) (h : (l.takeWhile p)[q]? = some c) : l[q]? = some c := by
 obtain ⟨z, hz⟩ := List.takeWhile_prefix (p := p) (l := l)
 have h1 : (l.takeWhile p ++ z)[q]? = some c := by
  rw [List.getElem?_append_left (List.getElem?_eq_some_iff.1 h).1]
  exact h
 rwa [hz] at h1
theorem takeWhile_stop (p : UInt8 → Bool) (l : Bs) (c : UInt8) (h : l[(l.takeWhile p).length]? = some c) : p c = false :=
 takeWhile_next p l c _ (drop_two h)
theorem row_end {w : World} {b : Nat} {v0 v1 v2 v3 u0 u1 u2 u3 : Value} (h : w.heap[b]? = some (.cells #[v0, v1, v2, v3] 31 (0, 0))) :
  (loadVar 31 ⟨b, 0, none⟩).run Tryz.prog ((((w.setCell ⟨b, 0, none⟩ u0).setCell ⟨b, 1, none⟩ u1).setCell ⟨b, 2, none⟩ u2).setCell ⟨b, 3, none⟩ u3) = .ok (.agg #[u0, u1, u2, u3]) ((((w.setCell ⟨b, 0, none⟩ u0).setCell ⟨b, 1, none⟩ u1).setCell ⟨b, 2, none⟩ u2).setCell ⟨b, 3, none⟩ u3) :=
 tok_row _ _ _ rfl (row_first h)
set_option maxRecDepth 100000 in
set_option maxHeartbeats 1000000 in
theorem rnumber_any (l : Bs) (s : ByteArray) (hsl : Hid (s = mk l)) (n : Nat) (hn : n ≤ 1099511627776) (hs : s.size = n) (w : World) :
  Calls Tryz.prog 70 #[.string s] w (ReadOut w (readV (numT l))) := by
 obtain ⟨V, hV⟩ : ∃ V, readV (numT l) = V := ⟨_, rfl⟩
 rw [hV]
 unfold numT at hV
 have hln : l.length = n := by rw [← hs, hsl.out, mk_size]
 have hm0 : (l.takeWhile digit).length ≤ n := by
  rw [← hln]
  exact takeWhile_le digit l
 have hdig := takeWhile_mem digit l
 have hget := takeWhile_get digit l
 have hstop := takeWhile_stop digit l
 generalize l.takeWhile digit = x at hm0 hV hdig hget hstop
 obtain ⟨m, hm⟩ : ∃ m, x.length = m := ⟨_, rfl⟩
 rw [hm] at hm0 hstop hV
 have HV := Lib.hid hV
 have HD := Lib.hid hdig
 have HG := Lib.hid hget
 have HST := Lib.hid hstop
 have HM := Lib.hid hm
 have HLN := Lib.hid hln
 clear hV hdig hget hstop hm hln
 have hrow := Lib.hid (last_block w (.cells #[.int .u8 0, .string ⟨#[]⟩, .int .i64 0, .int .i64 0] 31))
 have c0 := (tokRow_of hrow.out).1
 have c1 := (tokRow_of hrow.out).2.1
 have c2 := (tokRow_of hrow.out).2.2.1
 have c3 := (tokRow_of hrow.out).2.2.2.1
 have f0 := (tokRow_of hrow.out).2.2.2.2 0
 have f1 := (tokRow_of hrow.out).2.2.2.2 1
 have f2 := (tokRow_of hrow.out).2.2.2.2 2
 have f3 := (tokRow_of hrow.out).2.2.2.2 3
 go_enter Tryz.func70, Tryz.ntmps70
 go_wp2_with fail
 go_loopw [4, 5] (fun i a wr => ∃ q acc : Nat, q ≤ m ∧ acc ≤ 4611686018427387903 ∧ i = .int .i64 q ∧ a = .int .i64 acc ∧ wr = w.alloc (.cells #[.int .u8 0, .string ⟨#[]⟩, .int .i64 0, .int .i64 0] 31) ∧ Hid (numF 0 x = numF acc (x.drop q)))
  (fun i _ _ => m - (intOf i).toNat)
 case atStart => exact ⟨0, 0, Nat.zero_le _, Nat.zero_le _, rfl, rfl, rfl, Lib.hid rfl⟩
 case round =>
  obtain ⟨q, acc, hq, hacc, rfl, rfl, rfl, HI⟩ := hrel
  by_cases hlt : q < m
  ·
   obtain ⟨c, hc⟩ : ∃ c, x[q]? = some c := ⟨_, List.getElem?_eq_getElem (by rw [HM.out]; exact hlt)⟩
   have hqs : q < s.size := by omega
   have hsc : s[q] = c := by
    have e := hsl.out
    subst e
    exact Option.some.inj ((mk_get l q hqs).symm.trans (HG.out q c hc))
   have hd : digit c = true := HD.out c (List.mem_of_getElem? hc)
   have hcd : 48 ≤ c.toNat ∧ c.toNat ≤ 57 := by simpa [digit] using hd
   have hdc := rdigit_any c (w.alloc (.cells #[.int .u8 0, .string ⟨#[]⟩, .int .i64 0, .int .i64 0] 31))
   rw [hd] at hdc
   obtain ⟨d, hd2⟩ : ∃ d, c.toNat = 48 + d := ⟨c.toNat - 48, by omega⟩
   have hd9 : d ≤ 9 := by omega
   rw [hd2] at hdc
   have HDC := Lib.hid hdc
   have HDR := Lib.hid (drop_two hc)
   have HC := Lib.hid hd2
   have hcast : (c.toNat : Int) = 48 + (d : Int) := by omega
   clear hc hd hcd hdc hd2
   by_cases hbig : (4611686018427387903 - d) / 10 < acc
   ·
    go_wp2_with fail
    refine HDC.out.mono ?_
    rintro e w2 ⟨rfl, rfl⟩
    go_wp2_with fail
    (try simp only [Exit.inBlock, Exit.then])
    refine bodyPost_ret (results_cell_tmp rfl _ _ _ _ rfl (tok_row _ _ _ rfl (last_block _ _))) rfl ?_
    refine ⟨congrArg Ending.returned ?_, below_alloc w _⟩
    rw [← HV.out, HI.out, HDR.out, numF_big acc c _ d HC.out hbig]
    rfl
   ·
    go_wp2_with fail
    refine HDC.out.mono ?_
    rintro e w2 ⟨rfl, rfl⟩
    go_wp2_with fail
    refine ⟨⟨q + 1, 10 * acc + d, by omega, by omega, by go_num, ?_, trivial, Lib.hid ?_⟩, by simp [intOf]; omega⟩
    ·
     have e : (10 * (acc : Int) + (48 + (d : Int) - 48)) = ((10 * acc + d : Nat) : Int) := by omega
     rw [e]
    ·
     rw [HI.out, HDR.out, numF_small acc c _ d HC.out hbig]
  ·
   have hqm : q = m := by omega
   subst hqm
   by_cases hqn : q < n
   ·
    have hqs : q < s.size := by omega
    obtain ⟨c, hc⟩ : ∃ c, s[q] = c := ⟨_, rfl⟩
    have hdc := rdigit_any c (w.alloc (.cells #[.int .u8 0, .string ⟨#[]⟩, .int .i64 0, .int .i64 0] 31))
    have hcl : l[q]? = some c := by
     have e := hsl.out
     subst e
     rw [mk_get l q hqs, hc]
    rw [HST.out c hcl] at hdc
    have HDC := Lib.hid hdc
    clear hcl hdc
    go_wp2_with fail
    refine HDC.out.mono ?_
    rintro e w2 ⟨rfl, rfl⟩
    go_wp2_with fail
    (try simp only [Exit.inBlock, Exit.then])
    refine bodyPost_ret (results_cell_tmp rfl _ _ _ _ rfl (tok_row _ _ _ rfl (last_block _ _))) rfl ?_
    refine ⟨congrArg Ending.returned ?_, below_alloc w _⟩
    rw [← HV.out, HI.out, List.drop_eq_nil_of_le (by rw [HM.out]; omega)]
    rfl
   ·
    go_wp2_with fail
    (try simp only [Exit.inBlock, Exit.then])
    refine bodyPost_ret (results_cell_tmp rfl _ _ _ _ rfl (tok_row _ _ _ rfl (last_block _ _))) rfl ?_
    refine ⟨congrArg Ending.returned ?_, below_alloc w _⟩
    rw [← HV.out, HI.out, List.drop_eq_nil_of_le (by rw [HM.out]; omega)]
    rfl
theorem other_block {w : World} {b g i : Nat} {v : Value} {o : Obj} (h : w.heap[g]? = some o) (hne : g ≠ b) : (w.setCell ⟨b, i, none⟩ v).heap[g]? = some o :=
 (Below.heap_setCell _ _ _ _ (by show g ≠ b; exact hne)).trans h
theorem first_of_two (w : World) (a b : Obj) : ((w.alloc a).alloc b).heap[w.heap.size]? = some a := second_block w a b
theorem last_of_two (w : World) (a b : Obj) : ((w.alloc a).alloc b).heap[w.heap.size + 1]? = some b := by
 have := last_block (w.alloc a) b
 have e : (w.alloc a).heap.size = w.heap.size + 1 := by simp
 rw [e] at this
 exact this
theorem row_lt {w : World} {b : Nat} {o : Obj} (h : w.heap[b]? = some o) : b < w.heap.size := by
 rcases Nat.lt_or_ge b w.heap.size with h1 | h1
 ·
  exact h1
 ·
  rw [Array.getElem?_eq_none h1] at h
  cases h
set_option maxRecDepth 100000 in
set_option maxHeartbeats 1000000 in
theorem rname_any (l : Bs) (s : ByteArray) (hsl : Hid (s = mk l)) (n : Nat) (hn : n ≤ 1099511627776) (hs : s.size = n) (w : World) (h0 : Hid (l.takeWhile part ≠ [])) :
  Calls Tryz.prog 68 #[.string s] w (ReadOut w (readV (nameT l))) := by
 have hr := fun w => rrun_any l s hsl n hn hs w
 obtain ⟨V, hV⟩ : ∃ V, readV (nameT l) = V := ⟨_, rfl⟩
 rw [hV]
 unfold nameT at hV
 have hp : 0 < (l.takeWhile part).length := List.length_pos_iff.2 h0.out
 have hln : l.length = n := by rw [← hs, hsl.out, mk_size]
 have hm0 : (l.takeWhile part).length ≤ n := by
  rw [← hln]
  exact takeWhile_le part l
 have htk := takeWhile_take part l
 obtain ⟨m, hm⟩ : ∃ m, (l.takeWhile part).length = m := ⟨_, rfl⟩
 rw [hm] at hr hp hm0 hV htk
 have hx : s.extract 0 m = mk (l.takeWhile part) := by rw [hsl.out, mk_take, ← htk]
 clear h0 htk hm
 generalize l.takeWhile part = x at hV hx
 have h00 : 0 < s.size := by omega
 have hhd : s[0] = l.headD 0 := by
  have e := hsl.out
  subst e
  exact mk_head l h00
 have hg : ∀ w, Calls Tryz.prog 67 #[.int .u8 s[0].toNat] w fun e w' => e = .returned (.bool (great (l.headD 0))) ∧ w' = w := fun w => by
  rw [← hhd]
  exact rgreat_any _ w
 have HG := Lib.hid hg
 have HR := Lib.hid hr
 have HW : Hid (∀ w', Calls Tryz.prog 90 #[.string (mk x)] w' (Said w' (decide (x ∈ words)))) := Lib.hid (fun w' => refWord_any x w')
 have hV2 : readV (if 32 < m then none else some (⟨if great (l.headD 0) then 2 else if decide (x ∈ words) = true then 6 else 1, x, 0, 0⟩, m)) = V := by
  rw [← hV]
  simp only [decide_eq_true_eq]
 clear hV hr hg hhd
 generalize great (l.headD 0) = pg at HG hV2
 generalize decide (x ∈ words) = pw at HW hV2
 have HV := Lib.hid hV2
 clear hV2
 go_enter Tryz.func68, Tryz.ntmps68
 by_cases h32 : 32 < m
 ·
  have hv := HV.out
  rw [if_pos h32] at hv
  have HV2 := Lib.hid hv
  clear hv HV
  go_wp2_with fail
  refine (HR.out _).mono ?_
  rintro e w1 ⟨rfl, rfl⟩
  go_wp2_with fail
  (try simp only [Exit.inBlock, Exit.then])
  refine bodyPost_ret (results_cell_tmp rfl _ _ _ _ rfl (tok_row _ _ _ rfl (last_block _ _))) rfl ?_
  refine ⟨congrArg Ending.returned ?_, below_alloc _ _⟩
  exact HV2.out
 ·
  have hv := HV.out
  rw [if_neg h32] at hv
  have HV2 := Lib.hid hv
  clear hv HV
  go_wp2_with fail
  refine (HR.out _).mono ?_
  rintro e w1 ⟨rfl, rfl⟩
  go_wp2_with fail
  refine (HG.out _).mono ?_
  rintro e w1 ⟨rfl, hw1⟩
  have hr0 := first_of_two w (.cells #[.int .u8 0, .string ⟨#[]⟩, .int .i64 0, .int .i64 0] 31) (.cells #[.int .u8 1, .string (mk x), .int .i64 0, .int .i64 0] 31)
  have hr1 := last_of_two w (.cells #[.int .u8 0, .string ⟨#[]⟩, .int .i64 0, .int .i64 0] 31) (.cells #[.int .u8 1, .string (mk x), .int .i64 0, .int .i64 0] 31)
  have hbw := below_two w (.cells #[.int .u8 0, .string ⟨#[]⟩, .int .i64 0, .int .i64 0] 31) (.cells #[.int .u8 1, .string (mk x), .int .i64 0, .int .i64 0] 31)
  rw [← hw1] at hr0 hr1 hbw
  have R0 := Lib.hid hr0
  have R1 := Lib.hid hr1
  have HB1 := Lib.hid hbw
  clear hr0 hr1 hbw hw1
  obtain ⟨g0, hg0⟩ : ∃ g0, w.heap.size = g0 := ⟨_, rfl⟩
  obtain ⟨g1, hg1⟩ : ∃ g1, w.heap.size + 1 = g1 := ⟨_, rfl⟩
  have hne : g0 ≠ g1 := by omega
  have hne2 : g1 ≠ g0 := by omega
  have hge : w.heap.size ≤ g1 := by omega
  have hge0 : w.heap.size ≤ g0 := by omega
  have R0' : Hid (w1.heap[g0]? = some (.cells #[.int .u8 0, .string ⟨#[]⟩, .int .i64 0, .int .i64 0] 31)) := by rw [← hg0]; exact R0
  have R1' : Hid (w1.heap[g1]? = some (.cells #[.int .u8 1, .string (mk x), .int .i64 0, .int .i64 0] 31)) := by rw [← hg1]; exact R1
  rw [hg1, hg0]
  clear R0 R1 hg0 hg1
  cases pg with
  | true =>
   have d0 := (tokRow_of R0'.out).1
   have d1 := (tokRow_of R0'.out).2.1
   have d2 := (tokRow_of R0'.out).2.2.1
   have d3 := (tokRow_of R0'.out).2.2.2.1
   have f0 := (tokRow_of R0'.out).2.2.2.2 0
   have f1 := (tokRow_of R0'.out).2.2.2.2 1
   have f2 := (tokRow_of R0'.out).2.2.2.2 2
   have f3 := (tokRow_of R0'.out).2.2.2.2 3
   have c0 := (tokRow_of R1'.out).1
   have c1 := (tokRow_of R1'.out).2.1
   have c2 := (tokRow_of R1'.out).2.2.1
   have c3 := (tokRow_of R1'.out).2.2.2.1
   have k0 := (tokRow_of R1'.out).2.2.2.2 0
   go_wp2_with fail
   (try simp only [Exit.inBlock, Exit.then])
   refine bodyPost_ret (results_cell_tmp rfl _ _ _ _ rfl (tok_row _ _ _ rfl (four_block (other_block R0'.out hne) _ _ _ _))) rfl ?_
   refine ⟨congrArg Ending.returned ?_, below_setCell (below_setCell (below_setCell (below_setCell (below_setCell HB1.out hge _ _) hge0 _ _) hge0 _ _) hge0 _ _) hge0 _ _⟩
   exact HV2.out
  | false =>
   have c1' := (tokRow_of R1'.out).2.1
   go_wp2_with fail
   refine (HW.out _).mono ?_
   rintro e w2 ⟨rfl, hb2⟩
   have R0 := Lib.hid ((hb2.block g0 (row_lt R0'.out)).trans R0'.out)
   have R1 := Lib.hid ((hb2.block g1 (row_lt R1'.out)).trans R1'.out)
   have HB2 := Lib.hid (HB1.out.trans (hb2.mono HB1.out.size))
   have d0 := (tokRow_of R0.out).1
   have d1 := (tokRow_of R0.out).2.1
   have d2 := (tokRow_of R0.out).2.2.1
   have d3 := (tokRow_of R0.out).2.2.2.1
   have f0 := (tokRow_of R0.out).2.2.2.2 0
   have f1 := (tokRow_of R0.out).2.2.2.2 1
   have f2 := (tokRow_of R0.out).2.2.2.2 2
   have f3 := (tokRow_of R0.out).2.2.2.2 3
   have c0 := (tokRow_of R1.out).1
   have c1 := (tokRow_of R1.out).2.1
   have c2 := (tokRow_of R1.out).2.2.1
   have c3 := (tokRow_of R1.out).2.2.2.1
   have k0 := (tokRow_of R1.out).2.2.2.2 0
   clear hb2 R0' R1' c1'
   cases pw with
   | true =>
    go_wp2_with fail
    (try simp only [Exit.inBlock, Exit.then])
    refine bodyPost_ret (results_cell_tmp rfl _ _ _ _ rfl (tok_row _ _ _ rfl (four_block (other_block R0.out hne) _ _ _ _))) rfl ?_
    refine ⟨congrArg Ending.returned ?_, below_setCell (below_setCell (below_setCell (below_setCell (below_setCell HB2.out hge _ _) hge0 _ _) hge0 _ _) hge0 _ _) hge0 _ _⟩
    exact HV2.out
   | false =>
    go_wp2_with fail
    (try simp only [Exit.inBlock, Exit.then])
    refine bodyPost_ret (results_cell_tmp rfl _ _ _ _ rfl (tok_row _ _ _ rfl (four_block R0.out _ _ _ _))) rfl ?_
    refine ⟨congrArg Ending.returned ?_, below_setCell (below_setCell (below_setCell (below_setCell HB2.out hge0 _ _) hge0 _ _) hge0 _ _) hge0 _ _⟩
    exact HV2.out
/-- what the document's text hands back -/
def rtextV (l : Bs) : Value := match textF (l.drop 1) with
 | none => .tuple #[.string ⟨#[]⟩, .int .i64 0]
 | some p => .tuple #[.string (mk p.1), .int .i64 (1 + p.2 : Nat)]
theorem rtextV_none {l : Bs} (h : textF (l.drop 1) = none) : rtextV l = .tuple #[.string ⟨#[]⟩, .int .i64 0] := by
 unfold rtextV
 rw [h]
theorem rtextV_some {l : Bs} {p : Bs × Nat} (h : textF (l.drop 1) = some p) : rtextV l = .tuple #[.string (mk p.1), .int .i64 (1 + p.2 : Nat)] := by
 unfold rtextV
 rw [h]
theorem tx_none {l : Bs} {q : Nat} {done : Bs} (hi : TxInv l q done) (h : textF (l.drop q) = none) : textF (l.drop 1) = none := by
 unfold TxInv at hi
 rw [hi, h]
 rfl
theorem tx_some {l : Bs} {q : Nat} {done : Bs} (hi : TxInv l q done) (h : textF (l.drop q) = some ([], 1)) : textF (l.drop 1) = some (done, 1 + (q - 1)) := by
 unfold TxInv at hi
 rw [hi, h]
 simp
set_option maxRecDepth 100000 in
set_option maxHeartbeats 2000000 in
theorem rtext_any (l : Bs) (s : ByteArray) (hsl : Hid (s = mk l)) (n : Nat) (hn : n ≤ 1099511627776) (hn1 : 1 ≤ n) (hs : s.size = n) (w : World) :
  Calls Tryz.prog 71 #[.string s] w (ReadOut w (rtextV l)) := by
 obtain ⟨V, hV⟩ : ∃ V, rtextV l = V := ⟨_, rfl⟩
 rw [hV]
 have HV := Lib.hid hV
 have HLN : Hid (l.length = n) := Lib.hid (by rw [← hs, hsl.out, mk_size])
 obtain ⟨i0, hi, hz0, hz1, hz2⟩ := info5
 have HI := Lib.hid (And.intro hi (And.intro hz0 (And.intro hz1 hz2)))
 clear hi hz0 hz1 hz2 hV
 go_enter Tryz.func71, Tryz.ntmps71
 go_wp2_with fail
 go_loopw [4, 5] (fun v i wr => ∃ (q : Nat) (done : Bs), 1 ≤ q ∧ q ≤ n ∧ done.length ≤ q ∧ i = .int .i64 q ∧ Hid (wr.ownsRow w.heap.size 5 1 v done.length (bytesV done)) ∧ Hid (Below w.heap.size w wr) ∧ Hid (TxInv l q done)) (fun _ i _ => n + 1 - (intOf i).toNat)
 case atStart => exact ⟨1, [], Nat.le_refl _, hn1, Nat.zero_le _, rfl, Lib.hid ⟨rfl, .inl ⟨rfl, rfl⟩⟩, Lib.hid (Below.refl _ _), Lib.hid (txInv_one l)⟩
 case round =>
  obtain ⟨q, done, hq1, hq, hdq, rfl, HO, HF, HX⟩ := hrel
  by_cases hlt : q < n
  ·
   have hqs : q < s.size := by omega
   obtain ⟨c, hc⟩ : ∃ c, s[q] = c := ⟨_, rfl⟩
   have hget : l[q]? = some c := by
    have e := hsl.out
    subst e
    rw [mk_get l q hqs, hc]
   have HD := Lib.hid (drop_two hget)
   obtain ⟨cn, hcn⟩ : ∃ cn, c.toNat = cn := ⟨_, rfl⟩
   have HC := Lib.hid hcn
   have hv : s[q].toNat = cn := by rw [hc, hcn]
   have hcn256 : cn < 256 := by rw [← hcn]; exact c.toNat_lt
   have hce : ∀ k : UInt8, cn = k.toNat → c = k := fun k hk => UInt8.toNat_inj.1 (by rw [hcn, hk])
   have HCE := Lib.hid hce
   have HCN : Hid (∀ k : UInt8, cn ≠ k.toNat → c ≠ k) := Lib.hid (fun k hk e => hk (by rw [← hcn, e]))
   obtain ⟨dn, hdn⟩ : ∃ dn, done.length = dn := ⟨_, rfl⟩
   rw [hdn] at hdq HO
   have HQ := Lib.hid hdn
   have hdn2 : dn ≤ 1099511627776 := by omega
   have hmax : dn + 1 ≤ maxLen := by unfold maxLen; omega
   clear hget hcn hce hc hdn
   by_cases h34 : cn = 34
   ·
    have hc34 : c = 34 := HCE.out 34 h34
    have HT : Hid (textF (l.drop 1) = some (done, 1 + (q - 1))) := Lib.hid (tx_some HX.out (by rw [HD.out, hc34]; exact textF_quote _))
    subst h34
    obtain ⟨a6, cap6, rfl, hs6, _, _⟩ := srcAt_own (l := done) (by rw [HQ.out]; exact HO.out)
    have hcv : (convert 63 9 (.slice a6 done.length cap6)).run Tryz.prog wr = .ok (.string (mk done)) wr := hs6.spells _ cap6 rfl 9 Tryz.underlying9
    clear hs6 hc34
    go_wp2_with fail
    go_ret2
    refine ⟨?_, HF.out⟩
    rw [← HV.out, rtextV_some HT.out]
    have e : ((1 + (1 + (q - 1)) : Nat) : Int) = (q : Int) + 1 := by omega
    simp only [e]
    rfl
   ·
    by_cases hbad : cn < 32
    ·
     have HT : Hid (textF (l.drop 1) = none) := Lib.hid (tx_none HX.out (by rw [HD.out]; exact textF_bad c _ (HCN.out 34 h34) (by rw [HC.out]; omega)))
     have q1 : ((cn : Int) != 34) = true := by simp only [bne_iff_ne, ne_eq]; omega
     go_wp2_with fail
     go_ret2
     refine ⟨?_, HF.out⟩
     rw [← HV.out, rtextV_none HT.out]
     rfl
    ·
     by_cases hbad2 : 126 < cn
     ·
      have HT : Hid (textF (l.drop 1) = none) := Lib.hid (tx_none HX.out (by rw [HD.out]; exact textF_bad c _ (HCN.out 34 h34) (by rw [HC.out]; omega)))
      have q1 : ((cn : Int) != 34) = true := by simp only [bne_iff_ne, ne_eq]; omega
      go_wp2_with fail
      go_ret2
      refine ⟨?_, HF.out⟩
      rw [← HV.out, rtextV_none HT.out]
      rfl
     ·
      by_cases h92 : cn = 92
      ·
       have hc92 : c = 92 := HCE.out 92 h92
       subst h92
       by_cases hend : q + 1 = n
       ·
        have HT : Hid (textF (l.drop 1) = none) := Lib.hid (tx_none HX.out (by rw [HD.out, hc92, List.drop_eq_nil_of_le (by rw [HLN.out]; omega)]; exact textF_slash_end))
        clear hc92
        go_wp2_with fail
        go_ret2
        refine ⟨?_, HF.out⟩
        rw [← HV.out, rtextV_none HT.out]
        rfl
       ·
        have hqs2 : q + 1 < s.size := by omega
        obtain ⟨d, hd⟩ : ∃ d, s[q + 1] = d := ⟨_, rfl⟩
        have hget2 : l[q + 1]? = some d := by
         have e := hsl.out
         subst e
         rw [mk_get l (q + 1) hqs2, hd]
        have HD2 : Hid (l.drop q = 92 :: d :: l.drop (q + 2)) := Lib.hid (by rw [HD.out, hc92, drop_two hget2])
        obtain ⟨en, hen⟩ : ∃ en, d.toNat = en := ⟨_, rfl⟩
        have hv2 : s[q + 1].toNat = en := by rw [hd, hen]
        have HDE : Hid (∀ k : UInt8, en = k.toNat → d = k) := Lib.hid (fun k hk => UInt8.toNat_inj.1 (by rw [hen, hk]))
        have HDN : Hid (∀ k : UInt8, en ≠ k.toNat → d ≠ k) := Lib.hid (fun k hk e => hk (by rw [← hen, e]))
        have HEN := Lib.hid hen
        have hqn2 : q + 1 < n := by omega
        clear hget2 hd hen hc92
        by_cases h110 : en = 110
        ·
         have he : escaped d = some 10 := by rw [HDE.out 110 h110]; rfl
         have HEX := Lib.hid he
         subst h110
         clear he
         go_wp2_with (at_builtin; refine wpList_append_own_at _ rfl _ _ 63 rfl w.heap.size 5 i0 (.int .u8 0) 1 1 Tryz.underlying63 HI.out.1 HI.out.2.1 HI.out.2.2.1 HI.out.2.2.2 rfl (by decide) _ _ _ rfl (HO.out.alloc _) ⟨wr.heap.size, 0, none⟩ 1 1 [.int .u8 10] rfl rfl (tok_cells _ _ _ _ rfl) (by simp [Value.oneCell']) (by omega) (by omega) (Nat.le_trans HF.out.size (by simp)) ?_; intro v' w6 hown6 hgrow6 _ _)
         have hg2 : (wr.alloc (.cells ([.int .u8 10] : List Value).toArray 5)).grownBy w6 u4.ownBlock := hgrow6
         have hown7 := own_app (l2 := [10]) hown6 HQ.out rfl (by simp [bytesV])
         have hB6 := below_grown2 (HF.out.alloc HF.out.size (.cells ([.int .u8 10] : List Value).toArray 5)) (Nat.le_refl _) (HO.out.alloc _) hg2
         exact ⟨⟨q + 2, done ++ [10], by omega, by omega, by simp only [List.length_append, List.length_cons, List.length_nil, HQ.out]; omega, by go_num, Lib.hid hown7, Lib.hid hB6, Lib.hid (txInv_slash HX.out hq1 HD2.out HEX.out)⟩, by simp [intOf]; omega⟩
        ·
         by_cases he92 : en = 92
         ·
          have he : escaped d = some 92 := by rw [HDE.out 92 he92]; rfl
          have HEX := Lib.hid he
          subst he92
          clear he
          go_wp2_with (at_builtin; refine wpList_append_own_at _ rfl _ _ 63 rfl w.heap.size 5 i0 (.int .u8 0) 1 1 Tryz.underlying63 HI.out.1 HI.out.2.1 HI.out.2.2.1 HI.out.2.2.2 rfl (by decide) _ _ _ rfl (HO.out.alloc _) ⟨wr.heap.size, 0, none⟩ 1 1 [.int .u8 92] rfl rfl (tok_cells _ _ _ _ rfl) (by simp [Value.oneCell']) (by omega) (by omega) (Nat.le_trans HF.out.size (by simp)) ?_; intro v' w6 hown6 hgrow6 _ _)
          have hg2 : (wr.alloc (.cells ([.int .u8 92] : List Value).toArray 5)).grownBy w6 u4.ownBlock := hgrow6
          have hown7 := own_app (l2 := [92]) hown6 HQ.out rfl (by simp [bytesV])
          have hB6 := below_grown2 (HF.out.alloc HF.out.size (.cells ([.int .u8 92] : List Value).toArray 5)) (Nat.le_refl _) (HO.out.alloc _) hg2
          exact ⟨⟨q + 2, done ++ [92], by omega, by omega, by simp only [List.length_append, List.length_cons, List.length_nil, HQ.out]; omega, by go_num, Lib.hid hown7, Lib.hid hB6, Lib.hid (txInv_slash HX.out hq1 HD2.out HEX.out)⟩, by simp [intOf]; omega⟩
         ·
          by_cases he34 : en = 34
          ·
           have he : escaped d = some 34 := by rw [HDE.out 34 he34]; rfl
           have HEX := Lib.hid he
           subst he34
           clear he
           go_wp2_with (at_builtin; refine wpList_append_own_at _ rfl _ _ 63 rfl w.heap.size 5 i0 (.int .u8 0) 1 1 Tryz.underlying63 HI.out.1 HI.out.2.1 HI.out.2.2.1 HI.out.2.2.2 rfl (by decide) _ _ _ rfl (HO.out.alloc _) ⟨wr.heap.size, 0, none⟩ 1 1 [.int .u8 34] rfl rfl (tok_cells _ _ _ _ rfl) (by simp [Value.oneCell']) (by omega) (by omega) (Nat.le_trans HF.out.size (by simp)) ?_; intro v' w6 hown6 hgrow6 _ _)
           have hg2 : (wr.alloc (.cells ([.int .u8 34] : List Value).toArray 5)).grownBy w6 u4.ownBlock := hgrow6
           have hown7 := own_app (l2 := [34]) hown6 HQ.out rfl (by simp [bytesV])
           have hB6 := below_grown2 (HF.out.alloc HF.out.size (.cells ([.int .u8 34] : List Value).toArray 5)) (Nat.le_refl _) (HO.out.alloc _) hg2
           exact ⟨⟨q + 2, done ++ [34], by omega, by omega, by simp only [List.length_append, List.length_cons, List.length_nil, HQ.out]; omega, by go_num, Lib.hid hown7, Lib.hid hB6, Lib.hid (txInv_slash HX.out hq1 HD2.out HEX.out)⟩, by simp [intOf]; omega⟩
          ·
           have he : escaped d = none := by
            unfold escaped
            rw [if_neg (HDN.out 110 h110), if_neg (HDN.out 92 he92), if_neg (HDN.out 34 he34)]
           have HT : Hid (textF (l.drop 1) = none) := Lib.hid (tx_none HX.out (by rw [HD2.out, textF_slash, he]))
           have q1 : ((en : Int) != 110) = true := by simp only [bne_iff_ne, ne_eq]; omega
           have q2 : ((en : Int) != 92) = true := by simp only [bne_iff_ne, ne_eq]; omega
           have q3 : ((en : Int) != 34) = true := by simp only [bne_iff_ne, ne_eq]; omega
           clear he
           go_wp2_with fail
           go_ret2
           refine ⟨?_, HF.out⟩
           rw [← HV.out, rtextV_none HT.out]
           rfl
      ·
       have q1 : ((cn : Int) != 34) = true := by simp only [bne_iff_ne, ne_eq]; omega
       have H34 := Lib.hid (HCN.out 34 h34)
       have H92 := Lib.hid (HCN.out 92 h92)
       go_wp2_with (at_builtin; refine wpList_append_own_at _ rfl _ _ 63 rfl w.heap.size 5 i0 (.int .u8 0) 1 1 Tryz.underlying63 HI.out.1 HI.out.2.1 HI.out.2.2.1 HI.out.2.2.2 rfl (by decide) _ _ _ rfl (HO.out.alloc _) ⟨wr.heap.size, 0, none⟩ 1 1 [.int .u8 cn] rfl rfl (tok_cells _ _ _ _ rfl) (by simp [Value.oneCell']) (by omega) (by omega) (Nat.le_trans HF.out.size (by simp)) ?_; intro v' w6 hown6 hgrow6 _ _)
       have hg2 : (wr.alloc (.cells ([.int .u8 cn] : List Value).toArray 5)).grownBy w6 u4.ownBlock := hgrow6
       have hown7 := own_app (l2 := [c]) hown6 HQ.out rfl (by simp [bytesV, HC.out])
       have hB6 := below_grown2 (HF.out.alloc HF.out.size (.cells ([.int .u8 cn] : List Value).toArray 5)) (Nat.le_refl _) (HO.out.alloc _) hg2
       exact ⟨⟨q + 1, done ++ [c], by omega, by omega, by simp only [List.length_append, List.length_cons, List.length_nil, HQ.out]; omega, by go_num, Lib.hid hown7, Lib.hid hB6, Lib.hid (txInv_plain HX.out hq1 HD.out H34.out (by rw [HC.out]; omega) H92.out)⟩, by simp [intOf]; omega⟩
  ·
   have HT : Hid (textF (l.drop 1) = none) := Lib.hid (tx_none HX.out (by rw [List.drop_eq_nil_of_le (by rw [HLN.out]; omega)]; exact textF_nil))
   go_wp2_with fail
   go_ret2
   refine ⟨?_, HF.out⟩
   rw [← HV.out, rtextV_none HT.out]
   rfl
end Go.Proofs.YtjabhmepafofmaaGreatDoor.Sc
