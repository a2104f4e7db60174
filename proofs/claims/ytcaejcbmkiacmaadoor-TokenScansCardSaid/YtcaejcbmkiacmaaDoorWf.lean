/- The reader of strings. -/
import Derived.Test.YtcaejcbmkiacmaaDoorWe
namespace Go.Proofs.YtcaejcbmkiacmaaDoor
open Go.RowKit

theorem block_setCell {w : World} {b : Nat} {arr : Array Value} {t : TypeId} {z : Nat × Nat} (h : w.heap[b]? = some (.cells arr t z)) (i : Nat) (v : Value) :
    (w.setCell ⟨b, i, none⟩ v).heap[b]? = some (.cells (arr.setIfInBounds i v) t z) := by
  simp [World.setCell, Array.getElem?_modify, h]
theorem four_block {w : World} {b : Nat} {arr : Array Value} {t : TypeId} {z : Nat × Nat} (h : w.heap[b]? = some (.cells arr t z)) (v0 v1 v2 v3 : Value) :
    ((((w.setCell ⟨b, 0, none⟩ v0).setCell ⟨b, 1, none⟩ v1).setCell ⟨b, 2, none⟩ v2).setCell ⟨b, 3, none⟩ v3).heap[b]? =
      some (.cells ((((arr.setIfInBounds 0 v0).setIfInBounds 1 v1).setIfInBounds 2 v2).setIfInBounds 3 v3) t z) :=
  block_setCell (block_setCell (block_setCell (block_setCell h 0 v0) 1 v1) 2 v2) 3 v3
theorem below_setCell {B : Nat} {w w' : World} (h : Below B w w') {b : Nat} (hb : B ≤ b) (i : Nat) (v : Value) : Below B w (w'.setCell ⟨b, i, none⟩ v) :=
  ⟨h.os, h.tape, h.output, by simpa [World.setCell] using h.size, fun k hk => (Below.heap_setCell _ _ _ _ (by show k ≠ b; omega)).trans (h.block k hk)⟩
theorem four_below {w w' : World} (h : Below w.heap.size w w') (v0 v1 v2 v3 : Value) :
    Below w.heap.size w ((((w'.setCell ⟨w.heap.size, 0, none⟩ v0).setCell ⟨w.heap.size, 1, none⟩ v1).setCell ⟨w.heap.size, 2, none⟩ v2).setCell ⟨w.heap.size, 3, none⟩ v3) :=
  below_setCell (below_setCell (below_setCell (below_setCell h (Nat.le_refl _) 0 v0) (Nat.le_refl _) 1 v1) (Nat.le_refl _) 2 v2) (Nat.le_refl _) 3 v3
theorem tokRow_of {w : World} {b : Nat} {v0 v1 v2 v3 : Value} {t : TypeId} (h : w.heap[b]? = some (.cells #[v0, v1, v2, v3] t (0, 0))) :
    w.cell? ⟨b, 0, none⟩ = some v0 ∧ w.cell? ⟨b, 1, none⟩ = some v1 ∧ w.cell? ⟨b, 2, none⟩ = some v2 ∧ w.cell? ⟨b, 3, none⟩ = some v3 ∧ ∀ j, w.frozen? ⟨b, j, none⟩ = false := by
  simp [World.cell?, World.frozen?, h]
theorem byte_call (d : UInt8) (w : World) (k : Int) (h : Lib.indexByte [110, 92, 34] d = k) :
    Calls Tryd.prog 31 #[.string ⟨#[110, 92, 34]⟩, .int .u8 d.toNat] w fun e w' => e = .returned (.int .i64 k) ∧ w' = w := by
  have := Tryd.strings_IndexByte ⟨#[110, 92, 34]⟩ d.toNat w
  have e : ((d.toNat : Int).toNat.toUInt8) = d := by simp
  rw [e, show (⟨#[110, 92, 34]⟩ : ByteArray).data.toList = [110, 92, 34] from rfl, h] at this
  exact this

set_option maxHeartbeats 1000000 in
theorem text_any (l : Bs) (s : ByteArray) (hsl : Hid (s = mk l)) (n : Nat) (hn : n ≤ 1099511627776) (hs : s.size = n) (hn0 : 1 ≤ n) (w : World) :
    Calls Tryd.prog 38 #[.string s] w fun e w' => e = .returned (readV (textT l)) ∧ Below w.heap.size w w' := by
  obtain ⟨V, hV⟩ : ∃ V, readV (textT l) = V := ⟨_, rfl⟩
  rw [hV]
  have HV := Lib.hid hV
  clear hV
  go_enter Tryd.func38, Tryd.ntmps38
  go_wp2_with fail
  go_loopw [5] (fun i wr => ∃ (q : Nat) (done : Bs), 1 ≤ q ∧ q ≤ n + 1 ∧ done.length ≤ q ∧ i = .int .i64 q ∧ Hid (TxInv l q done) ∧ Hid (Lib.IsBuilder 58 5 (w.heap.size + 1) (w.heap.size + 1) (Lib.byteCells done) wr) ∧
      Hid (wr.heap[w.heap.size]? = some (.cells #[.int .u8 0, .string ⟨#[]⟩, .int .i64 0, .int .i64 0] 34 (0, 0))) ∧ Hid (Below w.heap.size w wr)) (fun i _ => n + 2 - (intOf i).toNat)
  case atStart =>
    refine ⟨1, [], by omega, by omega, by simp, rfl, Lib.hid (txInv_one l), Lib.hid ?_, Lib.hid (second_block _ _ _), Lib.hid (below_two _ _ _)⟩
    have h := Lib.fresh_isBuilder 58 5 (w.alloc (.cells #[.int .u8 0, .string ⟨#[]⟩, .int .i64 0, .int .i64 0] 34))
    have hsz : (w.alloc (.cells #[.int .u8 0, .string ⟨#[]⟩, .int .i64 0, .int .i64 0] 34)).heap.size = w.heap.size + 1 := by simp
    rw [hsz] at h
    exact h
  case round =>
    obtain ⟨q, done, hq1, hq, hdl, rfl, HI, HB, HR, HF⟩ := hrel
    have hlen : l.length = n := by rw [← hs, hsl.out, mk_size]
    have HL := Lib.hid hlen
    clear hlen
    have c0 := (tokRow_of HR.out).1
    have c1 := (tokRow_of HR.out).2.1
    have c2 := (tokRow_of HR.out).2.2.1
    have c3 := (tokRow_of HR.out).2.2.2.1
    have f0 := (tokRow_of HR.out).2.2.2.2 0
    have f1 := (tokRow_of HR.out).2.2.2.2 1
    have f2 := (tokRow_of HR.out).2.2.2.2 2
    have f3 := (tokRow_of HR.out).2.2.2.2 3
    by_cases hlt : q < n
    · have hlt2 : q < s.size := by omega
      obtain ⟨c, hc⟩ : ∃ c, s[q] = c := ⟨_, rfl⟩
      have hget : l[q]? = some c := by
        have e := hsl.out
        subst e
        rw [mk_get l q hlt2, hc]
      have HD := Lib.hid (drop_two hget)
      clear hget
      have HSZ : Hid (w.heap.size + 1 ≤ wr.heap.size) := Lib.hid (by
        rcases HB.out with ⟨_, v, hb, _⟩ | ⟨_, v, hb, _⟩ <;> exact Nat.le_of_lt (Array.getElem?_eq_some_iff.1 hb).1)
      by_cases hq34 : c = 34
      · subst hq34
        have hv : s[q].toNat = 34 := by rw [hc]; rfl
        clear hc
        have hT := txInv_some HI.out hq1 (by rw [HD.out]; exact textF_quote _)
        have HT := Lib.hid hT
        clear hT
        go_wp2_with fail
        refine (Tryd.Builder_String_any (w.heap.size + 1) (w.heap.size + 1) done _ HB.out HSZ.out).mono ?_
        rintro e w2 ⟨rfl, hf2⟩
        have HR2 : Hid (w2.heap[w.heap.size]? = some (.cells #[.int .u8 0, .string ⟨#[]⟩, .int .i64 0, .int .i64 0] 34 (0, 0))) := Lib.hid ((hf2.block w.heap.size (by omega)).trans HR.out)
        have HF2 : Hid (Below w.heap.size w w2) := Lib.hid (HF.out.trans (hf2.mono (by omega)))
        clear hf2 c0 c1 c2 c3 f0 f1 f2 f3
        have c0 := (tokRow_of HR2.out).1
        have c1 := (tokRow_of HR2.out).2.1
        have c2 := (tokRow_of HR2.out).2.2.1
        have c3 := (tokRow_of HR2.out).2.2.2.1
        have f0 := (tokRow_of HR2.out).2.2.2.2 0
        have f1 := (tokRow_of HR2.out).2.2.2.2 1
        have f2 := (tokRow_of HR2.out).2.2.2.2 2
        have f3 := (tokRow_of HR2.out).2.2.2.2 3
        go_wp2_with fail
        (try simp only [Exit.inBlock, Exit.then])
        refine bodyPost_ret (results_cell_tmp rfl _ _ _ _ rfl (tok_row _ _ _ rfl (four_block HR2.out _ _ _ _))) rfl ?_
        refine ⟨congrArg Ending.returned ?_, four_below HF2.out _ _ _ _⟩
        rw [← HV.out, HT.out]
        rfl
      · obtain ⟨cn, hcn⟩ : ∃ cn, c.toNat = cn := ⟨_, rfl⟩
        have hv : s[q].toNat = cn := by rw [hc, hcn]
        have h34 : cn ≠ 34 := fun e => hq34 (UInt8.toNat_inj.1 (by rw [hcn, e]; rfl))
        have hlt256 : cn < 256 := by rw [← hcn]; exact c.toNat_lt
        have HC := Lib.hid hcn
        have HQ := Lib.hid hq34
        clear hc hcn hq34
        by_cases hbad : cn < 32
        · have HT := Lib.hid (txInv_none HI.out (by rw [HD.out]; exact textF_bad c _ HQ.out (by rw [HC.out]; omega)))
          go_wp2_with fail
          (try simp only [Exit.inBlock, Exit.then])
          refine bodyPost_ret (results_cell_tmp rfl _ _ _ _ rfl (tok_row _ _ _ rfl (four_block HR.out _ _ _ _))) rfl ?_
          refine ⟨congrArg Ending.returned ?_, four_below HF.out _ _ _ _⟩
          rw [← HV.out, HT.out]
          rfl
        · by_cases hbad2 : 126 < cn
          · have HT := Lib.hid (txInv_none HI.out (by rw [HD.out]; exact textF_bad c _ HQ.out (by rw [HC.out]; omega)))
            go_wp2_with fail
            (try simp only [Exit.inBlock, Exit.then])
            refine bodyPost_ret (results_cell_tmp rfl _ _ _ _ rfl (tok_row _ _ _ rfl (four_block HR.out _ _ _ _))) rfl ?_
            refine ⟨congrArg Ending.returned ?_, four_below HF.out _ _ _ _⟩
            rw [← HV.out, HT.out]
            rfl
          · by_cases h92 : cn = 92
            · subst h92
              have hc92 : c = 92 := UInt8.toNat_inj.1 (by rw [HC.out]; rfl)
              subst hc92
              by_cases hlt3 : q + 1 < n
              · have hlt4 : q + 1 < s.size := by omega
                obtain ⟨d, hd⟩ : ∃ d, s[q + 1] = d := ⟨_, rfl⟩
                have hget2 : l[q + 1]? = some d := by
                  have e := hsl.out
                  subst e
                  rw [mk_get l (q + 1) hlt4, hd]
                have hdr : l.drop q = 92 :: d :: l.drop (q + 2) := by rw [HD.out, drop_two hget2]
                have HD2 := Lib.hid hdr
                clear hdr hget2
                by_cases hd110 : d = 110
                · subst hd110
                  have hbc := Lib.hid (fun w => byte_call 110 w 0 (by decide))
                  have hu : s[q + 1].toNat = 110 := by rw [hd]; rfl
                  clear hd
                  go_wp2_with fail
                  refine (hbc.out _).mono ?_
                  rintro e w3 ⟨rfl, rfl⟩
                  go_wp2_with fail
                  refine (Tryd.Builder_WriteByte (w.heap.size + 1) (w.heap.size + 1) (Lib.byteCells done) _ _ HB.out (by rw [Lib.byteCells_length]; omega) HSZ.out).mono ?_
                  rintro e w2 ⟨rfl, hb2, hf2⟩
                  have HR2 : Hid (w2.heap[w.heap.size]? = some (.cells #[.int .u8 0, .string ⟨#[]⟩, .int .i64 0, .int .i64 0] 34 (0, 0))) := Lib.hid ((hf2.block w.heap.size (by omega)).trans HR.out)
                  have HF2 : Hid (Below w.heap.size w w2) := Lib.hid (HF.out.trans (hf2.mono (by omega)))
                  have HB2 : Hid (Lib.IsBuilder 58 5 (w.heap.size + 1) (w.heap.size + 1) (Lib.byteCells (done ++ [10])) w2) := Lib.hid (by
                    have e : Lib.byteCells (done ++ [10]) = Lib.byteCells done ++ [Value.int .u8 ((10 : UInt8).toNat : Int)] := by simp [Lib.byteCells]
                    rw [e]
                    exact .inr (by exact hb2))
                  clear hb2 hf2
                  go_wp2_with fail
                  refine ⟨⟨q + 2, done ++ [10], by omega, by omega, by simp; omega, by go_num, Lib.hid (txInv_slash HI.out hq1 HD2.out (by decide)), HB2, HR2, HF2⟩, by simp [intOf]; omega⟩
                · by_cases hd92 : d = 92
                  · subst hd92
                    have hbc := Lib.hid (fun w => byte_call 92 w 1 (by decide))
                    have hu : s[q + 1].toNat = 92 := by rw [hd]; rfl
                    clear hd
                    go_wp2_with fail
                    refine (hbc.out _).mono ?_
                    rintro e w3 ⟨rfl, rfl⟩
                    go_wp2_with fail
                    refine (Tryd.Builder_WriteByte (w.heap.size + 1) (w.heap.size + 1) (Lib.byteCells done) _ _ HB.out (by rw [Lib.byteCells_length]; omega) HSZ.out).mono ?_
                    rintro e w2 ⟨rfl, hb2, hf2⟩
                    have HR2 : Hid (w2.heap[w.heap.size]? = some (.cells #[.int .u8 0, .string ⟨#[]⟩, .int .i64 0, .int .i64 0] 34 (0, 0))) := Lib.hid ((hf2.block w.heap.size (by omega)).trans HR.out)
                    have HF2 : Hid (Below w.heap.size w w2) := Lib.hid (HF.out.trans (hf2.mono (by omega)))
                    have HB2 : Hid (Lib.IsBuilder 58 5 (w.heap.size + 1) (w.heap.size + 1) (Lib.byteCells (done ++ [92])) w2) := Lib.hid (by
                      have e : Lib.byteCells (done ++ [92]) = Lib.byteCells done ++ [Value.int .u8 ((92 : UInt8).toNat : Int)] := by simp [Lib.byteCells]
                      rw [e]
                      exact .inr (by exact hb2))
                    clear hb2 hf2
                    go_wp2_with fail
                    refine ⟨⟨q + 2, done ++ [92], by omega, by omega, by simp; omega, by go_num, Lib.hid (txInv_slash HI.out hq1 HD2.out (by decide)), HB2, HR2, HF2⟩, by simp [intOf]; omega⟩
                  · by_cases hd34 : d = 34
                    · subst hd34
                      have hbc := Lib.hid (fun w => byte_call 34 w 2 (by decide))
                      have hu : s[q + 1].toNat = 34 := by rw [hd]; rfl
                      clear hd
                      go_wp2_with fail
                      refine (hbc.out _).mono ?_
                      rintro e w3 ⟨rfl, rfl⟩
                      go_wp2_with fail
                      refine (Tryd.Builder_WriteByte (w.heap.size + 1) (w.heap.size + 1) (Lib.byteCells done) _ _ HB.out (by rw [Lib.byteCells_length]; omega) HSZ.out).mono ?_
                      rintro e w2 ⟨rfl, hb2, hf2⟩
                      have HR2 : Hid (w2.heap[w.heap.size]? = some (.cells #[.int .u8 0, .string ⟨#[]⟩, .int .i64 0, .int .i64 0] 34 (0, 0))) := Lib.hid ((hf2.block w.heap.size (by omega)).trans HR.out)
                      have HF2 : Hid (Below w.heap.size w w2) := Lib.hid (HF.out.trans (hf2.mono (by omega)))
                      have HB2 : Hid (Lib.IsBuilder 58 5 (w.heap.size + 1) (w.heap.size + 1) (Lib.byteCells (done ++ [34])) w2) := Lib.hid (by
                        have e : Lib.byteCells (done ++ [34]) = Lib.byteCells done ++ [Value.int .u8 ((34 : UInt8).toNat : Int)] := by simp [Lib.byteCells]
                        rw [e]
                        exact .inr (by exact hb2))
                      clear hb2 hf2
                      go_wp2_with fail
                      refine ⟨⟨q + 2, done ++ [34], by omega, by omega, by simp; omega, by go_num, Lib.hid (txInv_slash HI.out hq1 HD2.out (by decide)), HB2, HR2, HF2⟩, by simp [intOf]; omega⟩
                    · have hk : Lib.indexByte [110, 92, 34] d = -1 := by
                        simp [Lib.indexByte, Ne.symm hd110, Ne.symm hd92, Ne.symm hd34]
                      have he : escaped d = none := by simp [escaped, hd110, hd92, hd34]
                      have hbc := Lib.hid (fun w => byte_call d w (-1) hk)
                      have HT := Lib.hid (txInv_none HI.out (by rw [HD2.out, textF_slash, he]))
                      have hu : s[q + 1].toNat = d.toNat := by rw [hd]
                      clear hd hk he hd110 hd92 hd34
                      go_wp2_with fail
                      refine (hbc.out _).mono ?_
                      rintro e w3 ⟨rfl, rfl⟩
                      go_wp2_with fail
                      (try simp only [Exit.inBlock, Exit.then])
                      refine bodyPost_ret (results_cell_tmp rfl _ _ _ _ rfl (tok_row _ _ _ rfl (four_block HR.out _ _ _ _))) rfl ?_
                      refine ⟨congrArg Ending.returned ?_, four_below HF.out _ _ _ _⟩
                      rw [← HV.out, HT.out]
                      rfl
              · have HT := Lib.hid (txInv_none HI.out (by rw [HD.out, List.drop_eq_nil_of_le (by rw [HL.out]; omega)]; exact textF_slash_end))
                go_wp2_with fail
                (try simp only [Exit.inBlock, Exit.then])
                refine bodyPost_ret (results_cell_tmp rfl _ _ _ _ rfl (tok_row _ _ _ rfl (four_block HR.out _ _ _ _))) rfl ?_
                refine ⟨congrArg Ending.returned ?_, four_below HF.out _ _ _ _⟩
                rw [← HV.out, HT.out]
                rfl
            · have hc92 : c ≠ 92 := fun e => h92 (by rw [← HC.out, e]; rfl)
              have HN := Lib.hid hc92
              clear hc92
              go_wp2_with fail
              refine (Tryd.Builder_WriteByte (w.heap.size + 1) (w.heap.size + 1) (Lib.byteCells done) _ _ HB.out (by rw [Lib.byteCells_length]; omega) HSZ.out).mono ?_
              rintro e w2 ⟨rfl, hb2, hf2⟩
              have HR2 : Hid (w2.heap[w.heap.size]? = some (.cells #[.int .u8 0, .string ⟨#[]⟩, .int .i64 0, .int .i64 0] 34 (0, 0))) := Lib.hid ((hf2.block w.heap.size (by omega)).trans HR.out)
              have HF2 : Hid (Below w.heap.size w w2) := Lib.hid (HF.out.trans (hf2.mono (by omega)))
              have HB2 : Hid (Lib.IsBuilder 58 5 (w.heap.size + 1) (w.heap.size + 1) (Lib.byteCells (done ++ [c])) w2) := Lib.hid (by
                have e : Lib.byteCells (done ++ [c]) = Lib.byteCells done ++ [Value.int .u8 ((c : UInt8).toNat : Int)] := by simp [Lib.byteCells]
                rw [e]
                exact .inr (by rw [HC.out]; exact hb2))
              clear hb2 hf2
              go_wp2_with fail
              refine ⟨⟨q + 1, done ++ [c], by omega, by omega, by simp; omega, by go_num, Lib.hid (txInv_plain HI.out hq1 HD.out HQ.out (by rw [HC.out]; omega) HN.out), HB2, HR2, HF2⟩, by simp [intOf]; omega⟩
    · go_wp2_with fail
      (try simp only [Exit.inBlock, Exit.then])
      refine bodyPost_ret (results_cell_tmp rfl _ _ _ _ rfl (tok_row _ _ _ rfl (four_block HR.out _ _ _ _))) rfl ?_
      refine ⟨congrArg Ending.returned ?_, four_below HF.out _ _ _ _⟩
      rw [← HV.out, txInv_none HI.out (by rw [List.drop_eq_nil_of_le (by rw [HL.out]; omega)]; exact textF_nil)]
      rfl
end Go.Proofs.YtcaejcbmkiacmaaDoor
