/- The document's strings. -/
import Derived.Test.YtcaejcbmkiacmaaDoorRd
import Derived.Test.YtcaejcbmkiacmaaDoorWm
namespace Go.Proofs.YtcaejcbmkiacmaaDoor
open Go.RowKit

/-- what the document's text hands back -/
def rtextV (l : Bs) : Value := match textF (l.drop 1) with
  | none => .tuple #[.string ⟨#[]⟩, .int .i64 0]
  | some p => .tuple #[.string (mk p.1), .int .i64 (1 + p.2 : Nat)]
theorem rtextV_none {l : Bs} (h : textF (l.drop 1) = none) : rtextV l = .tuple #[.string ⟨#[]⟩, .int .i64 0] := by
  unfold rtextV
  rw [h]
theorem rtextV_some {l : Bs} {p : Bs × Nat} (h : textF (l.drop 1) = some p) : rtextV l = .tuple #[.string (mk p.1), .int .i64 (1 + p.2 : Nat)] := by
  unfold rtextV
  rw [h]
theorem tx_none {l : Bs} {q : Nat} {done : Bs} (hi : TxInv l q done) (h : textF (l.drop q) = none) : textF (l.drop 1) = none := by
  unfold TxInv at hi
  rw [hi, h]
  rfl
theorem tx_some {l : Bs} {q : Nat} {done : Bs} (hi : TxInv l q done) (h : textF (l.drop q) = some ([], 1)) : textF (l.drop 1) = some (done, 1 + (q - 1)) := by
  unfold TxInv at hi
  rw [hi, h]
  simp
set_option maxHeartbeats 2000000 in
theorem rtext_any (l : Bs) (s : ByteArray) (hsl : Hid (s = mk l)) (n : Nat) (hn : n ≤ 1099511627776) (hn1 : 1 ≤ n) (hs : s.size = n) (w : World) :
    Calls Tryd.prog 46 #[.string s] w (ReadOut w (rtextV l)) := by
  obtain ⟨V, hV⟩ : ∃ V, rtextV l = V := ⟨_, rfl⟩
  rw [hV]
  have HV := Lib.hid hV
  have HLN : Hid (l.length = n) := Lib.hid (by rw [← hs, hsl.out, mk_size])
  obtain ⟨i0, hi, hz0, hz1, hz2⟩ := info5
  have HI := Lib.hid (And.intro hi (And.intro hz0 (And.intro hz1 hz2)))
  clear hi hz0 hz1 hz2 hV
  go_enter Tryd.func46, Tryd.ntmps46
  go_wp2_with fail
  go_loopw [4, 5] (fun v i wr => ∃ (q : Nat) (done : Bs), 1 ≤ q ∧ q ≤ n ∧ done.length ≤ q ∧ i = .int .i64 q ∧ Hid (wr.ownsRow w.heap.size 5 1 v done.length (bytesV done)) ∧ Hid (Below w.heap.size w wr) ∧ Hid (TxInv l q done)) (fun _ i _ => n + 1 - (intOf i).toNat)
  case atStart => exact ⟨1, [], Nat.le_refl _, hn1, Nat.zero_le _, rfl, Lib.hid ⟨rfl, .inl ⟨rfl, rfl⟩⟩, Lib.hid (Below.refl _ _), Lib.hid (txInv_one l)⟩
  case round =>
    obtain ⟨q, done, hq1, hq, hdq, rfl, HO, HF, HX⟩ := hrel
    by_cases hlt : q < n
    · have hqs : q < s.size := by omega
      obtain ⟨c, hc⟩ : ∃ c, s[q] = c := ⟨_, rfl⟩
      have hget : l[q]? = some c := by
        have e := hsl.out
        subst e
        rw [mk_get l q hqs, hc]
      have HD := Lib.hid (drop_two hget)
      obtain ⟨cn, hcn⟩ : ∃ cn, c.toNat = cn := ⟨_, rfl⟩
      have HC := Lib.hid hcn
      have hv : s[q].toNat = cn := by rw [hc, hcn]
      have hcn256 : cn < 256 := by rw [← hcn]; exact c.toNat_lt
      have hce : ∀ k : UInt8, cn = k.toNat → c = k := fun k hk => UInt8.toNat_inj.1 (by rw [hcn, hk])
      have HCE := Lib.hid hce
      have HCN : Hid (∀ k : UInt8, cn ≠ k.toNat → c ≠ k) := Lib.hid (fun k hk e => hk (by rw [← hcn, e]))
      obtain ⟨dn, hdn⟩ : ∃ dn, done.length = dn := ⟨_, rfl⟩
      rw [hdn] at hdq HO
      have HQ := Lib.hid hdn
      have hdn2 : dn ≤ 1099511627776 := by omega
      have hmax : dn + 1 ≤ maxLen := by unfold maxLen; omega
      clear hget hcn hce hc hdn
      by_cases h34 : cn = 34
      · have hc34 : c = 34 := HCE.out 34 h34
        have HT : Hid (textF (l.drop 1) = some (done, 1 + (q - 1))) := Lib.hid (tx_some HX.out (by rw [HD.out, hc34]; exact textF_quote _))
        subst h34
        obtain ⟨a6, cap6, rfl, hs6, _, _⟩ := srcAt_own (l := done) (by rw [HQ.out]; exact HO.out)
        have hcv : (convert 22 9 (.slice a6 done.length cap6)).run Tryd.prog wr = .ok (.string (mk done)) wr := hs6.spells _ cap6 rfl 9 Tryd.underlying9
        clear hs6 hc34
        go_wp2_with fail
        go_ret2
        refine ⟨?_, HF.out⟩
        rw [← HV.out, rtextV_some HT.out]
        have e : ((1 + (1 + (q - 1)) : Nat) : Int) = (q : Int) + 1 := by omega
        simp only [e]
        rfl
      · by_cases hbad : cn < 32
        · have HT : Hid (textF (l.drop 1) = none) := Lib.hid (tx_none HX.out (by rw [HD.out]; exact textF_bad c _ (HCN.out 34 h34) (by rw [HC.out]; omega)))
          have q1 : ((cn : Int) != 34) = true := by simp only [bne_iff_ne, ne_eq]; omega
          go_wp2_with fail
          go_ret2
          refine ⟨?_, HF.out⟩
          rw [← HV.out, rtextV_none HT.out]
          rfl
        · by_cases hbad2 : 126 < cn
          · have HT : Hid (textF (l.drop 1) = none) := Lib.hid (tx_none HX.out (by rw [HD.out]; exact textF_bad c _ (HCN.out 34 h34) (by rw [HC.out]; omega)))
            have q1 : ((cn : Int) != 34) = true := by simp only [bne_iff_ne, ne_eq]; omega
            go_wp2_with fail
            go_ret2
            refine ⟨?_, HF.out⟩
            rw [← HV.out, rtextV_none HT.out]
            rfl
          · by_cases h92 : cn = 92
            · have hc92 : c = 92 := HCE.out 92 h92
              subst h92
              by_cases hend : q + 1 = n
              · have HT : Hid (textF (l.drop 1) = none) := Lib.hid (tx_none HX.out (by rw [HD.out, hc92, List.drop_eq_nil_of_le (by rw [HLN.out]; omega)]; exact textF_slash_end))
                clear hc92
                go_wp2_with fail
                go_ret2
                refine ⟨?_, HF.out⟩
                rw [← HV.out, rtextV_none HT.out]
                rfl
              · have hqs2 : q + 1 < s.size := by omega
                obtain ⟨d, hd⟩ : ∃ d, s[q + 1] = d := ⟨_, rfl⟩
                have hget2 : l[q + 1]? = some d := by
                  have e := hsl.out
                  subst e
                  rw [mk_get l (q + 1) hqs2, hd]
                have HD2 : Hid (l.drop q = 92 :: d :: l.drop (q + 2)) := Lib.hid (by rw [HD.out, hc92, drop_two hget2])
                obtain ⟨en, hen⟩ : ∃ en, d.toNat = en := ⟨_, rfl⟩
                have hv2 : s[q + 1].toNat = en := by rw [hd, hen]
                have HDE : Hid (∀ k : UInt8, en = k.toNat → d = k) := Lib.hid (fun k hk => UInt8.toNat_inj.1 (by rw [hen, hk]))
                have HDN : Hid (∀ k : UInt8, en ≠ k.toNat → d ≠ k) := Lib.hid (fun k hk e => hk (by rw [← hen, e]))
                have HEN := Lib.hid hen
                have hqn2 : q + 1 < n := by omega
                clear hget2 hd hen hc92
                by_cases h110 : en = 110
                · have he : escaped d = some 10 := by rw [HDE.out 110 h110]; rfl
                  have HEX := Lib.hid he
                  subst h110
                  clear he
                  go_wp2_with (at_builtin; refine wpList_append_own_at _ rfl _ _ 22 rfl w.heap.size 5 i0 (.int .u8 0) 1 1 Tryd.underlying22 HI.out.1 HI.out.2.1 HI.out.2.2.1 HI.out.2.2.2 rfl (by decide) _ _ _ rfl (HO.out.alloc _) ⟨wr.heap.size, 0, none⟩ 1 1 [.int .u8 10] rfl rfl (tok_cells _ _ _ _ rfl) (by simp [Value.oneCell']) (by omega) (by omega) (Nat.le_trans HF.out.size (by simp)) ?_; intro v' w6 hown6 hgrow6 _ _)
                  have hg2 : (wr.alloc (.cells ([.int .u8 10] : List Value).toArray 5)).grownBy w6 u4.ownBlock := hgrow6
                  have hown7 := own_app (l2 := [10]) hown6 HQ.out rfl (by simp [bytesV])
                  have hB6 := below_grown2 (HF.out.alloc HF.out.size (.cells ([.int .u8 10] : List Value).toArray 5)) (Nat.le_refl _) (HO.out.alloc _) hg2
                  exact ⟨⟨q + 2, done ++ [10], by omega, by omega, by simp only [List.length_append, List.length_cons, List.length_nil, HQ.out]; omega, by go_num, Lib.hid hown7, Lib.hid hB6, Lib.hid (txInv_slash HX.out hq1 HD2.out HEX.out)⟩, by simp [intOf]; omega⟩
                · by_cases he92 : en = 92
                  · have he : escaped d = some 92 := by rw [HDE.out 92 he92]; rfl
                    have HEX := Lib.hid he
                    subst he92
                    clear he
                    go_wp2_with (at_builtin; refine wpList_append_own_at _ rfl _ _ 22 rfl w.heap.size 5 i0 (.int .u8 0) 1 1 Tryd.underlying22 HI.out.1 HI.out.2.1 HI.out.2.2.1 HI.out.2.2.2 rfl (by decide) _ _ _ rfl (HO.out.alloc _) ⟨wr.heap.size, 0, none⟩ 1 1 [.int .u8 92] rfl rfl (tok_cells _ _ _ _ rfl) (by simp [Value.oneCell']) (by omega) (by omega) (Nat.le_trans HF.out.size (by simp)) ?_; intro v' w6 hown6 hgrow6 _ _)
                    have hg2 : (wr.alloc (.cells ([.int .u8 92] : List Value).toArray 5)).grownBy w6 u4.ownBlock := hgrow6
                    have hown7 := own_app (l2 := [92]) hown6 HQ.out rfl (by simp [bytesV])
                    have hB6 := below_grown2 (HF.out.alloc HF.out.size (.cells ([.int .u8 92] : List Value).toArray 5)) (Nat.le_refl _) (HO.out.alloc _) hg2
                    exact ⟨⟨q + 2, done ++ [92], by omega, by omega, by simp only [List.length_append, List.length_cons, List.length_nil, HQ.out]; omega, by go_num, Lib.hid hown7, Lib.hid hB6, Lib.hid (txInv_slash HX.out hq1 HD2.out HEX.out)⟩, by simp [intOf]; omega⟩
                  · by_cases he34 : en = 34
                    · have he : escaped d = some 34 := by rw [HDE.out 34 he34]; rfl
                      have HEX := Lib.hid he
                      subst he34
                      clear he
                      go_wp2_with (at_builtin; refine wpList_append_own_at _ rfl _ _ 22 rfl w.heap.size 5 i0 (.int .u8 0) 1 1 Tryd.underlying22 HI.out.1 HI.out.2.1 HI.out.2.2.1 HI.out.2.2.2 rfl (by decide) _ _ _ rfl (HO.out.alloc _) ⟨wr.heap.size, 0, none⟩ 1 1 [.int .u8 34] rfl rfl (tok_cells _ _ _ _ rfl) (by simp [Value.oneCell']) (by omega) (by omega) (Nat.le_trans HF.out.size (by simp)) ?_; intro v' w6 hown6 hgrow6 _ _)
                      have hg2 : (wr.alloc (.cells ([.int .u8 34] : List Value).toArray 5)).grownBy w6 u4.ownBlock := hgrow6
                      have hown7 := own_app (l2 := [34]) hown6 HQ.out rfl (by simp [bytesV])
                      have hB6 := below_grown2 (HF.out.alloc HF.out.size (.cells ([.int .u8 34] : List Value).toArray 5)) (Nat.le_refl _) (HO.out.alloc _) hg2
                      exact ⟨⟨q + 2, done ++ [34], by omega, by omega, by simp only [List.length_append, List.length_cons, List.length_nil, HQ.out]; omega, by go_num, Lib.hid hown7, Lib.hid hB6, Lib.hid (txInv_slash HX.out hq1 HD2.out HEX.out)⟩, by simp [intOf]; omega⟩
                    · have he : escaped d = none := by
                        unfold escaped
                        rw [if_neg (HDN.out 110 h110), if_neg (HDN.out 92 he92), if_neg (HDN.out 34 he34)]
                      have HT : Hid (textF (l.drop 1) = none) := Lib.hid (tx_none HX.out (by rw [HD2.out, textF_slash, he]))
                      have q1 : ((en : Int) != 110) = true := by simp only [bne_iff_ne, ne_eq]; omega
                      have q2 : ((en : Int) != 92) = true := by simp only [bne_iff_ne, ne_eq]; omega
                      have q3 : ((en : Int) != 34) = true := by simp only [bne_iff_ne, ne_eq]; omega
                      clear he
                      go_wp2_with fail
                      go_ret2
                      refine ⟨?_, HF.out⟩
                      rw [← HV.out, rtextV_none HT.out]
                      rfl
            · have q1 : ((cn : Int) != 34) = true := by simp only [bne_iff_ne, ne_eq]; omega
              have H34 := Lib.hid (HCN.out 34 h34)
              have H92 := Lib.hid (HCN.out 92 h92)
              go_wp2_with (at_builtin; refine wpList_append_own_at _ rfl _ _ 22 rfl w.heap.size 5 i0 (.int .u8 0) 1 1 Tryd.underlying22 HI.out.1 HI.out.2.1 HI.out.2.2.1 HI.out.2.2.2 rfl (by decide) _ _ _ rfl (HO.out.alloc _) ⟨wr.heap.size, 0, none⟩ 1 1 [.int .u8 cn] rfl rfl (tok_cells _ _ _ _ rfl) (by simp [Value.oneCell']) (by omega) (by omega) (Nat.le_trans HF.out.size (by simp)) ?_; intro v' w6 hown6 hgrow6 _ _)
              have hg2 : (wr.alloc (.cells ([.int .u8 cn] : List Value).toArray 5)).grownBy w6 u4.ownBlock := hgrow6
              have hown7 := own_app (l2 := [c]) hown6 HQ.out rfl (by simp [bytesV, HC.out])
              have hB6 := below_grown2 (HF.out.alloc HF.out.size (.cells ([.int .u8 cn] : List Value).toArray 5)) (Nat.le_refl _) (HO.out.alloc _) hg2
              exact ⟨⟨q + 1, done ++ [c], by omega, by omega, by simp only [List.length_append, List.length_cons, List.length_nil, HQ.out]; omega, by go_num, Lib.hid hown7, Lib.hid hB6, Lib.hid (txInv_plain HX.out hq1 HD.out H34.out (by rw [HC.out]; omega) H92.out)⟩, by simp [intOf]; omega⟩
    · have HT : Hid (textF (l.drop 1) = none) := Lib.hid (tx_none HX.out (by rw [List.drop_eq_nil_of_le (by rw [HLN.out]; omega)]; exact textF_nil))
      go_wp2_with fail
      go_ret2
      refine ⟨?_, HF.out⟩
      rw [← HV.out, rtextV_none HT.out]
      rfl
end Go.Proofs.YtcaejcbmkiacmaaDoor
