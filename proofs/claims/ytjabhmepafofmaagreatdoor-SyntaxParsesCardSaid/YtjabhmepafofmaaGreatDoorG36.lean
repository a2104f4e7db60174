/- Td, Te -/
import Derived.Test.YtjabhmepafofmaaGreatDoorG23
set_option linter.unusedVariables false
set_option linter.unusedSimpArgs false
namespace Go.Proofs.YtjabhmepafofmaaGreatDoor.Sc
open Go.RowKit
def OneOut (w : World) (l : Bs) (e : Ending) (w' : World) : Prop :=
  (∃ (kd nm ps m : Nat) (tx : ByteArray), e = .returned (.tuple #[.agg #[.int .u8 kd, .string tx, .int .i64 nm, .int .i64 ps], .int .i64 m]) ∧ Parted (tokT l) kd nm ps m tx) ∧ Below w.heap.size w w'
theorem cell_four {w : World} {b k : Nat} {v : Value} (h : w.cell? ⟨b, k, none⟩ = some v) {g : Nat} (hne : b ≠ g) (v0 v1 v2 v3 : Value) :
    ((((w.setCell ⟨g, 0, none⟩ v0).setCell ⟨g, 1, none⟩ v1).setCell ⟨g, 2, none⟩ v2).setCell ⟨g, 3, none⟩ v3).drew.cell? ⟨b, k, none⟩ = some v := by
  rw [← h]
  have e : ((((w.setCell ⟨g, 0, none⟩ v0).setCell ⟨g, 1, none⟩ v1).setCell ⟨g, 2, none⟩ v2).setCell ⟨g, 3, none⟩ v3).heap[b]? = w.heap[b]? :=
    (Below.heap_setCell _ _ _ _ hne).trans ((Below.heap_setCell _ _ _ _ hne).trans ((Below.heap_setCell _ _ _ _ hne).trans (Below.heap_setCell _ _ _ _ hne)))
  exact World.cell?_of_block e
theorem signs_made (w : World) : Calls Tryz.prog 73 #[] w fun e w' => e = .returned (.slice (some ⟨w.heap.size, 0, none⟩) 22 22) ∧ w' = w.alloc (.cells (strV signs).toArray 9) := by
  go_enter Tryz.func73, Tryz.ntmps73
  go_wp2_with fail
  go_ret
  exact ⟨rfl, rfl⟩
theorem tokT_word {c : UInt8} {r : Bs} (h : (small c || great c) = true) : tokT (c :: r) = nameT (c :: r) := by simp only [tokT, h, if_true]
theorem tokT_num {c : UInt8} {r : Bs} (h : (small c || great c) = false) (hd : digit c = true) : tokT (c :: r) = numT (c :: r) := by simp only [tokT, h, hd, if_true, Bool.false_eq_true, if_false]
theorem tokT_tick {c : UInt8} {r : Bs} (h : (small c || great c) = false) (hd : digit c = false) (h39 : c = 39) : tokT (c :: r) = tickT (c :: r) := by
  simp only [tokT, h, hd, Bool.false_eq_true, if_false]
  rw [if_pos h39]
theorem tokT_text {c : UInt8} {r : Bs} (h : (small c || great c) = false) (hd : digit c = false) (h34 : c = 34) : tokT (c :: r) = textT (c :: r) := by
  simp only [tokT, h, hd, Bool.false_eq_true, if_false]
  rw [if_neg (by rw [h34]; decide), if_pos h34]
theorem tokT_sign {c : UInt8} {r : Bs} (h : (small c || great c) = false) (hd : digit c = false) (h39 : c ≠ 39) (h34 : c ≠ 34) : tokT (c :: r) = signT (c :: r) := by
  simp only [tokT, h, hd, Bool.false_eq_true, if_false]
  rw [if_neg h39, if_neg h34]
theorem takeWhile_ne {c : UInt8} {r : Bs} (h : (small c || great c) = true) : (c :: r).takeWhile part ≠ [] := by
  have hp : part c = true := by
    unfold part
    rcases Bool.or_eq_true _ _ ▸ h with h | h <;> simp [h]
  simp [hp]
set_option maxRecDepth 100000 in
set_option maxHeartbeats 2000000 in
theorem rone_any (c : UInt8) (r : Bs) (s : ByteArray) (hsl : Hid (s = mk (c :: r))) (n : Nat) (hn : n ≤ 1099511627776) (hs : s.size = n) (w : World) :
    Calls Tryz.prog 44 #[.string s] w (OneOut w (c :: r)) := by
  have hln : (c :: r).length = n := by rw [← hs, hsl.out, mk_size]
  have hn1 : 1 ≤ n := by rw [← hln]; simp
  have h00 : 0 < s.size := by omega
  have hc0 : s[0] = c := by
    have e := hsl.out
    subst e
    exact Option.some.inj (mk_get (c :: r) 0 h00).symm
  have HS := Lib.hid (fun w => rsmall_any c w)
  have HG := Lib.hid (fun w => rgreat_any c w)
  have HD := Lib.hid (fun w => rdigit_any c w)
  have HLN := Lib.hid hln
  obtain ⟨v, hv⟩ : ∃ v, c.toNat = v := ⟨_, rfl⟩
  have HV := Lib.hid hv
  have hsv : s[0].toNat = v := by rw [hc0, hv]
  rw [hv] at HS HG HD
  have hv256 : v < 256 := by rw [← hv]; exact c.toNat_lt
  clear hln hc0 hv
  go_enter Tryz.func44, Tryz.ntmps44
  go_wp2_with fail
  refine (HS.out _).mono ?_
  rintro e w1 ⟨rfl, hw1⟩
  have hr0 := last_block w (.cells #[.int .u8 0, .string ⟨#[]⟩, .int .i64 0, .int .i64 0] 31)
  have hb0 := below_alloc w (.cells #[.int .u8 0, .string ⟨#[]⟩, .int .i64 0, .int .i64 0] 31)
  have hlt0 : w.heap.size < w1.heap.size := by rw [hw1]; simp
  rw [← hw1] at hr0 hb0
  have R0 := Lib.hid hr0
  have HB := Lib.hid hb0
  clear hr0 hb0 hw1
  obtain ⟨g0, hg0⟩ : ∃ g0, w.heap.size = g0 := ⟨_, rfl⟩
  rw [hg0] at R0 hlt0 ⊢
  have hge : w.heap.size ≤ g0 := by omega
  clear hg0
  have fin : ∀ w', Below w1.heap.size w1 w' → Hid (w'.heap[g0]? = some (.cells #[.int .u8 0, .string ⟨#[]⟩, .int .i64 0, .int .i64 0] 31)) ∧ Hid (Below w.heap.size w w') := fun w' hb =>
    ⟨Lib.hid ((hb.block g0 hlt0).trans R0.out), Lib.hid (HB.out.trans (hb.mono HB.out.size))⟩
  have FIN := Lib.hid fin
  clear fin
  by_cases hsg : (small c || great c) = true
  · have hT := tokT_word (r := r) hsg
    obtain ⟨kd, nm, ps, m, tx, hV, hP⟩ := readV_parts (nameT (c :: r))
    rw [← hT] at hP
    have hcall := rname_any (c :: r) s hsl n hn hs w1 (Lib.hid (takeWhile_ne hsg))
    rw [hV] at hcall
    have HC := Lib.hid hcall
    have HP := Lib.hid hP
    clear hT hV hP hcall
    cases hsm : small c with
    | true =>
      clear hsg
      go_wp2_with fail
      refine HC.out.mono ?_
      rintro e w2 ⟨rfl, hb2⟩
      obtain ⟨R2, HB2⟩ := FIN.out w2 hb2
      have d0 := (tokRow_of R2.out).1
      have d1 := (tokRow_of R2.out).2.1
      have d2 := (tokRow_of R2.out).2.2.1
      have d3 := (tokRow_of R2.out).2.2.2.1
      have f0 := (tokRow_of R2.out).2.2.2.2 0
      have f1 := (tokRow_of R2.out).2.2.2.2 1
      have f2 := (tokRow_of R2.out).2.2.2.2 2
      have f3 := (tokRow_of R2.out).2.2.2.2 3
      clear hb2
      go_wp2_with fail
      (try simp only [Exit.inBlock, Exit.then])
      refine bodyPost_ret (results_cell_tmp rfl _ _ _ _ rfl (tok_row _ _ _ rfl (four_block R2.out _ _ _ _))) rfl ?_
      exact ⟨⟨kd, nm, ps, m, tx, rfl, HP.out⟩, below_setCell (below_setCell (below_setCell (below_setCell HB2.out hge _ _) hge _ _) hge _ _) hge _ _⟩
    | false =>
      have hgr : great c = true := by rw [hsm] at hsg; simpa using hsg
      rw [hgr] at HG
      clear hsg hgr
      go_wp2_with fail
      refine (HG.out _).mono ?_
      rintro e w1 ⟨rfl, rfl⟩
      go_wp2_with fail
      refine HC.out.mono ?_
      rintro e w2 ⟨rfl, hb2⟩
      obtain ⟨R2, HB2⟩ := FIN.out w2 hb2
      have d0 := (tokRow_of R2.out).1
      have d1 := (tokRow_of R2.out).2.1
      have d2 := (tokRow_of R2.out).2.2.1
      have d3 := (tokRow_of R2.out).2.2.2.1
      have f0 := (tokRow_of R2.out).2.2.2.2 0
      have f1 := (tokRow_of R2.out).2.2.2.2 1
      have f2 := (tokRow_of R2.out).2.2.2.2 2
      have f3 := (tokRow_of R2.out).2.2.2.2 3
      clear hb2
      go_wp2_with fail
      (try simp only [Exit.inBlock, Exit.then])
      refine bodyPost_ret (results_cell_tmp rfl _ _ _ _ rfl (tok_row _ _ _ rfl (four_block R2.out _ _ _ _))) rfl ?_
      exact ⟨⟨kd, nm, ps, m, tx, rfl, HP.out⟩, below_setCell (below_setCell (below_setCell (below_setCell HB2.out hge _ _) hge _ _) hge _ _) hge _ _⟩
  · have hsg2 : (small c || great c) = false := by simpa using hsg
    have hsm : small c = false := by
      cases h : small c with
      | false => rfl
      | true => rw [h] at hsg2; simp at hsg2
    have hgr : great c = false := by
      cases h : great c with
      | false => rfl
      | true => rw [h] at hsg2; simp at hsg2
    rw [hgr] at HG
    rw [hsm]
    clear hsg hgr hsm
    cases hdg : digit c with
    | true =>
      have hT := tokT_num (r := r) hsg2 hdg
      obtain ⟨kd, nm, ps, m, tx, hV, hP⟩ := readV_parts (numT (c :: r))
      rw [← hT] at hP
      have hcall := fun w => rnumber_any (c :: r) s hsl n hn hs w
      rw [hV] at hcall
      rw [hdg] at HD
      have HC := Lib.hid hcall
      have HP := Lib.hid hP
      clear hT hV hP hcall hsg2 hdg
      go_wp2_with fail
      refine (HG.out _).mono ?_
      rintro e w1 ⟨rfl, rfl⟩
      go_wp2_with fail
      refine (HD.out _).mono ?_
      rintro e w1 ⟨rfl, rfl⟩
      go_wp2_with fail
      refine (HC.out _).mono ?_
      rintro e w2 ⟨rfl, hb2⟩
      obtain ⟨R2, HB2⟩ := FIN.out w2 hb2
      have d0 := (tokRow_of R2.out).1
      have d1 := (tokRow_of R2.out).2.1
      have d2 := (tokRow_of R2.out).2.2.1
      have d3 := (tokRow_of R2.out).2.2.2.1
      have f0 := (tokRow_of R2.out).2.2.2.2 0
      have f1 := (tokRow_of R2.out).2.2.2.2 1
      have f2 := (tokRow_of R2.out).2.2.2.2 2
      have f3 := (tokRow_of R2.out).2.2.2.2 3
      clear hb2
      go_wp2_with fail
      (try simp only [Exit.inBlock, Exit.then])
      refine bodyPost_ret (results_cell_tmp rfl _ _ _ _ rfl (tok_row _ _ _ rfl (four_block R2.out _ _ _ _))) rfl ?_
      exact ⟨⟨kd, nm, ps, m, tx, rfl, HP.out⟩, below_setCell (below_setCell (below_setCell (below_setCell HB2.out hge _ _) hge _ _) hge _ _) hge _ _⟩
    | false =>
      rw [hdg] at HD
      by_cases h34 : v = 34
      · have hc34 : c = 34 := UInt8.toNat_inj.1 (by rw [HV.out, h34]; rfl)
        have hT := tokT_text (r := r) hsg2 hdg hc34
        have HC := Lib.hid (rtext_any (c :: r) s hsl n hn hn1 hs)
        subst h34
        cases hx : textF ((c :: r).drop 1) with
        | none =>
          have HX := Lib.hid (rtextV_none hx)
          have HP : Hid (Parted (tokT (c :: r)) 5 0 0 0 ⟨#[]⟩) := Lib.hid (.inl ⟨by rw [hT, textT, hx]; rfl, rfl⟩)
          clear hT hx hc34 hsg2 hdg
          go_wp2_with fail
          refine (HG.out _).mono ?_
          rintro e w1 ⟨rfl, rfl⟩
          go_wp2_with fail
          refine (HD.out _).mono ?_
          rintro e w1 ⟨rfl, rfl⟩
          go_wp2_with fail
          refine (HC.out _).mono ?_
          rintro e w2 ⟨rfl, hb2⟩
          rw [HX.out]
          obtain ⟨R2, HB2⟩ := FIN.out w2 hb2
          have d0 := (tokRow_of R2.out).1
          have d1 := (tokRow_of R2.out).2.1
          have d2 := (tokRow_of R2.out).2.2.1
          have d3 := (tokRow_of R2.out).2.2.2.1
          have f0 := (tokRow_of R2.out).2.2.2.2 0
          have f1 := (tokRow_of R2.out).2.2.2.2 1
          have f2 := (tokRow_of R2.out).2.2.2.2 2
          have f3 := (tokRow_of R2.out).2.2.2.2 3
          clear hb2
          go_wp2_with fail
          (try simp only [Exit.inBlock, Exit.then])
          refine bodyPost_ret (results_cell_tmp rfl _ _ _ _ rfl (tok_row _ _ _ rfl (four_block R2.out _ _ _ _))) rfl ?_
          exact ⟨⟨5, 0, 0, 0, ⟨#[]⟩, rfl, HP.out⟩, below_setCell (below_setCell (below_setCell (below_setCell HB2.out hge _ _) hge _ _) hge _ _) hge _ _⟩
        | some p =>
          have HX := Lib.hid (rtextV_some hx)
          have HP : Hid (Parted (tokT (c :: r)) 5 0 0 (1 + p.2) (mk p.1)) := Lib.hid (.inr ⟨⟨5, p.1, 0, 0⟩, by rw [hT, textT, hx]; rfl, rfl, rfl, rfl, rfl⟩)
          clear hT hx hc34 hsg2 hdg
          obtain ⟨o, k⟩ := p
          dsimp only at HX HP
          generalize 1 + k = m at HX HP
          generalize mk o = tx at HX HP
          go_wp2_with fail
          refine (HG.out _).mono ?_
          rintro e w1 ⟨rfl, rfl⟩
          go_wp2_with fail
          refine (HD.out _).mono ?_
          rintro e w1 ⟨rfl, rfl⟩
          go_wp2_with fail
          refine (HC.out _).mono ?_
          rintro e w2 ⟨rfl, hb2⟩
          rw [HX.out]
          obtain ⟨R2, HB2⟩ := FIN.out w2 hb2
          have d0 := (tokRow_of R2.out).1
          have d1 := (tokRow_of R2.out).2.1
          have d2 := (tokRow_of R2.out).2.2.1
          have d3 := (tokRow_of R2.out).2.2.2.1
          have f0 := (tokRow_of R2.out).2.2.2.2 0
          have f1 := (tokRow_of R2.out).2.2.2.2 1
          have f2 := (tokRow_of R2.out).2.2.2.2 2
          have f3 := (tokRow_of R2.out).2.2.2.2 3
          clear hb2
          go_wp2_with fail
          (try simp only [Exit.inBlock, Exit.then])
          refine bodyPost_ret (results_cell_tmp rfl _ _ _ _ rfl (tok_row _ _ _ rfl (four_block R2.out _ _ _ _))) rfl ?_
          exact ⟨⟨5, 0, 0, m, tx, rfl, HP.out⟩, below_setCell (below_setCell (below_setCell (below_setCell HB2.out hge _ _) hge _ _) hge _ _) hge _ _⟩
      · by_cases h39 : v = 39
        · have hc39 : c = 39 := UInt8.toNat_inj.1 (by rw [HV.out, h39]; rfl)
          have hT := tokT_tick (r := r) hsg2 hdg hc39
          have hX : Hid (s.extract 1 n = mk r) := Lib.hid (by
            have h := mk_drop (c :: r) 1 n HLN.out.symm
            rw [hsl.out]
            exact h)
          have hxs : (s.extract 1 n).size = n - 1 := by
            have h := HLN.out
            rw [hX.out, mk_size]
            simp only [List.length_cons] at h
            omega
          have HC := Lib.hid (fun w => rrun_any r _ hX (n - 1) (by omega) hxs w)
          have hrl : r.length = n - 1 := by rw [← hxs, hX.out, mk_size]
          have hml := takeWhile_le part r
          rw [hrl] at hml
          obtain ⟨m, hm⟩ : ∃ m, (r.takeWhile part).length = m := ⟨_, rfl⟩
          rw [hm] at HC hml
          obtain ⟨R2, HB2⟩ := FIN.out w1 (Below.refl _ _)
          have d0 := (tokRow_of R2.out).1
          have d1 := (tokRow_of R2.out).2.1
          have d2 := (tokRow_of R2.out).2.2.1
          have d3 := (tokRow_of R2.out).2.2.2.1
          have f0 := (tokRow_of R2.out).2.2.2.2 0
          have f1 := (tokRow_of R2.out).2.2.2.2 1
          have f2 := (tokRow_of R2.out).2.2.2.2 2
          have f3 := (tokRow_of R2.out).2.2.2.2 3
          have hTT : tokT (c :: r) = if r.takeWhile part = [] ∨ 32 < m ∨ small (r.headD 0) = false then none else some (⟨3, (c :: r).take (1 + m), 0, 0⟩, 1 + m) := by
            rw [hT]
            unfold tickT
            simp only [List.drop_succ_cons, List.drop_zero, hm]
          subst h39
          by_cases hm0 : m = 0
          · have HP : Hid (Parted (tokT (c :: r)) 0 0 0 0 ⟨#[]⟩) := Lib.hid (.inl ⟨by rw [hTT, if_pos (.inl (List.eq_nil_of_length_eq_zero (by rw [hm, hm0])))], rfl⟩)
            subst hm0
            clear hT hTT hc39 hsg2 hdg hm
            go_wp2_with fail
            refine (HG.out _).mono ?_
            rintro e w1 ⟨rfl, rfl⟩
            go_wp2_with fail
            refine (HD.out _).mono ?_
            rintro e w1 ⟨rfl, rfl⟩
            go_wp2_with fail
            refine (HC.out _).mono ?_
            rintro e w1 ⟨rfl, rfl⟩
            go_wp2_with fail
            (try simp only [Exit.inBlock, Exit.then])
            refine bodyPost_ret (results_cell_tmp rfl _ _ _ _ rfl (tok_row _ _ _ rfl (four_block R2.out _ _ _ _))) rfl ?_
            exact ⟨⟨0, 0, 0, 0, ⟨#[]⟩, rfl, HP.out⟩, below_setCell (below_setCell (below_setCell (below_setCell HB2.out hge _ _) hge _ _) hge _ _) hge _ _⟩
          · by_cases hm32 : 32 < m
            · have HP : Hid (Parted (tokT (c :: r)) 0 0 0 0 ⟨#[]⟩) := Lib.hid (.inl ⟨by rw [hTT, if_pos (.inr (.inl hm32))], rfl⟩)
              clear hT hTT hc39 hsg2 hdg hm
              go_wp2_with fail
              refine (HG.out _).mono ?_
              rintro e w1 ⟨rfl, rfl⟩
              go_wp2_with fail
              refine (HD.out _).mono ?_
              rintro e w1 ⟨rfl, rfl⟩
              go_wp2_with fail
              refine (HC.out _).mono ?_
              rintro e w1 ⟨rfl, rfl⟩
              go_wp2_with fail
              (try simp only [Exit.inBlock, Exit.then])
              refine bodyPost_ret (results_cell_tmp rfl _ _ _ _ rfl (tok_row _ _ _ rfl (four_block R2.out _ _ _ _))) rfl ?_
              exact ⟨⟨0, 0, 0, 0, ⟨#[]⟩, rfl, HP.out⟩, below_setCell (below_setCell (below_setCell (below_setCell HB2.out hge _ _) hge _ _) hge _ _) hge _ _⟩
            · have hn2 : 1 < s.size := by omega
              have hs1 : s[1] = r.headD 0 := by
                have h1 : (c :: r)[1]? = some s[1] := by
                  have e := hsl.out
                  subst e
                  exact mk_get (c :: r) 1 hn2
                cases r with
                | nil => simp at h1
                | cons d r' =>
                  simp only [List.getElem?_cons_succ, List.getElem?_cons_zero, Option.some.injEq] at h1
                  exact h1.symm
              have hne : r.takeWhile part ≠ [] := fun e => hm0 (by rw [← hm, e]; rfl)
              have HS1 : Hid (∀ w, Calls Tryz.prog 66 #[.int .u8 s[1].toNat] w fun e w' => e = .returned (.bool (small (r.headD 0))) ∧ w' = w) := Lib.hid (fun w => by rw [hs1]; exact rsmall_any _ w)
              have q1 : (m : Int) ≤ 32 := by omega
              have q2 : ((m : Int) == 0) = false := by simp only [beq_eq_false_iff_ne, ne_eq]; omega
              have hx2 : s.extract 0 (1 + m) = mk ((c :: r).take (1 + m)) := by rw [hsl.out, mk_take]
              obtain ⟨tx, htx⟩ : ∃ tx, mk ((c :: r).take (1 + m)) = tx := ⟨_, rfl⟩
              have b1 : (0 : Int) ≤ 1 + (m : Int) := by omega
              have b2 : 1 + (m : Int) ≤ (n : Int) := by omega
              have b3 : (1 + (m : Int)).toNat = 1 + m := by omega
              clear hs1
              cases hsm1 : small (r.headD 0) with
              | false =>
                have HP : Hid (Parted (tokT (c :: r)) 0 0 0 0 ⟨#[]⟩) := Lib.hid (.inl ⟨by rw [hTT, if_pos (.inr (.inr hsm1))], rfl⟩)
                rw [hsm1] at HS1
                clear hT hTT hc39 hsg2 hdg hm hsm1 htx hx2 hne
                go_wp2_with fail
                refine (HG.out _).mono ?_
                rintro e w1 ⟨rfl, rfl⟩
                go_wp2_with fail
                refine (HD.out _).mono ?_
                rintro e w1 ⟨rfl, rfl⟩
                go_wp2_with fail
                refine (HC.out _).mono ?_
                rintro e w1 ⟨rfl, rfl⟩
                go_wp2_with fail
                refine (HS1.out _).mono ?_
                rintro e w1 ⟨rfl, rfl⟩
                go_wp2_with fail
                (try simp only [Exit.inBlock, Exit.then])
                refine bodyPost_ret (results_cell_tmp rfl _ _ _ _ rfl (tok_row _ _ _ rfl (four_block R2.out _ _ _ _))) rfl ?_
                exact ⟨⟨0, 0, 0, 0, ⟨#[]⟩, rfl, HP.out⟩, below_setCell (below_setCell (below_setCell (below_setCell HB2.out hge _ _) hge _ _) hge _ _) hge _ _⟩
              | true =>
                have HP : Hid (Parted (tokT (c :: r)) 3 0 0 (1 + m) tx) := Lib.hid (.inr ⟨⟨3, (c :: r).take (1 + m), 0, 0⟩, (by rw [hTT, if_neg (fun h => h.elim hne (fun h => h.elim hm32 (fun h => by rw [hsm1] at h; cases h)))]), rfl, htx.symm, rfl, rfl⟩)
                rw [htx] at hx2
                rw [hsm1] at HS1
                clear hT hTT hc39 hsg2 hdg hm hsm1 htx hne
                go_wp2_with fail
                refine (HG.out _).mono ?_
                rintro e w1 ⟨rfl, rfl⟩
                go_wp2_with fail
                refine (HD.out _).mono ?_
                rintro e w1 ⟨rfl, rfl⟩
                go_wp2_with fail
                refine (HC.out _).mono ?_
                rintro e w1 ⟨rfl, rfl⟩
                go_wp2_with fail
                refine (HS1.out _).mono ?_
                rintro e w1 ⟨rfl, rfl⟩
                go_wp2_with fail
                (try simp only [Exit.inBlock, Exit.then])
                refine bodyPost_ret (results_cell_tmp rfl _ _ _ _ rfl (tok_row _ _ _ rfl (four_block R2.out _ _ _ _))) rfl ?_
                exact ⟨⟨3, 0, 0, 1 + m, tx, rfl, HP.out⟩, below_setCell (below_setCell (below_setCell (below_setCell HB2.out hge _ _) hge _ _) hge _ _) hge _ _⟩
        · have hc34 : c ≠ 34 := fun e => h34 (by rw [← HV.out, e]; rfl)
          have hc39 : c ≠ 39 := fun e => h39 (by rw [← HV.out, e]; rfl)
          have hT := tokT_sign (r := r) hsg2 hdg hc39 hc34
          have HT := Lib.hid hT
          have hbg := fun (y : Bs) (hy : y.length ≤ 2) w' => begins_any (c :: r) y s (mk y) hsl (Lib.hid rfl) n y.length hn (by omega) hs (mk_size y) w'
          have HBG := Lib.hid hbg
          clear hT hbg hc34 hc39 hsg2 hdg
          go_wp2_with fail
          refine (HG.out _).mono ?_
          rintro e w1 ⟨rfl, rfl⟩
          go_wp2_with fail
          refine (HD.out _).mono ?_
          rintro e w1 ⟨rfl, rfl⟩
          go_wp2_with fail
          refine (signs_made w1).mono ?_
          rintro e w2 ⟨rfl, hw2⟩
          have hsg := strs_new w1 signs 9 (0, 0)
          rw [← hw2] at hsg
          have hb2 : Below w1.heap.size w1 w2 := by rw [hw2]; exact below_alloc w1 _
          obtain ⟨R2, HB2⟩ := FIN.out w2 hb2
          have HSG := Lib.hid hsg
          have hne01 : w1.heap.size ≠ g0 := by omega
          generalize w1.heap.size = g1 at HSG hne01
          clear hb2 hsg hw2
          go_wp2_with fail
          go_loopw [9] (fun i wr => ∃ k : Nat, k ≤ 22 ∧ i = .int .i64 k ∧ wr = w2 ∧ Hid (tokT (c :: r) = signFrom (c :: r) (signs.drop k))) (fun i _ => 22 - (intOf i).toNat)
          case atStart => exact ⟨0, by decide, rfl, rfl, HT⟩
          case round =>
            obtain ⟨k, hk, rfl, rfl, HK⟩ := hrel
            have d0 := (tokRow_of R2.out).1
            have d1 := (tokRow_of R2.out).2.1
            have d2 := (tokRow_of R2.out).2.2.1
            have d3 := (tokRow_of R2.out).2.2.2.1
            have f0 := (tokRow_of R2.out).2.2.2.2 0
            have f1 := (tokRow_of R2.out).2.2.2.2 1
            have f2 := (tokRow_of R2.out).2.2.2.2 2
            have f3 := (tokRow_of R2.out).2.2.2.2 3
            by_cases hkn : k = 22
            · have HP : Hid (Parted (tokT (c :: r)) 0 0 0 0 ⟨#[]⟩) := Lib.hid (.inl ⟨by rw [HK.out, hkn]; rfl, rfl⟩)
              subst hkn
              go_wp2_with fail
              (try simp only [Exit.inBlock, Exit.then])
              refine bodyPost_ret (results_cell_tmp rfl _ _ _ _ rfl (tok_row _ _ _ rfl (four_block R2.out _ _ _ _))) rfl ?_
              exact ⟨⟨0, 0, 0, 0, ⟨#[]⟩, rfl, HP.out⟩, below_setCell (below_setCell (below_setCell (below_setCell HB2.out hge _ _) hge _ _) hge _ _) hge _ _⟩
            · obtain ⟨y, hy⟩ : ∃ y, signs[k]? = some y := ⟨_, List.getElem?_eq_getElem (by show k < 22; omega)⟩
              have e0 := HSG.out k y hy
              rw [Nat.zero_add] at e0
              have hy2 := (signs_two y (List.mem_of_getElem? hy)).1
              have hdr : signs.drop k = y :: signs.drop (k + 1) := by
                obtain ⟨h1, h2⟩ := List.getElem?_eq_some_iff.1 hy
                rw [List.drop_eq_getElem_cons h1, h2]
              have hcall := HBG.out y hy2
              have hys : (mk y).size = y.length := mk_size y
              obtain ⟨m, hm⟩ : ∃ m, y.length = m := ⟨_, rfl⟩
              rw [hm] at hys hy2
              obtain ⟨tx, htx⟩ : ∃ tx, mk y = tx := ⟨_, rfl⟩
              rw [htx] at e0 hcall hys
              cases hb : y.isPrefixOf (c :: r) with
              | false =>
                rw [hb] at hcall
                have HC := Lib.hid hcall
                have HK2 : Hid (tokT (c :: r) = signFrom (c :: r) (signs.drop (k + 1))) := Lib.hid (by rw [HK.out, hdr, signFrom, hb]; rfl)
                clear hcall hb hdr hm htx hy
                go_wp2_with fail
                refine (HC.out _).mono ?_
                rintro e w3 ⟨rfl, rfl⟩
                go_wp2_with fail
                exact ⟨⟨k + 1, by omega, by go_num, trivial, HK2⟩, by simp [intOf]; omega⟩
              | true =>
                rw [hb] at hcall
                have HC := Lib.hid hcall
                have HP : Hid (Parted (tokT (c :: r)) 7 0 0 m tx) := Lib.hid (.inr ⟨⟨7, y, 0, 0⟩, (by rw [HK.out, hdr, signFrom, hb, hm]; rfl), rfl, htx.symm, rfl, rfl⟩)
                clear hcall hb hdr hm htx hy
                go_wp2_with fail
                refine (HC.out _).mono ?_
                rintro e w3 ⟨rfl, rfl⟩
                go_wp2_with fail
                refine wp_region_held_drew (S := fun w' => w'.cell? ⟨g1, k, none⟩ = some (.string tx)) (by kernel_rfl) e0 (fun hHeld => ?_)
                refine take_op 0 (some 80) (Op.move ( .tmp 8)) 35 ?_ (by kernel_rfl) (by kernel_rfl) (by kernel_rfl) (by kernel_rfl) (by kernel_rfl) (fun _ _ _ h => h) ?_ (by assumption) ?_
                rotate_left
                · intro w hSw; (try dsimp only at hSw); go_simp; (try (with_reducible rfl))
                try simp only [Act.put, List.setIfInBounds_toArray, List.set_cons_zero, List.set_cons_succ]
                refine take_op 1 (some 81) (Op.move ( .tmp 9)) 3 ?_ (by kernel_rfl) (by kernel_rfl) (by kernel_rfl) (by kernel_rfl) (by kernel_rfl) (fun _ _ _ h => h) ?_ (by assumption) ?_
                rotate_left
                · intro w hSw; (try dsimp only at hSw); go_simp; (try (with_reducible rfl))
                try simp only [Act.put, List.setIfInBounds_toArray, List.set_cons_zero, List.set_cons_succ]
                refine take_op 2 (some 82) (Op.indexAddr 35 ( .tmp 80) ( .tmp 81)) 0 ?_ (by kernel_rfl) (by kernel_rfl) (by kernel_rfl) (by kernel_rfl) (by kernel_rfl) (fun _ _ _ h => h) ?_ (by assumption) ?_
                rotate_left
                · intro w hSw; (try dsimp only at hSw); go_simp; (try (with_reducible rfl))
                try simp only [Act.put, List.setIfInBounds_toArray, List.set_cons_zero, List.set_cons_succ]
                refine take_op 3 (some 83) (Op.load 9 ( .tmp 82)) 9 ?_ (by kernel_rfl) (by kernel_rfl) (by kernel_rfl) (by kernel_rfl) (by kernel_rfl) (fun _ _ _ h => h) ?_ (by assumption) ?_
                rotate_left
                · intro w hSw; (try dsimp only at hSw); go_simp; (try (with_reducible rfl))
                try simp only [Act.put, List.setIfInBounds_toArray, List.set_cons_zero, List.set_cons_succ]
                refine take_op 4 (some 84) (Op.build 31 #[(0,  .const (.int .u8 7)), (1,  .tmp 83)]) 31 ?_ (by kernel_rfl) (by kernel_rfl) (by kernel_rfl) (by kernel_rfl) (by kernel_rfl) (fun _ _ _ h => h) ?_ (by assumption) ?_
                rotate_left
                · intro w hSw; (try dsimp only at hSw); go_simp; (try (with_reducible rfl))
                try simp only [Act.put, List.setIfInBounds_toArray, List.set_cons_zero, List.set_cons_succ]
                refine take_op 5 (some 85) (Op.move ( .tmp 8)) 35 ?_ (by kernel_rfl) (by kernel_rfl) (by kernel_rfl) (by kernel_rfl) (by kernel_rfl) (fun _ _ _ h => h) ?_ (by assumption) ?_
                rotate_left
                · intro w hSw; (try dsimp only at hSw); go_simp; (try (with_reducible rfl))
                try simp only [Act.put, List.setIfInBounds_toArray, List.set_cons_zero, List.set_cons_succ]
                refine take_op 6 (some 86) (Op.move ( .tmp 9)) 3 ?_ (by kernel_rfl) (by kernel_rfl) (by kernel_rfl) (by kernel_rfl) (by kernel_rfl) (fun _ _ _ h => h) ?_ (by assumption) ?_
                rotate_left
                · intro w hSw; (try dsimp only at hSw); go_simp; (try (with_reducible rfl))
                try simp only [Act.put, List.setIfInBounds_toArray, List.set_cons_zero, List.set_cons_succ]
                refine take_op 7 (some 87) (Op.indexAddr 35 ( .tmp 85) ( .tmp 86)) 0 ?_ (by kernel_rfl) (by kernel_rfl) (by kernel_rfl) (by kernel_rfl) (by kernel_rfl) (fun _ _ _ h => h) ?_ (by assumption) ?_
                rotate_left
                · intro w hSw; (try dsimp only at hSw); go_simp; (try (with_reducible rfl))
                try simp only [Act.put, List.setIfInBounds_toArray, List.set_cons_zero, List.set_cons_succ]
                refine take_op 8 (some 88) (Op.load 9 ( .tmp 87)) 9 ?_ (by kernel_rfl) (by kernel_rfl) (by kernel_rfl) (by kernel_rfl) (by kernel_rfl) (fun _ _ _ h => h) ?_ (by assumption) ?_
                rotate_left
                · intro w hSw; (try dsimp only at hSw); go_simp; (try (with_reducible rfl))
                try simp only [Act.put, List.setIfInBounds_toArray, List.set_cons_zero, List.set_cons_succ]
                refine take_op 9 (some 89) (Op.call { callee := .builtin .len, args := #[.tmp 88], argTypes := #[9] }) 3 ?_ (by kernel_rfl) (by kernel_rfl) (by kernel_rfl) (by kernel_rfl) (by kernel_rfl) (fun _ _ _ h => h) ?_ (by assumption) ?_
                rotate_left
                · intro w hSw; (try dsimp only at hSw); go_simp; (try (with_reducible rfl))
                try simp only [Act.put, List.setIfInBounds_toArray, List.set_cons_zero, List.set_cons_succ]
                refine wpAnyH_ready (rs := [10]) (by kernel_rfl) (by simp) ?_ -- slot None store
                refine AllReadyH.cons (o := _) rfl (fun K hK => ?_) AllReadyH.nil
                go_simp
                refine hK.out _ _ ?_ (fun hHeld => ?_)
                · exact cell_four e0 hne01 _ _ _ _
                clear hK K
                try dsimp only
                try simp only [Act.put, List.setIfInBounds_toArray, List.set_cons_zero, List.set_cons_succ]
                refine take_op 11 (some 3) (Op.assign ( .tmp 89)) 3 ?_ (by kernel_rfl) (by kernel_rfl) (by kernel_rfl) (by kernel_rfl) (by kernel_rfl) (fun _ _ _ h => h) ?_ (by assumption) ?_
                rotate_left
                · intro w hSw; (try dsimp only at hSw); go_simp; (try (with_reducible rfl))
                try simp only [Act.put, List.setIfInBounds_toArray, List.set_cons_zero, List.set_cons_succ]
                refine wpAnyH_done (by kernel_rfl) ?_ _
                go_wp2_with fail
                (try simp only [Exit.inBlock, Exit.then])
                refine bodyPost_ret (results_cell_tmp rfl _ _ _ _ rfl (tok_row _ _ _ rfl (four_block R2.out _ _ _ _))) rfl ?_
                exact ⟨⟨7, 0, 0, m, tx, rfl, HP.out⟩, (below_setCell (below_setCell (below_setCell (below_setCell HB2.out hge _ _) hge _ _) hge _ _) hge _ _).drew⟩
end Go.Proofs.YtjabhmepafofmaaGreatDoor.Sc
namespace Go.Proofs.YtjabhmepafofmaaGreatDoor.Sc
open Go.RowKit
theorem sc_none {l : Bs} {q : Nat} {done : List Tok} (h : ScInv l q done) (hb : blank (l.drop q) = none) : scanL 0 l = .error q := by
  unfold ScInv at h
  rw [h, scanL_none hb]
  rfl
theorem sc_blank {l : Bs} {q k : Nat} {done : List Tok} (h : ScInv l q done) (hb : blank (l.drop q) = some (k + 1)) : ScInv l (q + (k + 1)) done := by
  unfold ScInv at h ⊢
  rw [h, scanL_blank hb, List.drop_drop]
theorem sc_end {l : Bs} {q : Nat} {done : List Tok} (h : ScInv l q done) (hq : l.length ≤ q) : scanL 0 l = .ok done := by
  unfold ScInv at h
  rw [h, List.drop_eq_nil_of_le hq, scanL_nil]
  simp [Except.map]
theorem sc_no {l : Bs} {q : Nat} {done : List Tok} (h : ScInv l q done) (hb : blank (l.drop q) = some 0) (h0 : l.drop q ≠ []) (ht : tokT (l.drop q) = none) : scanL 0 l = .error q := by
  unfold ScInv at h
  rw [h, scanL_no hb h0 ht]
  rfl
theorem sc_tok {l : Bs} {q n : Nat} {done : List Tok} {t : Tok} (h : ScInv l q done) (hb : blank (l.drop q) = some 0) (ht : tokT (l.drop q) = some (t, n)) : ScInv l (q + n) (done ++ [{ t with pos := q }]) := by
  unfold ScInv at h ⊢
  rw [h, scanL_tok hb ht, List.drop_drop]
  cases scanL (q + n) (l.drop (q + n)) <;> simp [Except.map]
set_option maxRecDepth 100000 in
set_option maxHeartbeats 2000000 in
theorem rscan_any (l : Bs) (a : Option Addr) (n cap : Nat) (w : World) (hn : n ≤ 1099511627776) (hl : Hid (l.length = n)) (hcv : Hid (Spells (.slice a n cap) (mk l) w)) :
    Calls Tryz.prog 19 #[.slice a n cap] w (ScanSaid w (scanR l)) := by
  obtain ⟨R, hR⟩ : ∃ R, scanR l = R := ⟨_, rfl⟩
  rw [hR]
  unfold scanR at hR
  rw [hl.out] at hR
  have HR := Lib.hid hR
  clear hR
  go_enter Tryz.func19, Tryz.ntmps19
  by_cases hbig : 16384 < n
  · go_wp2_with fail
    go_ret3
    have h := HR.out
    rw [if_pos hbig] at h
    subst h
    exact ⟨Below.refl _ _, rfl⟩
  · have h := HR.out
    rw [if_neg hbig] at h
    have HR2 := Lib.hid h
    clear h HR
    have hc9 := hcv.out 9 Tryz.underlying9
    have hsz : (mk l).size = n := by rw [mk_size, hl.out]
    go_wp2_with fail
    clear hc9
    go_loopw [6, 7] (fun v i wr => ∃ (q : Nat) (done : List Tok), q ≤ n ∧ done.length ≤ q ∧ i = .int .i64 q ∧ Hid (ScInv l q done) ∧ Hid (wr.ownsRow w.heap.size 31 4 v done.length (tokCells done)) ∧ Hid (Below w.heap.size w wr)) (fun _ i _ => n + 1 - (intOf i).toNat)
    case atStart => exact ⟨0, [], Nat.zero_le _, Nat.zero_le _, rfl, Lib.hid (scInv_zero l), Lib.hid ⟨rfl, .inl ⟨rfl, rfl⟩⟩, Lib.hid (Below.refl _ _)⟩
    case round =>
      obtain ⟨q, done, hq, hdl, rfl, HI, HO, HF⟩ := hrel
      by_cases hqn : q = n
      · go_wp2_with fail
        go_ret3
        have h := HR2.out
        rw [sc_end HI.out (by rw [hl.out]; omega)] at h
        subst h
        exact ⟨HF.out, u6, rfl, HO.out⟩
      · have HX : Hid ((mk l).extract q n = mk (l.drop q)) := Lib.hid (by rw [mk_drop l q n hl.out.symm])
        have hsz2 : ((mk l).extract q n).size = n - q := by rw [HX.out, mk_size, List.length_drop, hl.out]
        obtain ⟨c, r, hcr⟩ : ∃ c r, l.drop q = c :: r := by
          cases hd : l.drop q with
          | nil =>
            have := congrArg List.length hd
            rw [List.length_drop, hl.out] at this
            simp at this
            omega
          | cons c r => exact ⟨c, r, rfl⟩
        rw [hcr] at HX
        have hbl := fun w => rblank_any c r _ HX (n - q) (by omega) hsz2 w
        have hon := fun w => rone_any c r _ HX (n - q) (by omega) hsz2 w
        rw [← hcr] at hbl hon
        have HON := Lib.hid hon
        cases hb : blank (l.drop q) with
        | none =>
          have e : blankI (l.drop q) = -1 := by rw [blankI, hb]
          rw [e] at hbl
          have HBL := Lib.hid hbl
          have HB := Lib.hid hb
          clear hbl hon hb e hcr hsz2
          go_wp2_with fail
          refine (HBL.out _).mono ?_
          rintro e w1 ⟨rfl, rfl⟩
          go_wp2_with fail
          go_ret3
          have h := HR2.out
          rw [sc_none HI.out HB.out] at h
          subst h
          exact ⟨HF.out, rfl⟩
        | some k =>
          have e : blankI (l.drop q) = (k : Int) := by rw [blankI, hb]
          have hkl := blank_le hb
          rw [List.length_drop, hl.out] at hkl
          rw [e] at hbl
          have HBL := Lib.hid hbl
          have HB := Lib.hid hb
          have HCR := Lib.hid hcr
          clear hbl hon hb e hcr hsz2
          rcases Nat.eq_zero_or_pos k with rfl | hk0
          · go_wp2_with fail
            refine (HBL.out _).mono ?_
            rintro e w1 ⟨rfl, rfl⟩
            go_wp2_with fail
            refine (HON.out _).mono ?_
            rintro e w2 ⟨⟨kd, nm, ps, m, tx, rfl, hP⟩, hb2⟩
            have HP := Lib.hid hP
            have HB2 := Lib.hid (HF.out.trans (hb2.mono HF.out.size))
            have HO2 := Lib.hid (owns_below HO.out hb2)
            clear hP hb2
            rcases Nat.eq_zero_or_pos m with rfl | hm
            · go_wp2_with fail
              go_ret3
              have ht : tokT (l.drop q) = none := by
                rcases HP.out with h | ⟨t, h, _⟩
                · exact h.1
                · have := tokT_le h
                  omega
              have h := HR2.out
              rw [sc_no HI.out HB.out (by rw [HCR.out]; simp) ht] at h
              subst h
              exact ⟨keep_alloc HB2.out, rfl⟩
            · obtain ⟨t, ht, hkd, htx, hnm, hps⟩ : ∃ t : Tok, tokT (l.drop q) = some (t, m) ∧ kd = t.kind ∧ tx = mk t.text ∧ nm = t.num ∧ ps = t.pos := by
                rcases HP.out with h | h
                · exact absurd h.2 (by omega)
                · exact h
              have hml := (tokT_le ht).2
              rw [List.length_drop, hl.out] at hml
              have HTK := Lib.hid (And.intro ht (And.intro hkd (And.intro htx hnm)))
              obtain ⟨i0, hi, hz0, hz1, hz2⟩ := info37
              have HINF := Lib.hid (And.intro hi (And.intro hz0 (And.intro hz1 hz2)))
              clear hi hz0 hz1 hz2 ht hkd htx hnm hps HP
              go_wp2_with (at_builtin; refine wpList_append_own_at _ rfl _ _ 22 rfl w.heap.size 31 i0 (.agg #[.int .u8 0, .string ⟨#[]⟩, .int .i64 0, .int .i64 0]) 4 40 Tryz.underlying22 HINF.out.1 HINF.out.2.1 HINF.out.2.2.1 HINF.out.2.2.2 rfl (by decide) _ _ _ rfl ((HO2.out.alloc _).alloc _) ⟨w2.heap.size + 1, 0, none⟩ 1 1 [.int .u8 kd, .string tx, .int .i64 nm, .int .i64 (q : Int)] rfl rfl (tok_cells _ _ _ _ (by simp)) tok_ones (by unfold maxLen; omega) (by omega) (Nat.le_trans HB2.out.size (by simp; omega)) ?_; intro v' w5 hown' hgrow _ _)
              have hg2 : ((w2.alloc (.cells #[.int .u8 kd, .string tx, .int .i64 nm, .int .i64 (q : Int)] 31)).alloc (.cells #[.int .u8 kd, .string tx, .int .i64 nm, .int .i64 (q : Int)] 31)).grownBy w5 u6.ownBlock := hgrow
              have hB5 := below_grown ((HB2.out.alloc HB2.out.size (.cells #[.int .u8 kd, .string tx, .int .i64 nm, .int .i64 (q : Int)] 31)).alloc (HB2.out.alloc HB2.out.size _).size (.cells #[.int .u8 kd, .string tx, .int .i64 nm, .int .i64 (q : Int)] 31)) (Nat.le_refl _) ((HO2.out.alloc _).alloc _) hg2
              obtain ⟨ht, hkd, htx, hnm⟩ := HTK.out
              refine ⟨⟨q + m, done ++ [{ t with pos := q }], by omega, by simp only [List.length_append, List.length_cons, List.length_nil]; omega, rfl, Lib.hid (sc_tok HI.out HB.out ht), Lib.hid ?_, Lib.hid hB5⟩, by simp [intOf]; omega⟩
              have e : tokCells (done ++ [{ t with pos := q }]) = tokCells done ++ [.int .u8 kd, .string tx, .int .i64 nm, .int .i64 (q : Int)] := by
                simp [tokCells, tokA, hkd, htx, hnm]
              rw [e, List.length_append]
              exact hown'
          · go_wp2_with fail
            refine (HBL.out _).mono ?_
            rintro e w1 ⟨rfl, rfl⟩
            go_wp2_with fail
            refine ⟨⟨q + k, done, by omega, by omega, by go_num, Lib.hid ?_, HO, HF⟩, by simp [intOf]; omega⟩
            obtain ⟨k', rfl⟩ : ∃ k', k = k' + 1 := ⟨k - 1, by omega⟩
            exact sc_blank HI.out HB.out
end Go.Proofs.YtjabhmepafofmaaGreatDoor.Sc
