/- Rst, Rop -/
import Derived.Test.YtjabhmepafofmaaGreatDoorG07
import Derived.Test.YtjabhmepafofmaaGreatDoorG04
import Derived.Test.YtjabhmepafofmaaGreatDoorG05
import Derived.Test.YtjabhmepafofmaaGreatDoorG03
set_option linter.unusedVariables false
set_option linter.unusedSimpArgs false
namespace Go.Proofs.YtjabhmepafofmaaGreatDoor
open Go.RowKit
set_option maxHeartbeats 4000000 in
set_option maxRecDepth 100000 in
theorem startsr {gp : Nat} {a : Option Addr} {c : Nat} {l : List Tok} {p : Nat} {b : Bool} {w : World} (h : RPar w gp a c l p b) : Calls Tryz.prog 100 #[.pointer (some ⟨gp, 0, none⟩)] w fun e w' => e = .returned (.bool (Gr.startsB (rtok l p b))) ∧ Fr No w w' := by
  have HN := Lib.hid (fun u hf => nextr (h.no (w' := u) hf))
  have HW := Lib.hid (fun u hf s => wordr (h.no (w' := u) hf) s)
  have HS := Lib.hid (fun u hf s => signr (h.no (w' := u) hf) s)
  clear h
  obtain ⟨t, ht⟩ : ∃ t, rtok l p b = t := ⟨_, rfl⟩
  rw [ht] at HN HW HS ⊢
  clear ht
  have HE := Lib.hid (starts_eq t)
  go_enter Tryz.func100, Tryz.ntmps100
  go_wp2_with fail
  refine (HN.out _ (Fr.refl _ _)).mono ?_
  rintro e w1 ⟨rfl, hf⟩
  have HF := Lib.hid hf
  clear hf HN
  obtain ⟨k, tx, nu, po⟩ := t
  simp only [tokV]
  go_wp2_with fail
  simp only [field49_0]
  by_cases hk1 : k = 1
  · have hq : ((k : Int) == 1) = true := by simp [hk1]
    have HV : Hid (Gr.startsB ⟨k, tx, nu, po⟩ = true) := Lib.hid (by rw [HE.out]; simp [hk1])
    clear hk1
    go_wp2_with fail
    go_ret
    exact ⟨by rw [HV.out]; rfl, HF.out⟩
  have hq1 : ((k : Int) == 1) = false := by simp only [beq_eq_false_iff_ne, ne_eq]; omega
  by_cases hk2 : k = 2
  · have hq : ((k : Int) == 2) = true := by simp [hk2]
    have HV : Hid (Gr.startsB ⟨k, tx, nu, po⟩ = true) := Lib.hid (by rw [HE.out]; simp [hk2])
    clear hk1
    clear hk2
    go_wp2_with fail
    go_ret
    exact ⟨by rw [HV.out]; rfl, HF.out⟩
  have hq2 : ((k : Int) == 2) = false := by simp only [beq_eq_false_iff_ne, ne_eq]; omega
  by_cases hk4 : k = 4
  · have hq : ((k : Int) == 4) = true := by simp [hk4]
    have HV : Hid (Gr.startsB ⟨k, tx, nu, po⟩ = true) := Lib.hid (by rw [HE.out]; simp [hk4])
    clear hk1
    clear hk2
    clear hk4
    go_wp2_with fail
    go_ret
    exact ⟨by rw [HV.out]; rfl, HF.out⟩
  have hq4 : ((k : Int) == 4) = false := by simp only [beq_eq_false_iff_ne, ne_eq]; omega
  by_cases hk5 : k = 5
  · have hq : ((k : Int) == 5) = true := by simp [hk5]
    have HV : Hid (Gr.startsB ⟨k, tx, nu, po⟩ = true) := Lib.hid (by rw [HE.out]; simp [hk5])
    clear hk1
    clear hk2
    clear hk4
    clear hk5
    go_wp2_with fail
    go_ret
    exact ⟨by rw [HV.out]; rfl, HF.out⟩
  have hq5 : ((k : Int) == 5) = false := by simp only [beq_eq_false_iff_ne, ne_eq]; omega
  have HE2 : Hid (Gr.startsB ⟨k, tx, nu, po⟩ = (wordB ⟨k, tx, nu, po⟩ ⟨#[116, 114, 117, 101]⟩ || (wordB ⟨k, tx, nu, po⟩ ⟨#[102, 97, 108, 115, 101]⟩ || (wordB ⟨k, tx, nu, po⟩ ⟨#[108, 101, 116]⟩ || (signB ⟨k, tx, nu, po⟩ ⟨#[40]⟩ || (signB ⟨k, tx, nu, po⟩ ⟨#[33]⟩ || signB ⟨k, tx, nu, po⟩ ⟨#[126]⟩)))))) := Lib.hid (by rw [HE.out]; simp [hk1, hk2, hk4, hk5])
  clear hk1 hk2 hk4 hk5
  go_wp2_with fail
  refine (HW.out _ HF.out ⟨#[116, 114, 117, 101]⟩).mono ?_
  rintro e w2 ⟨rfl, hf⟩
  replace HF := Lib.hid (HF.out.then hf)
  clear hf
  cases hz0 : wordB ⟨k, tx, nu, po⟩ ⟨#[116, 114, 117, 101]⟩ with
  | true =>
    have HV : Hid (Gr.startsB ⟨k, tx, nu, po⟩ = true) := Lib.hid (by rw [HE2.out, hz0]; rfl)
    clear hz0
    go_wp2_with fail
    go_ret
    exact ⟨by rw [HV.out]; rfl, HF.out⟩
  | false =>
    go_wp2_with fail
    refine (HW.out _ HF.out ⟨#[102, 97, 108, 115, 101]⟩).mono ?_
    rintro e w3 ⟨rfl, hf⟩
    replace HF := Lib.hid (HF.out.then hf)
    clear hf
    cases hz1 : wordB ⟨k, tx, nu, po⟩ ⟨#[102, 97, 108, 115, 101]⟩ with
    | true =>
      have HV : Hid (Gr.startsB ⟨k, tx, nu, po⟩ = true) := Lib.hid (by rw [HE2.out, hz0, hz1]; rfl)
      clear hz0 hz1
      go_wp2_with fail
      go_ret
      exact ⟨by rw [HV.out]; rfl, HF.out⟩
    | false =>
      go_wp2_with fail
      refine (HW.out _ HF.out ⟨#[108, 101, 116]⟩).mono ?_
      rintro e w4 ⟨rfl, hf⟩
      replace HF := Lib.hid (HF.out.then hf)
      clear hf
      cases hz2 : wordB ⟨k, tx, nu, po⟩ ⟨#[108, 101, 116]⟩ with
      | true =>
        have HV : Hid (Gr.startsB ⟨k, tx, nu, po⟩ = true) := Lib.hid (by rw [HE2.out, hz0, hz1, hz2]; rfl)
        clear hz0 hz1 hz2
        go_wp2_with fail
        go_ret
        exact ⟨by rw [HV.out]; rfl, HF.out⟩
      | false =>
        go_wp2_with fail
        refine (HS.out _ HF.out ⟨#[40]⟩).mono ?_
        rintro e w5 ⟨rfl, hf⟩
        replace HF := Lib.hid (HF.out.then hf)
        clear hf
        cases hz3 : signB ⟨k, tx, nu, po⟩ ⟨#[40]⟩ with
        | true =>
          have HV : Hid (Gr.startsB ⟨k, tx, nu, po⟩ = true) := Lib.hid (by rw [HE2.out, hz0, hz1, hz2, hz3]; rfl)
          clear hz0 hz1 hz2 hz3
          go_wp2_with fail
          go_ret
          exact ⟨by rw [HV.out]; rfl, HF.out⟩
        | false =>
          go_wp2_with fail
          refine (HS.out _ HF.out ⟨#[33]⟩).mono ?_
          rintro e w6 ⟨rfl, hf⟩
          replace HF := Lib.hid (HF.out.then hf)
          clear hf
          cases hz4 : signB ⟨k, tx, nu, po⟩ ⟨#[33]⟩ with
          | true =>
            have HV : Hid (Gr.startsB ⟨k, tx, nu, po⟩ = true) := Lib.hid (by rw [HE2.out, hz0, hz1, hz2, hz3, hz4]; rfl)
            clear hz0 hz1 hz2 hz3 hz4
            go_wp2_with fail
            go_ret
            exact ⟨by rw [HV.out]; rfl, HF.out⟩
          | false =>
            go_wp2_with fail
            refine (HS.out _ HF.out ⟨#[126]⟩).mono ?_
            rintro e w7 ⟨rfl, hf⟩
            replace HF := Lib.hid (HF.out.then hf)
            clear hf
            cases hz5 : signB ⟨k, tx, nu, po⟩ ⟨#[126]⟩ with
            | true =>
              have HV : Hid (Gr.startsB ⟨k, tx, nu, po⟩ = true) := Lib.hid (by rw [HE2.out, hz0, hz1, hz2, hz3, hz4, hz5]; rfl)
              clear hz0 hz1 hz2 hz3 hz4 hz5
              go_wp2_with fail
              go_ret
              exact ⟨by rw [HV.out]; rfl, HF.out⟩
            | false =>
              have HV : Hid (Gr.startsB ⟨k, tx, nu, po⟩ = false) := Lib.hid (by rw [HE2.out, hz0, hz1, hz2, hz3, hz4, hz5]; rfl)
              clear hz0 hz1 hz2 hz3 hz4 hz5
              go_wp2_with fail
              go_ret
              exact ⟨by rw [HV.out]; rfl, HF.out⟩
end Go.Proofs.YtjabhmepafofmaaGreatDoor
namespace Go.Proofs.YtjabhmepafofmaaGreatDoor
open Go.RowKit
theorem wordB_text {t : Tok} {s : ByteArray} (h : wordB t s = true) : s = t.text := by
  unfold wordB at h
  exact (of_decide_eq_true (Bool.and_eq_true _ _ ▸ h : _ ∧ _).2).symm
theorem signB_text {t : Tok} {s : ByteArray} (h : signB t s = true) : s = t.text := by
  unfold signB at h
  exact (of_decide_eq_true (Bool.and_eq_true _ _ ▸ h : _ ∧ _).2).symm
theorem alloc_get {w : World} {o o' : Obj} {g : Nat} (h : w.heap[g]? = some o') : (w.alloc o).heap[g]? = some o' := (Fr.alloc _ _).keeps h no_one
theorem alloc_top {w : World} {cs : Array Value} {t : TypeId} {g : Nat} (h : g = w.heap.size) : (w.alloc (.cells cs t)).heap[g]? = some (.cells cs t (0, 0)) := by
  subst h
  exact new_block _ _
theorem sees_sing (t : Tok) : ∀ L : List ByteArray, seesB t L = L.any fun s => seesB t [s]
  | [] => by simp [seesB]
  | s :: r => by rw [sees_cons, sees_sing t r, List.any_cons]
theorem ops_word {k : Nat} (hk : k < 5) : ∀ s ∈ Gr.ops k, s ≠ nob ∧ (letterB s = true ↔ s = ⟨#[100, 105, 118]⟩ ∨ s = ⟨#[109, 111, 100]⟩) := by
  have h5 : k = 0 ∨ k = 1 ∨ k = 2 ∨ k = 3 ∨ k = 4 := by omega
  rcases h5 with rfl | rfl | rfl | rfl | rfl <;> (intro s hs; simp only [Gr.ops, List.mem_cons, List.not_mem_nil, or_false] at hs) <;> (first | (rcases hs with rfl | rfl | rfl | rfl | rfl | rfl) | (rcases hs with rfl | rfl | rfl) | (rcases hs with rfl | rfl) | subst hs) <;> exact ⟨by decide, by decide⟩
set_option maxHeartbeats 4000000 in
set_option maxRecDepth 100000 in
theorem operr {gp : Nat} {a : Option Addr} {c : Nat} {l : List Tok} {p : Nat} {b : Bool} {w : World} (h : RPar w gp a c l p b) (k : Nat) (hk : k < 5) : Calls Tryz.prog 87 #[.pointer (some ⟨gp, 0, none⟩), .int .i64 (k : Nat)] w fun e w' => ∃ s, e = .returned (.string s) ∧ (seesB (rtok l p b) (Gr.ops k) = true → s = (rtok l p b).text ∧ s ≠ nob) ∧ (seesB (rtok l p b) (Gr.ops k) = false → s = nob) ∧ Fr No w w' := by
  have HN := Lib.hid h
  clear h
  obtain ⟨t, ht⟩ : ∃ t, rtok l p b = t := ⟨_, rfl⟩
  have HT := Lib.hid ht
  rw [ht]
  clear ht
  have HW := Lib.hid (ops_word hk)
  have HE := Lib.hid (sees_sing t (Gr.ops k))
  go_enter Tryz.func87, Tryz.ntmps87
  go_upto_region 1 with fail
  go_cut [5] from 8 to 16 (fun v wx => ∃ gB, v = .slice (some ⟨gB, 0, none⟩) (Gr.ops k).length (Gr.ops k).length ∧ Hid (wx.heap[gB]? = some (.cells ((Gr.ops k).map Value.string).toArray 9 (0, 0))) ∧ Hid (Fr No w wx))
  case first =>
    have h5 : k = 0 ∨ k = 1 ∨ k = 2 ∨ k = 3 ∨ k = 4 := by omega
    clear hk HW HE
    rcases h5 with rfl | rfl | rfl | rfl | rfl
    all_goals
      go_wp2_with fail
      go_meet
      refine ⟨_, rfl, Lib.hid ?_, Lib.hid (((((Fr.alloc _ _).then (Fr.alloc _ _)).then (Fr.alloc _ _)).then (Fr.alloc _ _)).then (Fr.alloc _ _) |>.then (Fr.alloc _ _))⟩
      repeat first | exact alloc_top (by simp only [size_alloc]) | refine alloc_get ?_
  case rest =>
    obtain ⟨gB, rfl, hB, hf⟩ := hcut
    obtain ⟨w1, hw1⟩ : ∃ w1, w1 = wc := ⟨_, rfl⟩
    rw [← hw1] at hB hf ⊢
    clear hw1 wc
    obtain ⟨L, hL⟩ : ∃ L, Gr.ops k = L := ⟨_, rfl⟩
    have hL5 : L.length ≤ 6 := by
      have h5 : k = 0 ∨ k = 1 ∨ k = 2 ∨ k = 3 ∨ k = 4 := by omega
      subst hL
      rcases h5 with rfl | rfl | rfl | rfl | rfl <;> decide
    rw [hL] at HW HE hB ⊢
    have HLk := Lib.hid hL
    clear hL hk
    obtain ⟨n, hn⟩ : ∃ n, L.length = n := ⟨_, rfl⟩
    have HLn := Lib.hid hn
    rw [hn] at hL5 ⊢
    clear hn
    go_wp2_with fail
    go_loopw [6] (fun v wx => ∃ i : Nat, i ≤ n ∧ v = .int .i64 i ∧ Hid (wx.heap[gB]? = some (.cells (L.map Value.string).toArray 9 (0, 0))) ∧ Hid (Fr No w wx) ∧ Hid (seesB t L = (L.drop i).any fun s => seesB t [s])) (fun v _ => n - intOf v)
    case atStart => exact ⟨0, Nat.zero_le _, rfl, hB, hf, HE⟩
    case round =>
      clear hB hf HE
      obtain ⟨i, hi, rfl, hB, hf, HD⟩ := hrel
      obtain ⟨w2, hw2⟩ : ∃ w2, w2 = wr := ⟨_, rfl⟩
      rw [← hw2] at hB hf ⊢
      clear hw2 wr
      by_cases hin : i = n
      · have HV : Hid (seesB t (Gr.ops k) = false) := Lib.hid (by rw [HLk.out, HD.out, hin, ← HLn.out, List.drop_length]; rfl)
        subst hin
        go_wp2_with fail
        go_ret
        exact ⟨_, rfl, (fun h => by rw [HV.out] at h; cases h), (fun _ => rfl), hf.out⟩
      · obtain ⟨s, hs⟩ : ∃ s, L[i]? = some s := ⟨_, List.getElem?_eq_getElem (by rw [HLn.out]; omega)⟩
        have d0 : w2.cell? ⟨gB, i, none⟩ = some (.string s) := by
          rw [cell_of hB.out i, List.getElem?_toArray, List.getElem?_map, hs]
          rfl
        have hil : i < L.length := by rw [HLn.out]; omega
        have hxe : L[i]'hil = s := by
          have := List.getElem?_eq_getElem hil
          rw [hs] at this
          exact (Option.some.inj this).symm
        have HDR : Hid (seesB t L = (seesB t [s] || (L.drop (i + 1)).any fun s => seesB t [s])) := Lib.hid (by
          have h1 := HD.out
          rw [List.drop_eq_getElem_cons hil, hxe, List.any_cons] at h1
          exact h1)
        have HS := Lib.hid (HW.out s (List.mem_of_getElem? hs))
        have hlt : (i : Int) < (n : Int) := by omega
        have HIX := Lib.hid hs
        clear hxe hil hs HD
        have HNX := Lib.hid (HN.out.no hf.out)
        by_cases h1 : s = ⟨#[100, 105, 118]⟩
        · have hl : letterB s = true := HS.out.2.2 (.inl h1)
          have HLT := Lib.hid hl
          clear hl
          have hq1 : (s.toList == ([100, 105, 118] : List UInt8)) = true := by rw [show ([100, 105, 118] : List UInt8) = (⟨#[100, 105, 118]⟩ : ByteArray).toList from by kernel_rfl, bytes_eq_iff]; exact decide_eq_true h1
          clear h1
          go_wp2_with fail
          refine (wordr HNX.out s).mono ?_
          rintro e w3 ⟨rfl, hf2⟩
          rw [HT.out]
          have HB2 := kn (Lib.hid hf2) hB
          have HF2 := Lib.hid (hf.out.then hf2)
          clear hf2 hB hf
          cases hz : wordB t s with
          | true =>
            have HV : Hid (s = t.text ∧ s ≠ nob) := Lib.hid ⟨wordB_text hz, HS.out.1⟩
            have HV2 : Hid (seesB t (Gr.ops k) = true) := Lib.hid (by rw [HLk.out, HDR.out, word_sees (HLT.out), hz]; rfl)
            have d0 : w3.cell? ⟨gB, i, none⟩ = some (.string s) := by
              rw [cell_of HB2.out i, List.getElem?_toArray, List.getElem?_map, HIX.out]
              rfl
            clear hz HLT
            go_wp2_with fail
            go_ret
            exact ⟨_, rfl, (fun _ => HV.out), (fun h => by rw [HV2.out] at h; cases h), HF2.out⟩
          | false =>
            have HE : Hid (seesB t L = (L.drop (i + 1)).any fun s => seesB t [s]) := Lib.hid (by rw [HDR.out, word_sees (HLT.out), hz]; rfl)
            clear hz HLT
            go_wp2_with fail
            exact ⟨⟨i + 1, by omega, by go_num, HB2, HF2, HE⟩, by simp [intOf]; omega⟩
        · by_cases h2 : s = ⟨#[109, 111, 100]⟩
          · have hl : letterB s = true := HS.out.2.2 (.inr h2)
            have HLT := Lib.hid hl
            clear hl
            have hq1 : (s.toList == ([100, 105, 118] : List UInt8)) = false := by rw [show ([100, 105, 118] : List UInt8) = (⟨#[100, 105, 118]⟩ : ByteArray).toList from by kernel_rfl, bytes_eq_iff]; exact decide_eq_false h1
            have hq2 : (s.toList == ([109, 111, 100] : List UInt8)) = true := by rw [show ([109, 111, 100] : List UInt8) = (⟨#[109, 111, 100]⟩ : ByteArray).toList from by kernel_rfl, bytes_eq_iff]; exact decide_eq_true h2
            clear h1 h2
            go_wp2_with fail
            refine (wordr HNX.out s).mono ?_
            rintro e w3 ⟨rfl, hf2⟩
            rw [HT.out]
            have HB2 := kn (Lib.hid hf2) hB
            have HF2 := Lib.hid (hf.out.then hf2)
            clear hf2 hB hf
            cases hz : wordB t s with
            | true =>
              have HV : Hid (s = t.text ∧ s ≠ nob) := Lib.hid ⟨wordB_text hz, HS.out.1⟩
              have HV2 : Hid (seesB t (Gr.ops k) = true) := Lib.hid (by rw [HLk.out, HDR.out, word_sees (HLT.out), hz]; rfl)
              have d0 : w3.cell? ⟨gB, i, none⟩ = some (.string s) := by
                rw [cell_of HB2.out i, List.getElem?_toArray, List.getElem?_map, HIX.out]
                rfl
              clear hz HLT
              go_wp2_with fail
              go_ret
              exact ⟨_, rfl, (fun _ => HV.out), (fun h => by rw [HV2.out] at h; cases h), HF2.out⟩
            | false =>
              have HE : Hid (seesB t L = (L.drop (i + 1)).any fun s => seesB t [s]) := Lib.hid (by rw [HDR.out, word_sees (HLT.out), hz]; rfl)
              clear hz HLT
              go_wp2_with fail
              exact ⟨⟨i + 1, by omega, by go_num, HB2, HF2, HE⟩, by simp [intOf]; omega⟩
          · have hl : letterB s = false := by
              cases hc : letterB s with
              | false => rfl
              | true => rcases HS.out.2.1 hc with h | h
                        · exact absurd h h1
                        · exact absurd h h2
            have HLT := Lib.hid hl
            clear hl
            have hq1 : (s.toList == ([100, 105, 118] : List UInt8)) = false := by rw [show ([100, 105, 118] : List UInt8) = (⟨#[100, 105, 118]⟩ : ByteArray).toList from by kernel_rfl, bytes_eq_iff]; exact decide_eq_false h1
            have hq2 : (s.toList == ([109, 111, 100] : List UInt8)) = false := by rw [show ([109, 111, 100] : List UInt8) = (⟨#[109, 111, 100]⟩ : ByteArray).toList from by kernel_rfl, bytes_eq_iff]; exact decide_eq_false h2
            clear h1 h2
            go_wp2_with fail
            refine (signr HNX.out s).mono ?_
            rintro e w3 ⟨rfl, hf2⟩
            rw [HT.out]
            have HB2 := kn (Lib.hid hf2) hB
            have HF2 := Lib.hid (hf.out.then hf2)
            clear hf2 hB hf
            cases hz : signB t s with
            | true =>
              have HV : Hid (s = t.text ∧ s ≠ nob) := Lib.hid ⟨signB_text hz, HS.out.1⟩
              have HV2 : Hid (seesB t (Gr.ops k) = true) := Lib.hid (by rw [HLk.out, HDR.out, sign_sees (HLT.out), hz]; rfl)
              have d0 : w3.cell? ⟨gB, i, none⟩ = some (.string s) := by
                rw [cell_of HB2.out i, List.getElem?_toArray, List.getElem?_map, HIX.out]
                rfl
              clear hz HLT
              go_wp2_with fail
              go_ret
              exact ⟨_, rfl, (fun _ => HV.out), (fun h => by rw [HV2.out] at h; cases h), HF2.out⟩
            | false =>
              have HE : Hid (seesB t L = (L.drop (i + 1)).any fun s => seesB t [s]) := Lib.hid (by rw [HDR.out, sign_sees (HLT.out), hz]; rfl)
              clear hz HLT
              go_wp2_with fail
              exact ⟨⟨i + 1, by omega, by go_num, HB2, HF2, HE⟩, by simp [intOf]; omega⟩
end Go.Proofs.YtjabhmepafofmaaGreatDoor
