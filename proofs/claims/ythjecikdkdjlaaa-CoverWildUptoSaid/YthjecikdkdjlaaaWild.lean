/- The law CoverWild: the walk. -/
import Derived.Test.YthjecikdkdjlaaaAn
import Derived.Test.YthjecikdkdjlaaaOp
namespace Go.Proofs.Ythjecikdkdjlaaa
open Go.RowKit

set_option maxHeartbeats 8000000 in
set_option maxRecDepth 100000 in
theorem wild_law_any (l : List T) (n cap : Nat) (a : Option Addr) (w : World) (hn : l.length = n) (hP : partsL l ≤ 1048000) (hfair : FairL l) (hnone : a = none → cap = 0 ∧ l = []) (hrow : Row w.heap.size (fun _ => True) w a 0 l) :
    Calls Try.prog 5 #[.slice a n cap] w (SaidT w true) := by
  have HCK : Hid (∀ (l' : List T) (a' : Option Addr) (n' cap' g : Nat) (wh : Bool) (w' : World), l'.length = n' → partsL l' ≤ 1048576 → wfL infos18 l' → Row w.heap.size (fun _ => True) w' a' 0 l' → Infs w' (some ⟨g, 0, none⟩) infos18 → Fr No w w' → Calls Try.prog 11 #[.slice a' n' cap', .slice (some ⟨g, 0, none⟩) 8 8, .bool wh] w' (SaidI w' (checkP infos18 l' wh))) :=
    Lib.hid (fun l' a' n' cap' g wh w' h1 h2 h3 h4 h5 h6 => check_any w.heap.size infos18 l' n' cap' 8 8 a' _ wh w' h1 rfl (by omega) (by omega) h3 h4 h5 h6.size)
  have HRW : Hid (∀ w', Fr No w w' → Row w.heap.size (fun _ => True) w' a 0 l) := Lib.hid (fun w' hf => row_keepNo hrow hf)
  have HLG : Hid (∀ w', Fr No w w' → Calls Try.prog 9 #[.slice a n cap, .slice none 0 0] w' (SaidT w' (largeP l 0))) := Lib.hid (fun w' hf => large_any w.heap.size l n cap 0 0 a none w' hn (by omega) (by omega) (row_keepNo hrow hf))
  have HCT : Hid (∀ w', Fr No w w' → Calls Try.prog 17 #[.slice a n cap] w' (SaidI w' (partsL l))) := Lib.hid (fun w' hf => rcount_any w.heap.size (partsL l) l (Nat.le_refl _) (by omega) a cap n w' hn (row_keepNo hrow hf))
  have HWF : Hid (wfL infos18 l) := Lib.hid (wfL_of_fair of18 l hfair (by omega))
  have HNN := Lib.hid hnone
  have HN := Lib.hid hn
  have hpn : n ≤ 1048000 := by have := partsL_len l; omega
  have HP := Lib.hid hP
  have HROW := Lib.hid hrow
  clear hn hfair hnone hrow hP
  go_enter Try.func5, Try.ntmps5
  go_wp2_with fail
  refine (HLG.out _ (Fr.refl _ _)).mono ?_
  rintro e w1 ⟨rfl, hf⟩
  have HF := Lib.hid hf
  clear hf HLG
  cases hlg : largeP l 0 with
  | true =>
    clear hlg
    go_wp2_with fail
    refine (works_any _).mono ?_
    rintro e w2 ⟨rfl, hf2⟩
    have HF2 := Lib.hid (HF.out.then hf2)
    clear hf2
    go_wp2_with fail
    go_ret
    exact ⟨rfl, HF2.out⟩
  | false =>
    clear hlg
    go_wp2_with fail
    refine (infos_any _).mono ?_
    rintro e w2 ⟨hf2, g2, rfl, hi2⟩
    have HF2 := Lib.hid (HF.out.then hf2)
    have HI2 := Lib.hid hi2
    clear hf2 hi2
    go_wp2_with fail
    refine (HCK.out l a n cap g2 false w2 HN.out (by have := HP.out; omega) HWF.out (HRW.out _ HF2.out) HI2.out HF2.out).mono ?_
    rintro e w3 ⟨rfl, hf3⟩
    have HF3 := Lib.hid (HF2.out.then hf3)
    clear hf3 HI2
    obtain ⟨c0, hc0⟩ : ∃ c0, checkP infos18 l false = c0 := ⟨_, rfl⟩
    rw [hc0]
    by_cases h0 : c0 = 0
    · subst h0
      have HC0 := Lib.hid hc0
      clear hc0
      go_wp2_with fail
      refine (HCT.out _ HF3.out).mono ?_
      rintro e w4 ⟨rfl, hf4⟩
      have HF4 := Lib.hid (HF3.out.then hf4)
      clear hf4
      by_cases h198 : 198 < partsL l
      · have hd : decide ((198 : Int) < (partsL l : Int)) = true := decide_eq_true (by omega)
        clear h198
        go_wp2_with fail
        refine (works_any _).mono ?_
        rintro e w5 ⟨rfl, hf5⟩
        have HF5 := Lib.hid (HF4.out.then hf5)
        clear hf5
        go_wp2_with fail
        go_ret
        exact ⟨rfl, HF5.out⟩
      · have hd : decide ((198 : Int) < (partsL l : Int)) = false := decide_eq_false (by omega)
        have HLAW := Lib.hid (wild_law HC0.out (by omega))
        have HP2 : Hid (partsL l ≤ 198) := Lib.hid (by omega)
        have hn198 : n ≤ 198 := by
          have := partsL_len l
          have := HN.out
          omega
        clear h198
        go_wp2_with fail
        refine (infos_any _).mono ?_
        rintro e w5 ⟨hf5, g5, rfl, hi5⟩
        have HF5 := Lib.hid (HF4.out.then hf5)
        have HI5 := Lib.hid hi5
        clear hf5 hi5
        go_wp2_with fail
        refine (HCK.out l a n cap g5 true w5 HN.out (by have := HP.out; omega) HWF.out (HRW.out _ HF5.out) HI5.out HF5.out).mono ?_
        rintro e w6 ⟨rfl, hf6⟩
        have HF6 := Lib.hid (HF5.out.then hf6)
        clear hf6 HI5 HCT HRW
        obtain ⟨b, hb⟩ : ∃ b, checkP infos18 l true = b := ⟨_, rfl⟩
        rw [hb] at HLAW ⊢
        clear hb
        go_wp2_with (at_builtin; refine wpList_patN rfl _ _ rfl w.heap.size w.heap.size w (.slice none 0 0) [] rfl (OutP.nil _ _ _ _) a n cap rfl l HN.out HNN.out HROW.out HF6.out n (Nat.zero_add n) (by omega) HF6.out.size ?_; intro a7 c7 w7 HO7 HFB7)
        have HF7 : Hid (Fr No w w7) := Lib.hid (HF6.out.own HFB7.out (fun i h => h))
        have HLN7 := HN
        have HWF7 := HWF
        have HPX7 : Hid (partsL l ≤ 198) := HP2
        rw [List.nil_append] at HO7
        clear HFB7
        refine (wildf_any _).mono ?_
        rintro e w8 ⟨rfl, hf⟩
        have HF8 := Lib.hid (HF7.out.then hf)
        have HO8 := Lib.hid (HO7.out.no hf)
        clear hf
        go_wp2_with (at_builtin; refine wpList_pat1 rfl _ _ rfl w.heap.size w.heap.size w (.slice a7 n c7) l rfl (HO8.out.no (Fr.alloc _ _)) w8.heap.size 1 ⟨#[]⟩ 0 none 0 0 rfl (new_block w8 _) anyP (is_anyP w) (by rw [HLN7.out]; omega) (Nat.le_trans HF8.out.size (Fr.alloc _ (.cells #[.int .u8 1, .string ⟨#[]⟩, .int .i64 0, .slice none 0 0] 40)).size) ?_; rw [HLN7.out]; intro a9 c9 w9 HO9 HFB9)
        have HF9 : Hid (Fr No w w9) := Lib.hid ((HF8.out.then (Fr.alloc _ _)).own HFB9.out (fun i h => h.1))
        have HLN9 : Hid ((l ++ [anyP]).length = n + 1) := Lib.hid (by rw [List.length_append, HLN7.out]; rfl)
        have HRW9 : Hid (∀ w', Fr No w9 w' → Row w.heap.size (fun _ => True) w' a9 0 (l ++ [anyP])) := Lib.hid (fun w' hf => by
          obtain ⟨a', c', e, _, h⟩ := HO9.out.row HF9.out
          rw [HLN9.out] at e
          cases e
          exact row_keepNo h hf)
        have HWF9 : Hid (wfL infos18 (l ++ [anyP])) := Lib.hid (wfL_mem.2 fun p hp => by
          rcases List.mem_append.1 hp with hp | hp
          · exact wfL_mem.1 HWF7.out p hp
          · rw [List.mem_singleton.1 hp]
            exact wf_any18)
        have HPP9 : Hid (partsL (l ++ [anyP]) ≤ 1048576) := Lib.hid (by rw [partsL_anyP]; have := HPX7.out; omega)
        have HPX9 : Hid (partsL (l ++ [anyP]) ≤ 200) := Lib.hid (by rw [partsL_anyP]; have := HPX7.out; omega)
        clear HFB9 HO8
        rcases HLAW.out with ⟨rfl, e1, e2, e3⟩ | ⟨rfl, e1, e3⟩
        · have E2 := Lib.hid e2
          clear e2
          clear HLAW
          have E1 := Lib.hid e1
          have E3 := Lib.hid e3
          clear e1 e3
          refine (infos_any _).mono ?_
          rintro e w10 ⟨hf, g10, rfl, hi⟩
          have HF10 := Lib.hid (HF9.out.then hf)
          have HI10 := Lib.hid hi
          have HD10 : Hid (Fr No w9 w10) := Lib.hid (hf)
          clear hf hi
          go_wp2_with fail
          refine (HCK.out (l ++ [anyP]) a9 (n + 1) c9 g10 false w10 HLN9.out HPP9.out HWF9.out (HRW9.out _ HD10.out) HI10.out HF10.out).mono ?_
          rintro e w11 ⟨rfl, hf⟩
          have HF11 := Lib.hid (HF10.out.then hf)
          have HD11 : Hid (Fr No w9 w11) := Lib.hid (HD10.out.then hf)
          clear hf
          rw [E1.out]
          go_wp2_with fail
          refine (infos_any _).mono ?_
          rintro e w12 ⟨hf, g12, rfl, hi⟩
          have HF12 := Lib.hid (HF11.out.then hf)
          have HI12 := Lib.hid hi
          have HD12 : Hid (Fr No w9 w12) := Lib.hid ((HD11.out.then hf))
          clear hf hi
          go_wp2_with fail
          refine (HCK.out (l ++ [anyP]) a9 (n + 1) c9 g12 true w12 HLN9.out HPP9.out HWF9.out (HRW9.out _ HD12.out) HI12.out HF12.out).mono ?_
          rintro e w13 ⟨rfl, hf⟩
          have HF13 := Lib.hid (HF12.out.then hf)
          have HD13 : Hid (Fr No w9 w13) := Lib.hid (HD12.out.then hf)
          clear hf
          rw [E2.out]
          go_wp2_with fail
          have HO13 := Lib.hid (HO9.out.no HD13.out)
          refine (wildf_any _).mono ?_
          rintro e w14 ⟨rfl, hf⟩
          have HF14 := Lib.hid (HF13.out.then hf)
          have HO14 := Lib.hid (HO13.out.no hf)
          clear hf
          go_wp2_with (at_builtin; refine wpList_pat1 rfl _ _ rfl w.heap.size w.heap.size w (.slice a9 (n + 1) c9) (l ++ [anyP]) rfl (HO14.out.no (Fr.alloc _ _)) w14.heap.size 1 ⟨#[]⟩ 0 none 0 0 rfl (new_block w14 _) anyP (is_anyP w) (by rw [HLN9.out]; omega) (Nat.le_trans HF14.out.size (Fr.alloc _ (.cells #[.int .u8 1, .string ⟨#[]⟩, .int .i64 0, .slice none 0 0] 40)).size) ?_; rw [HLN9.out]; intro a15 c15 w15 HO15 HFB15)
          have HF15 : Hid (Fr No w w15) := Lib.hid ((HF14.out.then (Fr.alloc _ _)).own HFB15.out (fun i h => h.1))
          have HLN15 : Hid (((l ++ [anyP]) ++ [anyP]).length = (n + 1) + 1) := Lib.hid (by rw [List.length_append, HLN9.out]; rfl)
          have HRW15 : Hid (∀ w', Fr No w15 w' → Row w.heap.size (fun _ => True) w' a15 0 ((l ++ [anyP]) ++ [anyP])) := Lib.hid (fun w' hf => by
            obtain ⟨a', c', e, _, h⟩ := HO15.out.row HF15.out
            rw [HLN15.out] at e
            cases e
            exact row_keepNo h hf)
          have HWF15 : Hid (wfL infos18 ((l ++ [anyP]) ++ [anyP])) := Lib.hid (wfL_mem.2 fun p hp => by
            rcases List.mem_append.1 hp with hp | hp
            · exact wfL_mem.1 HWF9.out p hp
            · rw [List.mem_singleton.1 hp]
              exact wf_any18)
          have HPP15 : Hid (partsL ((l ++ [anyP]) ++ [anyP]) ≤ 1048576) := Lib.hid (by rw [partsL_anyP]; have := HPX9.out; omega)
          have HPX15 : Hid (partsL ((l ++ [anyP]) ++ [anyP]) ≤ 202) := Lib.hid (by rw [partsL_anyP]; have := HPX9.out; omega)
          clear HFB15 HO14
          refine (infos_any _).mono ?_
          rintro e w16 ⟨hf, g16, rfl, hi⟩
          have HF16 := Lib.hid (HF15.out.then hf)
          have HI16 := Lib.hid hi
          have HD16 : Hid (Fr No w15 w16) := Lib.hid (hf)
          clear hf hi
          go_wp2_with fail
          refine (HCK.out (l ++ [anyP] ++ [anyP]) a15 (n + 1 + 1) c15 g16 false w16 HLN15.out HPP15.out HWF15.out (HRW15.out _ HD16.out) HI16.out HF16.out).mono ?_
          rintro e w17 ⟨rfl, hf⟩
          have HF17 := Lib.hid (HF16.out.then hf)
          have HD17 : Hid (Fr No w15 w17) := Lib.hid (HD16.out.then hf)
          clear hf
          rw [E3.out]
          go_wp2_with fail
          refine (works_any _).mono ?_
          rintro e w18 ⟨rfl, hf18⟩
          have HF18 := Lib.hid (HF17.out.then hf18)
          clear hf18
          go_wp2_with fail
          go_ret
          exact ⟨rfl, HF18.out⟩
        · skip
          clear HLAW
          have E1 := Lib.hid e1
          have E3 := Lib.hid e3
          clear e1 e3
          refine (infos_any _).mono ?_
          rintro e w10 ⟨hf, g10, rfl, hi⟩
          have HF10 := Lib.hid (HF9.out.then hf)
          have HI10 := Lib.hid hi
          have HD10 : Hid (Fr No w9 w10) := Lib.hid (hf)
          clear hf hi
          go_wp2_with fail
          refine (HCK.out (l ++ [anyP]) a9 (n + 1) c9 g10 false w10 HLN9.out HPP9.out HWF9.out (HRW9.out _ HD10.out) HI10.out HF10.out).mono ?_
          rintro e w11 ⟨rfl, hf⟩
          have HF11 := Lib.hid (HF10.out.then hf)
          have HD11 : Hid (Fr No w9 w11) := Lib.hid (HD10.out.then hf)
          clear hf
          rw [E1.out]
          go_wp2_with fail
          have HO11 := Lib.hid (HO9.out.no HD11.out)
          refine (wildf_any _).mono ?_
          rintro e w12 ⟨rfl, hf⟩
          have HF12 := Lib.hid (HF11.out.then hf)
          have HO12 := Lib.hid (HO11.out.no hf)
          clear hf
          go_wp2_with (at_builtin; refine wpList_pat1 rfl _ _ rfl w.heap.size w.heap.size w (.slice a9 (n + 1) c9) (l ++ [anyP]) rfl (HO12.out.no (Fr.alloc _ _)) w12.heap.size 1 ⟨#[]⟩ 0 none 0 0 rfl (new_block w12 _) anyP (is_anyP w) (by rw [HLN9.out]; omega) (Nat.le_trans HF12.out.size (Fr.alloc _ (.cells #[.int .u8 1, .string ⟨#[]⟩, .int .i64 0, .slice none 0 0] 40)).size) ?_; rw [HLN9.out]; intro a13 c13 w13 HO13 HFB13)
          have HF13 : Hid (Fr No w w13) := Lib.hid ((HF12.out.then (Fr.alloc _ _)).own HFB13.out (fun i h => h.1))
          have HLN13 : Hid (((l ++ [anyP]) ++ [anyP]).length = (n + 1) + 1) := Lib.hid (by rw [List.length_append, HLN9.out]; rfl)
          have HRW13 : Hid (∀ w', Fr No w13 w' → Row w.heap.size (fun _ => True) w' a13 0 ((l ++ [anyP]) ++ [anyP])) := Lib.hid (fun w' hf => by
            obtain ⟨a', c', e, _, h⟩ := HO13.out.row HF13.out
            rw [HLN13.out] at e
            cases e
            exact row_keepNo h hf)
          have HWF13 : Hid (wfL infos18 ((l ++ [anyP]) ++ [anyP])) := Lib.hid (wfL_mem.2 fun p hp => by
            rcases List.mem_append.1 hp with hp | hp
            · exact wfL_mem.1 HWF9.out p hp
            · rw [List.mem_singleton.1 hp]
              exact wf_any18)
          have HPP13 : Hid (partsL ((l ++ [anyP]) ++ [anyP]) ≤ 1048576) := Lib.hid (by rw [partsL_anyP]; have := HPX9.out; omega)
          have HPX13 : Hid (partsL ((l ++ [anyP]) ++ [anyP]) ≤ 202) := Lib.hid (by rw [partsL_anyP]; have := HPX9.out; omega)
          clear HFB13 HO12
          refine (infos_any _).mono ?_
          rintro e w14 ⟨hf, g14, rfl, hi⟩
          have HF14 := Lib.hid (HF13.out.then hf)
          have HI14 := Lib.hid hi
          have HD14 : Hid (Fr No w13 w14) := Lib.hid (hf)
          clear hf hi
          go_wp2_with fail
          refine (HCK.out (l ++ [anyP] ++ [anyP]) a13 (n + 1 + 1) c13 g14 false w14 HLN13.out HPP13.out HWF13.out (HRW13.out _ HD14.out) HI14.out HF14.out).mono ?_
          rintro e w15 ⟨rfl, hf⟩
          have HF15 := Lib.hid (HF14.out.then hf)
          have HD15 : Hid (Fr No w13 w15) := Lib.hid (HD14.out.then hf)
          clear hf
          rw [E3.out]
          go_wp2_with fail
          refine (works_any _).mono ?_
          rintro e w16 ⟨rfl, hf16⟩
          have HF16 := Lib.hid (HF15.out.then hf16)
          clear hf16
          go_wp2_with fail
          go_ret
          exact ⟨rfl, HF16.out⟩
    · have hd : (c0 != 0) = true := by simpa using h0
      clear h0 hc0
      go_wp2_with fail
      refine (works_any _).mono ?_
      rintro e w5 ⟨rfl, hf5⟩
      have HF5 := Lib.hid (HF3.out.then hf5)
      clear hf5
      go_wp2_with fail
      go_ret
      exact ⟨rfl, HF5.out⟩
end Go.Proofs.Ythjecikdkdjlaaa
