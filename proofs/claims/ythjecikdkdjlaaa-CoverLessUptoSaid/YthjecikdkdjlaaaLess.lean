/- The law CoverLess: the walk. -/
import Derived.Test.YthjecikdkdjlaaaAn
import Derived.Test.YthjecikdkdjlaaaOp
import Derived.Deep.CutRange
namespace Go.Proofs.Ythjecikdkdjlaaa
open Go.RowKit

theorem Row.take {B0 : Nat} {ok : Nat → Prop} {w : World} {a : Option Addr} {l : List T} (k : Nat) (h : Row B0 ok w a 0 l) : Row B0 ok w a 0 (l.take k) :=
  Row.of_at 0 _ fun j t hj => Row.at_ 0 l h j t (by
    rw [List.getElem?_take] at hj
    split at hj
    · exact hj
    · cases hj)
theorem Row.drop {B0 : Nat} {ok : Nat → Prop} {w : World} {b off : Nat} {l : List T} (k : Nat) (h : Row B0 ok w (some ⟨b, off, none⟩) 0 l) : Row B0 ok w (some ⟨b, off + k * 4, none⟩) 0 (l.drop k) :=
  Row.of_at 0 _ fun j t hj => by
    rw [List.getElem?_drop] at hj
    obtain ⟨b', off', c0, c1, c2, c3, e, h1, h2, h3, h4, h5, h6, h7⟩ := Row.at_ 0 l h (k + j) t hj
    cases e
    rw [show off + (0 + (k + j)) * 4 = off + k * 4 + (0 + j) * 4 by omega] at h3 h4 h5 h6
    exact ⟨b, off + k * 4, c0, c1, c2, c3, rfl, h1, h2, h3, h4, h5, h6, h7⟩
set_option maxHeartbeats 1000000 in
set_option maxRecDepth 100000 in
theorem less_law_any (l : List T) (n cap : Nat) (a : Option Addr) (x : Int) (hx : (Lit.int .u8 x).wf = true) (w : World) (hn : l.length = n) (hP : partsL l ≤ 1048000) (hfair : FairL l) (hnone : a = none → cap = 0 ∧ l = []) (hcap : n ≤ cap) (hrow : Row w.heap.size (fun _ => True) w a 0 l) :
    Calls Try.prog 6 #[.slice a n cap, .int .u8 x] w (SaidT w true) := by
  have HCK : Hid (∀ (l' : List T) (a' : Option Addr) (n' cap' g : Nat) (wh : Bool) (w' : World), l'.length = n' → partsL l' ≤ 1048576 → wfL infos18 l' → Row w.heap.size (fun _ => True) w' a' 0 l' → Infs w' (some ⟨g, 0, none⟩) infos18 → Fr No w w' → Calls Try.prog 11 #[.slice a' n' cap', .slice (some ⟨g, 0, none⟩) 8 8, .bool wh] w' (SaidI w' (checkP infos18 l' wh))) :=
    Lib.hid (fun l' a' n' cap' g wh w' h1 h2 h3 h4 h5 h6 => check_any w.heap.size infos18 l' n' cap' 8 8 a' _ wh w' h1 rfl (by omega) (by omega) h3 h4 h5 h6.size)
  have HLG : Hid (∀ w', Fr No w w' → Calls Try.prog 9 #[.slice a n cap, .slice none 0 0] w' (SaidT w' (largeP l 0))) := Lib.hid (fun w' hf => large_any w.heap.size l n cap 0 0 a none w' hn (by omega) (by omega) (row_keepNo hrow hf))
  have HWF : Hid (wfL infos18 l) := Lib.hid (wfL_of_fair of18 l hfair (by omega))
  have HN := Lib.hid hn
  have hpn : n ≤ 1048000 := by have := partsL_len l; omega
  have HP := Lib.hid hP
  have HROW := Lib.hid hrow
  have hx0 : 0 ≤ x ∧ x ≤ 255 := by simpa [Lit.wf, IntKind.min, IntKind.max, IntKind.signed, IntKind.bits] using hx
  obtain ⟨xn, rfl⟩ : ∃ xn : Nat, x = xn := ⟨x.toNat, by omega⟩
  have hxn : xn ≤ 255 := by omega
  have HNN := Lib.hid hnone
  clear hfair hrow hP hx hx0 hnone hn
  go_enter Try.func6, Try.ntmps6
  go_wp2_with fail
  refine (HLG.out _ (Fr.refl _ _)).mono ?_
  rintro e w1 ⟨rfl, hf⟩
  have HF := Lib.hid hf
  clear hf HLG
  cases hlg : largeP l 0 with
  | true =>
    clear hlg
    go_wp2_with fail
    refine (works_any _).mono ?_
    rintro e w2 ⟨rfl, hf2⟩
    have HF2 := Lib.hid (HF.out.then hf2)
    clear hf2
    go_wp2_with fail
    go_ret
    exact ⟨rfl, HF2.out⟩
  | false =>
    clear hlg
    by_cases hn0 : n = 0
    · subst hn0
      go_wp2_with fail
      refine (works_any _).mono ?_
      rintro e w2 ⟨rfl, hf2⟩
      have HF2 := Lib.hid (HF.out.then hf2)
      clear hf2
      go_wp2_with fail
      go_ret
      exact ⟨rfl, HF2.out⟩
    have hn0' : ((n : Int) == 0) = false := by simp only [beq_eq_false_iff_ne, ne_eq]; omega
    obtain ⟨b, off, ha⟩ : ∃ b off, a = some ⟨b, off, none⟩ := by
      obtain ⟨t, ht⟩ : ∃ t, l[0]? = some t := ⟨_, List.getElem?_eq_getElem (by rw [HN.out]; omega)⟩
      obtain ⟨b, off, _, _, _, _, e, _⟩ := Row.at_ 0 l HROW.out 0 t ht
      exact ⟨b, off, e⟩
    subst ha
    clear HNN
    go_wp2_with fail
    refine (infos_any _).mono ?_
    rintro e w2 ⟨hf2, g2, rfl, hi2⟩
    have HF2 := Lib.hid (HF.out.then hf2)
    have HI2 := Lib.hid hi2
    clear hf2 hi2
    go_wp2_with fail
    refine (HCK.out l _ n cap g2 false w2 HN.out (by have := HP.out; omega) HWF.out (row_keepNo HROW.out HF2.out) HI2.out HF2.out).mono ?_
    rintro e w3 ⟨rfl, hf3⟩
    have HF3 := Lib.hid (HF2.out.then hf3)
    clear hf3 HI2
    obtain ⟨c0, hc0⟩ : ∃ c0, checkP infos18 l false = c0 := ⟨_, rfl⟩
    rw [hc0]
    by_cases h0 : c0 = 0
    · subst h0
      obtain ⟨k, hk⟩ : ∃ k, xn % n = k := ⟨_, rfl⟩
      have hkn : k < n := by rw [← hk]; exact Nat.mod_lt _ (by omega)
      have HLAW := Lib.hid (less_law hc0 k)
      have hmod : Int.tmod (xn : Int) (n : Int) = (k : Int) := by rw [← hk]; rfl
      have hwx : IntKind.i64.wrap (xn : Int) = (xn : Int) := by rw [IntKind.wrap_i64]; omega
      have hwk : IntKind.i64.wrap (k : Int) = (k : Int) := by rw [IntKind.wrap_i64]; omega
      have HLT : Hid ((l.take k).length = k) := Lib.hid (by rw [List.length_take, HN.out]; omega)
      have HLD : Hid ((l.drop (k + 1)).length = n - (k + 1)) := Lib.hid (by rw [List.length_drop, HN.out])
      have HRT := Lib.hid (HROW.out.take k)
      have HRD := Lib.hid (HROW.out.drop (k + 1))
      have hwk1 : IntKind.i64.wrap ((k : Int) + 1) = (k : Int) + 1 := by rw [IntKind.wrap_i64]; omega
      have hkt : ((k : Int) + 1).toNat = k + 1 := by omega
      have hk1 : (0 : Int) ≤ (k : Int) + 1 := by omega
      have hk2 : (k : Int) + 1 ≤ (n : Int) := by omega
      clear hc0 hk
      go_upto_region 6 with (at_builtin; refine wpList_patN rfl (.tmp 26) (.tmp 29) rfl w.heap.size w.heap.size w (.slice none 0 0) [] rfl (OutP.nil _ _ _ _) (some ⟨b, off, none⟩) k cap rfl (l.take k) HLT.out (fun e => by cases e) HRT.out HF3.out k (Nat.zero_add k) (by omega) HF3.out.size ?_; rw [List.nil_append]; intro a7 c7 w7 HO7 HFB7)
      have HF7 : Hid (Fr No w w7) := Lib.hid (HF3.out.own HFB7.out (fun i h => h))
      clear HFB7
      go_cut [6] from 31 to 36 (fun v wx => ∃ a8 c8, v = .slice a8 (n - 1) c8 ∧ Hid (OutP w.heap.size w.heap.size w wx (.slice a8 (n - 1) c8) (l.take k ++ l.drop (k + 1))) ∧ Hid (Fr No w wx))
      case first =>
        by_cases hck : cap = k + 1
        · have hdn : Hid (l.drop (k + 1) = []) := Lib.hid (List.drop_eq_nil_of_le (by have := HN.out; omega))
          have hnk : n = k + 1 := by omega
          subst hck hnk
          go_wp2_with (at_builtin; refine wpList_patN rfl (.tmp 31) (.tmp 35) rfl w.heap.size w.heap.size w (.slice a7 k c7) (l.take k) rfl HO7.out (some ⟨b, off, none⟩) 0 0 rfl [] rfl (fun e => by cases e) (by simp [Row]) HF7.out k (by rw [HLT.out]; rfl) (by omega) HF7.out.size ?_; intro a8 c8 w8 HO8 HFB8)
          go_meet
          exact ⟨a8, c8, rfl, Lib.hid (by rw [hdn.out]; exact HO8.out), Lib.hid (HF7.out.own HFB8.out (fun i h => h))⟩
        · go_wp2_with (at_builtin; refine wpList_patN rfl (.tmp 31) (.tmp 35) rfl w.heap.size w.heap.size w (.slice a7 k c7) (l.take k) rfl HO7.out (some ⟨b, off + (k + 1) * 4, none⟩) (n - (k + 1)) (cap - (k + 1)) rfl (l.drop (k + 1)) HLD.out (fun e => by cases e) HRD.out HF7.out (n - 1) (by rw [HLT.out]; omega) (by omega) HF7.out.size ?_; intro a8 c8 w8 HO8 HFB8)
          go_meet
          exact ⟨a8, c8, rfl, HO8, Lib.hid (HF7.out.own HFB8.out (fun i h => h))⟩
      case rest =>
        obtain ⟨a8, c8, rfl, HO8, HF8⟩ := hcut
        go_upto_region 7 with fail
        have hkc : k ≤ cap := by omega
        have E1 := Lib.hid HLAW.out.1
        have E2 := Lib.hid HLAW.out.2
        have HL8 : Hid ((l.take k ++ l.drop (k + 1)).length = n - 1) := Lib.hid (by rw [List.length_append, HLT.out, HLD.out]; omega)
        have HP8 : Hid (partsL (l.take k ++ l.drop (k + 1)) ≤ 1048576) := Lib.hid (by have := (partsL_sub (l := l) k).2; have := HP.out; omega)
        have HPT : Hid (partsL (l.take k) ≤ 1048576) := Lib.hid (by have := (partsL_sub (l := l) k).1; have := HP.out; omega)
        have HWFT : Hid (wfL infos18 (l.take k)) := Lib.hid (wfL_mem.2 fun p hp => wfL_mem.1 HWF.out p (List.mem_of_mem_take hp))
        have HWF8 : Hid (wfL infos18 (l.take k ++ l.drop (k + 1))) := Lib.hid (wfL_mem.2 fun p hp => by
          rcases List.mem_append.1 hp with hp | hp
          · exact wfL_mem.1 HWF.out p (List.mem_of_mem_take hp)
          · exact wfL_mem.1 HWF.out p (List.mem_of_mem_drop hp))
        have HR8 : Hid (∀ w', Fr No wc w' → Row w.heap.size (fun _ => True) w' a8 0 (l.take k ++ l.drop (k + 1))) := Lib.hid (fun w' hf => by
          obtain ⟨a', c', e, _, h⟩ := HO8.out.row HF8.out
          rw [HL8.out] at e
          cases e
          exact row_keepNo h hf)
        clear HLAW HWF HP HO8 HO7 HRD HLD HF7 HF3 HF2 HF hkt hk1 hk2 hwk1 hwx hwk hmod
        refine region_e (fun _ => True) [] (by kernel_rfl) ?_ (fun hHeld => ?_)
        · trivial
        refine take_op 0 (some 37) (Op.move ( .tmp 6)) 22 ?_ (by kernel_rfl) (by kernel_rfl) (by kernel_rfl) (fun _ _ _ h => h) ?_ (by assumption) ?_
        rotate_left
        · intro w hSw; (try dsimp only at hSw); go_simp; (try (with_reducible rfl))
        try simp only [Act.put, List.setIfInBounds_toArray, List.set_cons_zero, List.set_cons_succ]
        refine ready_e (rs := [1]) (by kernel_rfl) (by simp) ?_
        refine (do_mid (o := _) rfl (fun K hK => ?_) none_e) -- [(38, 'F16')]
        go_simp
        go_at_call 16
        refine (infos_any _).mono ?_
        rintro e' wz1 ⟨hf, g_1, rfl, hi⟩
        have HZ1 : Hid (Fr No wc wz1) := Lib.hid (((Fr.drew wc)).then hf)
        have DZ1 : Hid (Fr No (wc.drew) wz1) := Lib.hid hf
        have I_1 := Lib.hid hi
        clear hf hi
        refine hK.out _ _ ?_ (fun hHeld => ?_)
        · trivial
        clear hK K
        try dsimp only
        try simp only [Act.put, List.setIfInBounds_toArray, List.set_cons_zero, List.set_cons_succ]
        refine ready_e (rs := [2]) (by kernel_rfl) (by simp) ?_
        refine (do_mid (o := _) rfl (fun K hK => ?_) none_e) -- [(39, 'F11')]
        go_simp
        go_at_call 11
        refine (HCK.out (l.take k ++ l.drop (k + 1)) a8 (n - 1) c8 _ false wz1 HL8.out HP8.out HWF8.out (HR8.out _ (HZ1.out)) (I_1.out.no (Fr.refl _ _)) (HF8.out.then (HZ1.out))).mono ?_
        rintro e' wz2 ⟨rfl, hf⟩
        have HZ2 : Hid (Fr No wc wz2) := Lib.hid ((HZ1.out).then hf)
        have DZ2 : Hid (Fr No (wz1) wz2) := Lib.hid hf
        clear hf
        rw [E1.out]
        refine hK.out _ _ ?_ (fun hHeld => ?_)
        · trivial
        clear hK K
        try dsimp only
        try simp only [Act.put, List.setIfInBounds_toArray, List.set_cons_zero, List.set_cons_succ]
        refine take_op 3 (some 40) (Op.binOp BinOp.eql 26 ( .tmp 39) ( .const (.int .i64 0)) 26) 4 ?_ (by kernel_rfl) (by kernel_rfl) (by kernel_rfl) (fun _ _ _ h => h) ?_ (by assumption) ?_
        rotate_left
        · intro w hSw; (try dsimp only at hSw); go_simp; (try (with_reducible rfl))
        try simp only [Act.put, List.setIfInBounds_toArray, List.set_cons_zero, List.set_cons_succ]
        refine take_op 4 (some 41) (Op.move ( .tmp 40)) 4 ?_ (by kernel_rfl) (by kernel_rfl) (by kernel_rfl) (fun _ _ _ h => h) ?_ (by assumption) ?_
        rotate_left
        · intro w hSw; (try dsimp only at hSw); go_simp; (try (with_reducible rfl))
        try simp only [Act.put, List.setIfInBounds_toArray, List.set_cons_zero, List.set_cons_succ]
        refine take_op 5 (some 42) (Op.move ( .tmp 0)) 22 ?_ (by kernel_rfl) (by kernel_rfl) (by kernel_rfl) (fun _ _ _ h => h) ?_ (by assumption) ?_
        rotate_left
        · intro w hSw; (try dsimp only at hSw); go_simp; (try (with_reducible rfl))
        try simp only [Act.put, List.setIfInBounds_toArray, List.set_cons_zero, List.set_cons_succ]
        refine take_op 6 (some 43) (Op.move ( .tmp 5)) 3 ?_ (by kernel_rfl) (by kernel_rfl) (by kernel_rfl) (fun _ _ _ h => h) ?_ (by assumption) ?_
        rotate_left
        · intro w hSw; (try dsimp only at hSw); go_simp; (try (with_reducible rfl))
        try simp only [Act.put, List.setIfInBounds_toArray, List.set_cons_zero, List.set_cons_succ]
        refine take_op 7 (some 44) (Op.slice 22 ( .tmp 42) none (some ( .tmp 43)) none) 22 ?_ (by kernel_rfl) (by kernel_rfl) (by kernel_rfl) (fun _ _ _ h => h) ?_ (by assumption) ?_
        rotate_left
        · intro w hSw; (try dsimp only at hSw); go_simp; (try (with_reducible rfl))
        try simp only [Act.put, List.setIfInBounds_toArray, List.set_cons_zero, List.set_cons_succ]
        refine ready_e (rs := [8]) (by kernel_rfl) (by simp) ?_
        refine (do_mid (o := _) rfl (fun K hK => ?_) none_e) -- [(45, 'F16')]
        go_simp
        go_at_call 16
        refine (infos_any _).mono ?_
        rintro e' wz3 ⟨hf, g_3, rfl, hi⟩
        have HZ3 : Hid (Fr No wc wz3) := Lib.hid ((HZ2.out).then hf)
        have DZ3 : Hid (Fr No (wz2) wz3) := Lib.hid hf
        have I_3 := Lib.hid hi
        clear hf hi
        refine hK.out _ _ ?_ (fun hHeld => ?_)
        · trivial
        clear hK K
        try dsimp only
        try simp only [Act.put, List.setIfInBounds_toArray, List.set_cons_zero, List.set_cons_succ]
        refine ready_e (rs := [9]) (by kernel_rfl) (by simp) ?_
        refine (do_mid (o := _) rfl (fun K hK => ?_) none_e) -- [(46, 'F11')]
        go_simp
        go_at_call 11
        refine (HCK.out (l.take k) (some ⟨b, off, none⟩) k cap _ false wz3 HLT.out HPT.out HWFT.out (row_keepNo HRT.out (HF8.out.then (HZ3.out))) (I_3.out.no (Fr.refl _ _)) (HF8.out.then (HZ3.out))).mono ?_
        rintro e' wz4 ⟨rfl, hf⟩
        have HZ4 : Hid (Fr No wc wz4) := Lib.hid ((HZ3.out).then hf)
        have DZ4 : Hid (Fr No (wz3) wz4) := Lib.hid hf
        clear hf
        rw [E2.out]
        refine hK.out _ _ ?_ (fun hHeld => ?_)
        · trivial
        clear hK K
        try dsimp only
        try simp only [Act.put, List.setIfInBounds_toArray, List.set_cons_zero, List.set_cons_succ]
        refine take_op 10 (some 47) (Op.binOp BinOp.eql 26 ( .tmp 46) ( .const (.int .i64 0)) 26) 4 ?_ (by kernel_rfl) (by kernel_rfl) (by kernel_rfl) (fun _ _ _ h => h) ?_ (by assumption) ?_
        rotate_left
        · intro w hSw; (try dsimp only at hSw); go_simp; (try (with_reducible rfl))
        try simp only [Act.put, List.setIfInBounds_toArray, List.set_cons_zero, List.set_cons_succ]
        refine take_op 11 (some 48) (Op.pick ( .tmp 41) ( .tmp 47) ( .const (Value.bool false))) 4 ?_ (by kernel_rfl) (by kernel_rfl) (by kernel_rfl) (fun _ _ _ h => h) ?_ (by assumption) ?_
        rotate_left
        · intro w hSw; (try dsimp only at hSw); go_simp; (try (with_reducible rfl))
        try simp only [Act.put, List.setIfInBounds_toArray, List.set_cons_zero, List.set_cons_succ]
        refine take_op 12 (some 49) (Op.move ( .tmp 48)) 4 ?_ (by kernel_rfl) (by kernel_rfl) (by kernel_rfl) (fun _ _ _ h => h) ?_ (by assumption) ?_
        rotate_left
        · intro w hSw; (try dsimp only at hSw); go_simp; (try (with_reducible rfl))
        try simp only [Act.put, List.setIfInBounds_toArray, List.set_cons_zero, List.set_cons_succ]
        refine ready_e (rs := [13]) (by kernel_rfl) (by simp) ?_
        refine (do_mid (o := _) rfl (fun K hK => ?_) none_e) -- [(50, 'F10')]
        go_simp
        go_at_call 10
        refine (works_any _).mono ?_
        rintro e' wz5 ⟨rfl, hf⟩
        have HZ5 : Hid (Fr No wc wz5) := Lib.hid ((HZ4.out).then hf)
        have DZ5 : Hid (Fr No (wz4) wz5) := Lib.hid hf
        clear hf
        refine hK.out _ _ ?_ (fun hHeld => ?_)
        · trivial
        clear hK K
        try dsimp only
        try simp only [Act.put, List.setIfInBounds_toArray, List.set_cons_zero, List.set_cons_succ]
        refine take_op 14 (some 51) (Op.pick ( .tmp 49) ( .tmp 50) ( .const (Value.bool false))) 4 ?_ (by kernel_rfl) (by kernel_rfl) (by kernel_rfl) (fun _ _ _ h => h) ?_ (by assumption) ?_
        rotate_left
        · intro w hSw; (try dsimp only at hSw); go_simp; (try (with_reducible rfl))
        try simp only [Act.put, List.setIfInBounds_toArray, List.set_cons_zero, List.set_cons_succ]
        refine take_op 15 (some 4) (Op.assign ( .tmp 51)) 4 ?_ (by kernel_rfl) (by kernel_rfl) (by kernel_rfl) (fun _ _ _ h => h) ?_ (by assumption) ?_
        rotate_left
        · intro w hSw; (try dsimp only at hSw); go_simp; (try (with_reducible rfl))
        try simp only [Act.put, List.setIfInBounds_toArray, List.set_cons_zero, List.set_cons_succ]
        refine done_e (by kernel_rfl) ?_ _
        (try simp only [Exit.inBlock, Exit.then])
        go_wp2_with fail
        go_ret
        exact ⟨rfl, HF8.out.then (HZ5.out)⟩
    · have hd : (c0 != 0) = true := by simpa using h0
      clear h0 hc0
      go_wp2_with fail
      refine (works_any _).mono ?_
      rintro e w5 ⟨rfl, hf5⟩
      have HF5 := Lib.hid (HF3.out.then hf5)
      clear hf5
      go_wp2_with fail
      go_ret
      exact ⟨rfl, HF5.out⟩
end Go.Proofs.Ythjecikdkdjlaaa
