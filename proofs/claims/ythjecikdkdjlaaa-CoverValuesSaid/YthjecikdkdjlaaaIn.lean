/- A row gone into by a pattern's head. -/
import Derived.Test.YthjecikdkdjlaaaRp
import Derived.Test.YthjecikdkdjlaaaRd
import Derived.Test.YthjecikdkdjlaaaWf
import Derived.Deep.CutBlock
import Derived.Test.YthjecikdkdjlaaaAp
namespace Go.Proofs.Ythjecikdkdjlaaa
open Go.RowKit Go.Shelf
attribute [local go_sem] Oper.semAt_some

/-- what into comes to, in the order of memory -/
def IntoSaid (base : Nat) (w : World) (r : Option (List T)) (e : Ending) (w' : World) : Prop :=
  Fr No w w' ∧ match r with
  | none => e = .returned (.tuple #[.slice none 0 0, .bool false])
  | some l => ∃ v, e = .returned (.tuple #[v, .bool true]) ∧ RowV base w' v l.reverse
def cellsP (w' : World) (g k : Nat) (s : ByteArray) (n : Int) (a : Option Addr) (m c : Nat) : Prop :=
  w'.cell? ⟨g, 0, none⟩ = some (.int .u8 k) ∧ w'.cell? ⟨g, 1, none⟩ = some (.string s) ∧ w'.cell? ⟨g, 2, none⟩ = some (.int .i64 n) ∧ w'.cell? ⟨g, 3, none⟩ = some (.slice a m c)
/-- heads are compared, part by part -/
theorem cmp_hd (x1 y1 : Nat) (x2 x3 y2 y3 : Int) (x4 x5 y4 y5 : ByteArray) (w : World) :
    (if (x1 : Int) = (y1 : Int) then if x2 = y2 then if x3 = y3 then if x4.toList = y4.toList then if x5.toList = y5.toList then Result.ok (Next.value (.bool false)) w
      else Result.ok (Next.value (.bool true)) w else Result.ok (Next.value (.bool true)) w else Result.ok (Next.value (.bool true)) w else Result.ok (Next.value (.bool true)) w else Result.ok (Next.value (.bool true)) w)
      = Result.ok (Next.value (.bool (!decide ((⟨x1, x2, x3, x4, x5⟩ : Hd) = ⟨y1, y2, y3, y4, y5⟩)))) w := by
  by_cases he : (⟨x1, x2, x3, x4, x5⟩ : Hd) = ⟨y1, y2, y3, y4, y5⟩
  · simp only [Hd.mk.injEq] at he
    obtain ⟨rfl, rfl, rfl, rfl, rfl⟩ := he
    simp
  · have hd : decide ((⟨x1, x2, x3, x4, x5⟩ : Hd) = ⟨y1, y2, y3, y4, y5⟩) = false := decide_eq_false he
    rw [hd]
    split
    · split
      · split
        · split
          · split
            · rename_i h1 h2 h3 h4 h5
              exfalso
              apply he
              have h1' : x1 = y1 := by omega
              rw [h1', h2, h3, bytes_inj h4, bytes_inj h5]
            · rfl
          · rfl
        · rfl
      · rfl
    · rfl
/-- a post that no panic meets -/
def noPanic (Q : Exit → Act → World → Prop) : Exit → Act → World → Prop
  | .panic _, _, _ => False
  | e, a, w => Q e a w
theorem noPanic_le {Q : Exit → Act → World → Prop} (e : Exit) (a : Act) (w : World) (h : noPanic Q e a w) : Q e a w := by
  cases e <;> first | exact h | exact h.elim
set_option maxHeartbeats 8000000 in
set_option maxRecDepth 100000 in
theorem into_any (base : Nat) (is : List Inf) (gc : Nat) (L : List T) (p q : T) (hL : L.length + 1 ≤ 1048576) (hq : q.kids.length ≤ 1048576) (hp : p.kids.length ≤ 1048576) (vr vq : Value) (w : World) (hc : Chk w gc is) (hr : RowV base w vr (L ++ [p])) (hi : IsT base w q vq) (hbase : base ≤ w.heap.size) :
    Calls Try.prog 40 #[.pointer (some ⟨gc, 0, none⟩), vr, vq] w (IntoSaid base w (into is q (p :: L.reverse))) := by
  have HL := Lib.hid (fun w' (hf : Fr No w w') => last_any base (L ++ [p]) p (by simp) (by simp; omega) vr w' (hr.no hf))
  have HRT := Lib.hid (fun w' (hf : Fr No w w') => rest_any base L p (by omega) vr w' (hr.no hf))
  have HHQ := Lib.hid (fun w' (hf : Fr No w w') => head_any base is gc q vq w' (hc.no hf) (hi.no hf))
  have HHP := Lib.hid (fun v w' (hf : Fr No w w') (h : IsT base w' p v) => head_any base is gc p v w' (hc.no hf) h)
  have HWP := Lib.hid (fun v w' (h : IsT base w' p v) => wild_any base p v w' h)
  obtain ⟨x0, x1, x2, x3, rfl⟩ := is_agg hi
  obtain ⟨kq, sq, nq, aq, mq, cq, rfl, rfl, rfl, rfl⟩ := is_cells hi
  obtain ⟨lq, rfl, hlq, _⟩ := is_mk hi
  have hq' : mq ≤ 1048576 := by rw [← hlq]; exact hq
  obtain ⟨ar, cr, rfl, _, _⟩ := hr
  obtain ⟨m, hm⟩ : ∃ m, (L ++ [p]).length = m := ⟨_, rfl⟩
  rw [hm] at HL HRT ⊢
  obtain ⟨R, hR⟩ : ∃ R, into is (.mk kq sq nq lq) (p :: L.reverse) = R := ⟨_, rfl⟩
  have HR : Hid (R = if isWild p then some (List.replicate mq anyP ++ L.reverse) else if hdOf is p = hdOf is (.mk kq sq nq lq) then some (p.kids ++ L.reverse) else none) := Lib.hid (by rw [← hR, ← hlq]; rfl)
  rw [hR]
  obtain ⟨w0, hw0⟩ : ∃ w0, w0 = w.alloc (.cells #[.int .u8 kq, .string sq, .int .i64 nq, .slice aq mq cq] 40) := ⟨_, rfl⟩
  have r0 : Hid (w0.heap[w.heap.size]? = some (.cells #[.int .u8 kq, .string sq, .int .i64 nq, .slice aq mq cq] 40 (0, 0))) := Lib.hid (by rw [hw0]; exact new_block w _)
  have HF0 : Hid (Fr No w w0) := Lib.hid (by rw [hw0]; exact Fr.alloc w _)
  clear hi hc hlq hm hR
  refine (callsIn_wide (n := 3)).1 ?_
  refine callsIn_of_wp_marks Try.func40 rfl trivial ?_ rfl
  simp only [Try.ntmps40, List.size_toArray, List.length_cons, List.length_nil, Nat.reduceAdd, Nat.reduceSub, Array.replicate_succ, Array.replicate_zero, List.push_toArray, List.append_toArray, List.nil_append, List.cons_append]
  rw [wpIn_wide]
  go_upto_region 1 with fail
  rw [← hw0]
  obtain ⟨g5, hg5⟩ : ∃ g5, w.heap.size = g5 := ⟨_, rfl⟩
  have HG5 := Lib.hid hg5
  rw [hg5] at r0 ⊢
  clear hw0 hg5
  go_wp2_with fail
  refine (HL.out _ HF0.out).mono ?_
  rintro e w1 ⟨vp, rfl, hip, hf1⟩
  obtain ⟨x0, x1, x2, x3, rfl⟩ := is_agg hip
  obtain ⟨kp, sp, np, ap, mp, cp, rfl, rfl, rfl, rfl⟩ := is_cells hip
  have HF1 : Hid (Fr No w0 w1) := Lib.hid hf1
  have HIP := Lib.hid hip
  clear hip hf1
  go_upto_region 2 with fail
  obtain ⟨w2, hw2⟩ : ∃ w2, w1.alloc (.cells #[.int .u8 kp, .string sp, .int .i64 np, .slice ap mp cp] 40) = w2 := ⟨_, rfl⟩
  obtain ⟨g8, hg8⟩ : ∃ g8, w1.heap.size = g8 := ⟨_, rfl⟩
  have hR8 : w2.heap[g8]? = some (.cells #[.int .u8 kp, .string sp, .int .i64 np, .slice ap mp cp] 40 (0, 0)) := by rw [← hw2, ← hg8]; exact new_block w1 _
  have HF2 : Hid (Fr No w0 w2) := Lib.hid (by rw [← hw2]; exact HF1.out.then (Fr.alloc _ _))
  have HIP2 : Hid (∀ w', Fr No w2 w' → IsT base w' p (.agg #[.int .u8 kp, .string sp, .int .i64 np, .slice ap mp cp])) := Lib.hid (fun w' hf => HIP.out.no ((Fr.alloc _ _).then (by rw [hw2]; exact hf)))
  have HCP : Hid (∀ w', Fr No w2 w' → cellsP w' g8 kp sp np ap mp cp) := Lib.hid (fun w' hf => ⟨cell_of (hf.keeps hR8 no_one) 0, cell_of (hf.keeps hR8 no_one) 1, cell_of (hf.keeps hR8 no_one) 2, cell_of (hf.keeps hR8 no_one) 3⟩)
  have HCQ : Hid (∀ w', Fr No w2 w' → cellsP w' g5 kq sq nq aq mq cq) := Lib.hid (fun w' hf => ⟨cell_of ((HF2.out.then hf).keeps r0.out no_one) 0, cell_of ((HF2.out.then hf).keeps r0.out no_one) 1, cell_of ((HF2.out.then hf).keeps r0.out no_one) 2, cell_of ((HF2.out.then hf).keeps r0.out no_one) 3⟩)
  have HFW : Hid (Fr No w w2) := Lib.hid (HF0.out.then HF2.out)
  rw [hw2, hg8]
  clear hw2 hg8 hR8 HF1 HIP
  obtain ⟨a0, a1, a2, a3⟩ := HCP.out _ (Fr.refl _ _)
  go_upto_block 0 with fail
  clear a0 a1 a2 a3
  go_cut [9] from 17 to 33 (fun v9 wx => Hid (Fr No w2 wx) ∧ ∃ (ks : List T) (a9 : Option Addr) (m9 c9 : Nat), v9 = .slice a9 m9 c9 ∧ Hid (R = some (ks ++ L.reverse) ∧ Row base (fun _ => True) wx a9 0 ks ∧ ks.length = m9 ∧ m9 ≤ 1048576))
  case first =>
    obtain ⟨a0, a1, a2, a3⟩ := HCP.out _ (Fr.refl _ _)
    go_wp2_with fail
    refine (HWP.out _ _ (HIP2.out _ (Fr.refl _ _))).mono ?_
    rintro e w3 ⟨rfl, hf3⟩
    have HF3 : Hid (Fr No w2 w3) := Lib.hid hf3
    clear hf3 a0 a1 a2 a3
    cases hw : isWild p with
    | true =>
      have HRW : Hid (R = some (List.replicate mq anyP ++ L.reverse)) := Lib.hid (by rw [HR.out, if_pos hw])
      clear hw
      obtain ⟨b0, b1, b2, b3⟩ := HCQ.out _ (HF3.out.then (Fr.alloc _ (.cells #[.int .u8 1, .string ⟨#[]⟩, .int .i64 0, .slice none 0 0] 40)))
      go_wp2_with fail
      refine (repeat_any base mq hq' _ _ (new_block w3 _)).mono ?_
      rintro e w4 ⟨v, rfl, hrv, hf4⟩
      obtain ⟨a9, c9, rfl, hc9, hrow⟩ := hrv
      have HROW := Lib.hid hrow
      have HF4 : Hid (Fr No w2 w4) := Lib.hid ((HF3.out.then (Fr.alloc _ _)).then hf4)
      clear hrow hf4 hc9 b0 b1 b2 b3
      rw [List.length_replicate]
      go_wp2_with fail
      go_meet
      exact ⟨HF4, List.replicate mq anyP, a9, mq, c9, rfl, Lib.hid ⟨HRW.out, HROW.out, List.length_replicate, hq'⟩⟩
    | false =>
      have HRW : Hid (R = if hdOf is p = hdOf is (.mk kq sq nq lq) then some (p.kids ++ L.reverse) else none) := Lib.hid (by rw [HR.out, if_neg (by simp [hw])])
      clear hw
      obtain ⟨hp1, hhp⟩ : ∃ h, hdOf is p = h := ⟨_, rfl⟩
      obtain ⟨hq1, hhq⟩ : ∃ h, hdOf is (.mk kq sq nq lq) = h := ⟨_, rfl⟩
      rw [hhp, hhq] at HRW
      rw [hhp] at HHP
      rw [hhq] at HHQ
      obtain ⟨x1, x2, x3, x4, x5⟩ := hp1
      obtain ⟨y1, y2, y3, y4, y5⟩ := hq1
      simp only [hdV] at HHP HHQ
      clear hhp hhq
      by_cases he : (⟨x1, x2, x3, x4, x5⟩ : Hd) = ⟨y1, y2, y3, y4, y5⟩
      · have HCMP := Lib.hid (fun w => (cmp_hd x1 y1 x2 x3 y2 y3 x4 x5 y4 y5 w).trans (by rw [decide_eq_true he, Bool.not_true]))
        have HRT2 : Hid (R = some (p.kids ++ L.reverse)) := Lib.hid (by rw [HRW.out, if_pos he])
        clear he HRW
        go_upto_region 5 with fail
        refine Code.wp_mono noPanic_le ?_
        refine region_e (fun w' => (w'.cell? ⟨g8, 0, none⟩ = some (.int .u8 kp) ∧ w'.cell? ⟨g8, 1, none⟩ = some (.string sp) ∧ w'.cell? ⟨g8, 2, none⟩ = some (.int .i64 np) ∧ w'.cell? ⟨g8, 3, none⟩ = some (.slice ap mp cp)) ∧ (w'.cell? ⟨g5, 0, none⟩ = some (.int .u8 kq) ∧ w'.cell? ⟨g5, 1, none⟩ = some (.string sq) ∧ w'.cell? ⟨g5, 2, none⟩ = some (.int .i64 nq) ∧ w'.cell? ⟨g5, 3, none⟩ = some (.slice aq mq cq))) [] (by kernel_rfl) ?_ (fun hHeld => ?_)
        · exact ⟨HCP.out _ (HF3.out.then (Fr.drew _)), HCQ.out _ (HF3.out.then (Fr.drew _))⟩
        refine take_op 0 (some 27) (Op.move ( .tmp 0)) 53 ?_ (by kernel_rfl) (by kernel_rfl) (by kernel_rfl) (fun _ _ _ h => h) ?_ (by assumption) ?_
        rotate_left
        · intro w hSw; (try dsimp only at hSw); go_simp; (try (with_reducible rfl))
        try simp only [Act.put, List.setIfInBounds_toArray, List.set_cons_zero, List.set_cons_succ]
        refine take_op 1 (some 28) (Op.load 40 ( .tmp 8)) 40 ?_ (by kernel_rfl) (by kernel_rfl) (by kernel_rfl) (fun _ _ _ h => h) ?_ (by assumption) ?_
        rotate_left
        · intro w hSw; (try dsimp only at hSw); go_simp; (try (with_reducible rfl))
        try simp only [Act.put, List.setIfInBounds_toArray, List.set_cons_zero, List.set_cons_succ]
        refine take_op 3 (some 30) (Op.move ( .tmp 0)) 53 ?_ (by kernel_rfl) (by kernel_rfl) (by kernel_rfl) (fun _ _ _ h => h) ?_ (by assumption) ?_
        rotate_left
        · intro w hSw; (try dsimp only at hSw); go_simp; (try (with_reducible rfl))
        try simp only [Act.put, List.setIfInBounds_toArray, List.set_cons_zero, List.set_cons_succ]
        refine take_op 4 (some 31) (Op.load 40 ( .tmp 5)) 40 ?_ (by kernel_rfl) (by kernel_rfl) (by kernel_rfl) (fun _ _ _ h => h) ?_ (by assumption) ?_
        rotate_left
        · intro w hSw; (try dsimp only at hSw); go_simp; (try (with_reducible rfl))
        try simp only [Act.put, List.setIfInBounds_toArray, List.set_cons_zero, List.set_cons_succ]
        refine ready_e (rs := [2]) (by kernel_rfl) (by simp) ?_
        refine do_mid (o := _) rfl (fun K hK => ?_) none_e -- slot 29 F31
        go_simp
        go_at_call 31
        refine (HHP.out _ _ (HFW.out.then (HF3.out.then (Fr.drew _))) (HIP2.out _ (HF3.out.then (Fr.drew _)))).mono ?_
        rintro e' w4 ⟨rfl, hf4⟩
        have HF4 : Hid (Fr No w2 w4) := Lib.hid ((HF3.out.then (Fr.drew _)).then hf4)
        clear hf4
        refine hK.out _ _ ?_ (fun hHeld => ?_)
        · exact ⟨HCP.out _ HF4.out, HCQ.out _ HF4.out⟩
        clear hK K
        try dsimp only
        try simp only [Act.put, List.setIfInBounds_toArray, List.set_cons_zero, List.set_cons_succ]
        refine ready_e (rs := [5]) (by kernel_rfl) (by simp) ?_
        refine do_mid (o := _) rfl (fun K hK => ?_) none_e -- slot 32 F31
        go_simp
        go_at_call 31
        refine (HHQ.out _ (HFW.out.then HF4.out)).mono ?_
        rintro e' w5 ⟨rfl, hf5⟩
        have HF5 : Hid (Fr No w2 w5) := Lib.hid (HF4.out.then hf5)
        clear hf5
        refine hK.out _ _ ?_ (fun hHeld => ?_)
        · exact ⟨HCP.out _ HF5.out, HCQ.out _ HF5.out⟩
        clear hK K
        try dsimp only
        try simp only [Act.put, List.setIfInBounds_toArray, List.set_cons_zero, List.set_cons_succ]
        refine take_op 6 (some 33) (Op.binOp BinOp.neq 66 ( .tmp 29) ( .tmp 32) 66) 4 ?_ (by kernel_rfl) (by kernel_rfl) (by kernel_rfl) (fun _ _ _ h => h) ?_ (by assumption) ?_
        rotate_left
        · intro w hSw; (try dsimp only at hSw); go_simp; exact HCMP.out w
        try simp only [Act.put, List.setIfInBounds_toArray, List.set_cons_zero, List.set_cons_succ]
        refine take_op 7 (some 26) (Op.assign ( .tmp 33)) 4 ?_ (by kernel_rfl) (by kernel_rfl) (by kernel_rfl) (fun _ _ _ h => h) ?_ (by assumption) ?_
        rotate_left
        · intro w hSw; (try dsimp only at hSw); go_simp; (try (with_reducible rfl))
        try simp only [Act.put, List.setIfInBounds_toArray, List.set_cons_zero, List.set_cons_succ]
        refine done_e (by kernel_rfl) ?_ _
        (try simp only [noPanic])
        go_wp2_with fail
        go_meet
        obtain ⟨r, hre, hrl, hrr⟩ := is_mk (HIP2.out _ HF5.out)
        exact ⟨HF5, r, ap, mp, cp, rfl, Lib.hid ⟨by rw [HRT2.out, hre]; rfl, hrr, hrl, by rw [← hrl]; rw [hre] at hp; exact hp⟩⟩
      · have HCMP := Lib.hid (fun w => (cmp_hd x1 y1 x2 x3 y2 y3 x4 x5 y4 y5 w).trans (by rw [decide_eq_false he, Bool.not_false]))
        have HRT2 : Hid (R = none) := Lib.hid (by rw [HRW.out, if_neg he])
        clear he HRW
        go_upto_region 5 with fail
        refine Code.wp_mono noPanic_le ?_
        refine region_e (fun w' => (w'.cell? ⟨g8, 0, none⟩ = some (.int .u8 kp) ∧ w'.cell? ⟨g8, 1, none⟩ = some (.string sp) ∧ w'.cell? ⟨g8, 2, none⟩ = some (.int .i64 np) ∧ w'.cell? ⟨g8, 3, none⟩ = some (.slice ap mp cp)) ∧ (w'.cell? ⟨g5, 0, none⟩ = some (.int .u8 kq) ∧ w'.cell? ⟨g5, 1, none⟩ = some (.string sq) ∧ w'.cell? ⟨g5, 2, none⟩ = some (.int .i64 nq) ∧ w'.cell? ⟨g5, 3, none⟩ = some (.slice aq mq cq))) [] (by kernel_rfl) ?_ (fun hHeld => ?_)
        · exact ⟨HCP.out _ (HF3.out.then (Fr.drew _)), HCQ.out _ (HF3.out.then (Fr.drew _))⟩
        refine take_op 0 (some 27) (Op.move ( .tmp 0)) 53 ?_ (by kernel_rfl) (by kernel_rfl) (by kernel_rfl) (fun _ _ _ h => h) ?_ (by assumption) ?_
        rotate_left
        · intro w hSw; (try dsimp only at hSw); go_simp; (try (with_reducible rfl))
        try simp only [Act.put, List.setIfInBounds_toArray, List.set_cons_zero, List.set_cons_succ]
        refine take_op 1 (some 28) (Op.load 40 ( .tmp 8)) 40 ?_ (by kernel_rfl) (by kernel_rfl) (by kernel_rfl) (fun _ _ _ h => h) ?_ (by assumption) ?_
        rotate_left
        · intro w hSw; (try dsimp only at hSw); go_simp; (try (with_reducible rfl))
        try simp only [Act.put, List.setIfInBounds_toArray, List.set_cons_zero, List.set_cons_succ]
        refine take_op 3 (some 30) (Op.move ( .tmp 0)) 53 ?_ (by kernel_rfl) (by kernel_rfl) (by kernel_rfl) (fun _ _ _ h => h) ?_ (by assumption) ?_
        rotate_left
        · intro w hSw; (try dsimp only at hSw); go_simp; (try (with_reducible rfl))
        try simp only [Act.put, List.setIfInBounds_toArray, List.set_cons_zero, List.set_cons_succ]
        refine take_op 4 (some 31) (Op.load 40 ( .tmp 5)) 40 ?_ (by kernel_rfl) (by kernel_rfl) (by kernel_rfl) (fun _ _ _ h => h) ?_ (by assumption) ?_
        rotate_left
        · intro w hSw; (try dsimp only at hSw); go_simp; (try (with_reducible rfl))
        try simp only [Act.put, List.setIfInBounds_toArray, List.set_cons_zero, List.set_cons_succ]
        refine ready_e (rs := [2]) (by kernel_rfl) (by simp) ?_
        refine do_mid (o := _) rfl (fun K hK => ?_) none_e -- slot 29 F31
        go_simp
        go_at_call 31
        refine (HHP.out _ _ (HFW.out.then (HF3.out.then (Fr.drew _))) (HIP2.out _ (HF3.out.then (Fr.drew _)))).mono ?_
        rintro e' w4 ⟨rfl, hf4⟩
        have HF4 : Hid (Fr No w2 w4) := Lib.hid ((HF3.out.then (Fr.drew _)).then hf4)
        clear hf4
        refine hK.out _ _ ?_ (fun hHeld => ?_)
        · exact ⟨HCP.out _ HF4.out, HCQ.out _ HF4.out⟩
        clear hK K
        try dsimp only
        try simp only [Act.put, List.setIfInBounds_toArray, List.set_cons_zero, List.set_cons_succ]
        refine ready_e (rs := [5]) (by kernel_rfl) (by simp) ?_
        refine do_mid (o := _) rfl (fun K hK => ?_) none_e -- slot 32 F31
        go_simp
        go_at_call 31
        refine (HHQ.out _ (HFW.out.then HF4.out)).mono ?_
        rintro e' w5 ⟨rfl, hf5⟩
        have HF5 : Hid (Fr No w2 w5) := Lib.hid (HF4.out.then hf5)
        clear hf5
        refine hK.out _ _ ?_ (fun hHeld => ?_)
        · exact ⟨HCP.out _ HF5.out, HCQ.out _ HF5.out⟩
        clear hK K
        try dsimp only
        try simp only [Act.put, List.setIfInBounds_toArray, List.set_cons_zero, List.set_cons_succ]
        refine take_op 6 (some 33) (Op.binOp BinOp.neq 66 ( .tmp 29) ( .tmp 32) 66) 4 ?_ (by kernel_rfl) (by kernel_rfl) (by kernel_rfl) (fun _ _ _ h => h) ?_ (by assumption) ?_
        rotate_left
        · intro w hSw; (try dsimp only at hSw); go_simp; exact HCMP.out w
        try simp only [Act.put, List.setIfInBounds_toArray, List.set_cons_zero, List.set_cons_succ]
        refine take_op 7 (some 26) (Op.assign ( .tmp 33)) 4 ?_ (by kernel_rfl) (by kernel_rfl) (by kernel_rfl) (fun _ _ _ h => h) ?_ (by assumption) ?_
        rotate_left
        · intro w hSw; (try dsimp only at hSw); go_simp; (try (with_reducible rfl))
        try simp only [Act.put, List.setIfInBounds_toArray, List.set_cons_zero, List.set_cons_succ]
        refine done_e (by kernel_rfl) ?_ _
        (try simp only [noPanic])
        go_wp2_with fail
        exact ⟨_, results_tmp2 rfl _ _ _, HFW.out.then HF5.out, by rw [HRT2.out]; rfl⟩
  case rest =>
    obtain ⟨HFC, ks, a9, m9, c9, rfl, HS⟩ := hcut
    clear HL HHP HWP HHQ HR HF0 r0 HG5 HF2 HIP2 HCP HCQ
    go_wp2_with fail
    refine (HRT.out _ (HFW.out.then HFC.out)).mono ?_
    rintro e w' ⟨ar2, rfl, hrow2, rfl⟩
    have HROW2 := Lib.hid hrow2
    have HFD : Hid (Fr No w w') := Lib.hid (HFW.out.then HFC.out)
    clear hrow2 HRT HFW HFC
    obtain ⟨nl, hnl⟩ : ∃ nl, L.length = nl := ⟨_, rfl⟩
    rw [hnl]
    have HNL := Lib.hid hnl
    go_wp2_with fail
    refine (backward_any _ _ _ _).mono ?_
    rintro e w3 ⟨rfl, hw3⟩
    go_wp2_with fail
    clear hw3
    obtain ⟨W0, hW0⟩ : ∃ W0, (w'.alloc (.cells #[.slice ar2 nl nl] 58)).alloc (.cells #[.slice a9 m9 c9] 22) = W0 := ⟨_, rfl⟩
    obtain ⟨B1, hB1⟩ : ∃ B1, w'.heap.size = B1 := ⟨_, rfl⟩
    have hF0 : Fr No w' W0 := by rw [← hW0]; exact (Fr.alloc _ _).then (Fr.alloc _ _)
    have hbox : W0.heap[B1]? = some (.cells #[.slice ar2 nl nl] 58 (0, 0)) := by rw [← hW0, ← hB1]; exact keep_alloc (new_block w' _) _
    have hbs : W0.heap[B1 + 1]? = some (.cells #[.slice a9 m9 c9] 22 (0, 0)) := by
      rw [← hW0, ← hB1, ← size_alloc w' (.cells #[.slice ar2 nl nl] 58)]
      exact new_block _ _
    have hN : W0.heap.size = B1 + 2 := by rw [← hW0, ← hB1, size_alloc, size_alloc]
    have hb1 : base ≤ B1 := by rw [← hB1]; exact Nat.le_trans hbase HFD.out.size
    have hwB : w.heap.size ≤ B1 := by rw [← hB1]; exact HFD.out.size
    rw [hW0, hB1]
    clear hW0 hB1
    obtain ⟨hRk, hrowk, hkl, hm9⟩ := HS.out
    obtain ⟨el, heli, helc⟩ := els_of (row_keepNo hrowk hF0)
    obtain ⟨eL, heLi, heLc⟩ := els_of (row_keepNo HROW2.out hF0)
    have hW := HFD.out.then hF0
    have hbn : ∀ b, (b < base ∨ ∃ cs z, W0.heap[b]? = some (.cells cs 40 z)) → b ≠ B1 := by
      rintro b (h | ⟨cs, z, h⟩) rfl
      · omega
      · rw [hbox] at h
        cases h
    obtain ⟨E0, hE0⟩ : ∃ E0, (List.range nl).map (fun j => (eL j).1) = E0 := ⟨_, rfl⟩
    have hE0l : E0.length = nl := by rw [← hE0]; simp
    have hE0c : ∀ j, j < nl → ∃ b off, ar2 = some ⟨b, off, none⟩ ∧ b ≠ B1 ∧ ∃ x, E0[j]? = some x ∧ W0.cell? ⟨b, off + j * 4, none⟩ = some x.c0 ∧ W0.cell? ⟨b, off + j * 4 + 1, none⟩ = some x.c1 ∧ W0.cell? ⟨b, off + j * 4 + 2, none⟩ = some x.c2 ∧ W0.cell? ⟨b, off + j * 4 + 3, none⟩ = some x.c3 := by
      intro j hj
      obtain ⟨b, off, e, hb, d0, d1, d2, d3⟩ := heLc j (by rw [hnl]; exact hj)
      exact ⟨b, off, e, hbn b hb, (eL j).1, by rw [← hE0]; simp [hj], d0, d1, d2, d3⟩
    have hnone : ar2 = none → nl = 0 := fun e => by
      rcases Nat.eq_zero_or_pos nl with h | h
      · exact h
      · obtain ⟨b, off, e2, _⟩ := hE0c 0 h
        rw [e] at e2
        cases e2
    refine (wpIn_wide (n := 3)).1 ?_
    refine wpIn_rangeFunc_ownH (F := Fence.wide) rfl (by decide) (gf := 52) (lb := #[.pointer (some ⟨B1 + 1, 0, none⟩)]) rfl trivial (enters_of Try.func52 (by kernel_rfl) rfl)
      (back_stops Fence.wide (3 - 1) trivial rfl (by decide) (B1 + 1) m9 c9 a9 (Sl B1 W0.heap.size) (by omega) el (fun j _ => heli j) W0 (by rw [cell_of hbs]; rfl) (by unfold Sl; omega) (fun hm b hS off e => ?hs) (fun j hj => ?hc))
      (fun h k => h.trans k (fun _ _ h => h)) (fun W l o o' hl ho _ _ => Fr.grownR (grownBy_putObj' W l o') (fun k e => by cases e; exact .inr hl)) (Below.refl _ _) (fun _ => rfl)
      (fun pre W => Making W0 B1 nl ar2 E0 (pre.map Subtype.val) W) (fun _ _ _ => False)
      (fun pre W W' row hI hg hr => hI.turned hg hr) (fun _ _ _ _ _ hs _ _ => hs)
      ⟨Fr.refl _ _, _, hbox, .inr ⟨rfl, rfl⟩⟩
      (fun x a' W => ∃ Bx, W.heap[Bx]? = some (.cells #[x.1.c0, x.1.c1, x.1.c2, x.1.c3] 40 (0, 0)) ∧ a' = { tmps := #[.pointer (some ⟨gc, 0, none⟩), .slice ar m cr, .agg #[.int .u8 kq, .string sq, .int .i64 nq, .slice aq mq cq], undef, undef, .pointer (some ⟨g5, 0, none⟩), u6, u7, .pointer (some ⟨g8, 0, none⟩), .slice a9 m9 c9, .pointer (some ⟨B1, 0, none⟩), undef, .pointer (some ⟨Bx, 0, none⟩), .slice ar m cr, .agg #[.int .u8 kp, .string sp, .int .i64 np, .slice ap mp cp], .pointer (some ⟨g8, 3, none⟩), .slice ap mp cp, u17, u18, u19, u20, u21, u22, u23, u24, u25, u26, u27, u28, u29, u30, u31, u32, u33, .slice ar m cr, .slice ar2 nl nl, .slice a9 m9 c9, .func (.func 52) #[] #[.pointer (some ⟨B1 + 1, 0, none⟩)], .int .i64 (x.1.i : Int), .agg #[x.1.c0, x.1.c1, x.1.c2, x.1.c3], undef, undef, undef, undef, undef, undef, undef], defers := [] })
      (fun x a' _ X Y row hs hg hr => ?hax) ?assign ?body ?done ?stop
    case hs =>
      obtain ⟨b1, off1, e1, hb, d0, _⟩ := helc 0 (by omega)
      rw [e] at e1
      simp only [Option.some.injEq, Addr.mk.injEq, and_true] at e1
      obtain ⟨rfl, rfl⟩ := e1
      have := World.block_lt_of_cell? W0 _ d0
      have h2 := hbn b hb
      rcases hS with h | h
      · exact h2 h
      · simp only at this
        omega
    case hc =>
      obtain ⟨b, off, e, _, d⟩ := helc j (by rw [hkl]; exact hj)
      exact ⟨b, off, e, d⟩
    case hax =>
      obtain ⟨Bx, h1, h2⟩ := hs
      refine ⟨Bx, (hg.block Bx (lt_of_block h1) fun e => ?_).trans h1, h2⟩
      obtain ⟨_, o, ho, hc⟩ := hr Bx e.symm
      rw [h1] at ho
      cases ho
      cases hc
    case assign =>
      rintro l pre ⟨⟨xi, c0, c1, c2, c3⟩, t, ht, hxi⟩ W K hI hK
      obtain ⟨xk, xs, xn, xa, xm, xc, rfl, rfl, rfl, rfl⟩ := is_cells ht
      gi_wp2
      refine hK _ _ ((KeepsOthers.alloc _ _).from _) ((Fr.alloc W _).mono (fun _ _ h => h.elim)) (hI.turned (World.grownBy_alloc W _ none) (fun r e => by cases e)) ⟨W.heap.size, new_block W _, rfl⟩
    case body =>
      rintro l pre ⟨⟨xi, c0, c1, c2, c3⟩, t, ht, hxi⟩ a' W hl _ hI ⟨Bx, hBx, rfl⟩ hlt
      obtain ⟨xk, xs, xn, xa, xm, xc, rfl, rfl, rfl, rfl⟩ := is_cells ht
      have HT := Lib.hid ht
      have HXI := Lib.hid hxi
      obtain ⟨v, hbv, ⟨av, cv, rfl⟩, hout⟩ := hI.out hbox hnone hE0l hE0c
      have HI := Lib.hid hI
      have HOUT := Lib.hid hout
      have HLT := Lib.hid hlt
      clear hI hout
      obtain ⟨q, hq⟩ : ∃ q, nl + (pre.map Subtype.val).length = q := ⟨_, rfl⟩
      rw [hq] at hbv HOUT
      have hq1 : q ≤ 2097152 := by
        simp only [List.length_map] at hq
        omega
      refine wpIn_block (region_round (by kernel_rfl) (by kernel_rfl) (fun ⟨_, _, h⟩ => h) ?_)
      refine wpAny_of_e (S := fun w' => w'.cell? ⟨B1, 0, none⟩ = some (.slice av q cv) ∧ (w'.cell? ⟨Bx, 0, none⟩ = some (.int .u8 xk) ∧ w'.cell? ⟨Bx, 1, none⟩ = some (.string xs) ∧ w'.cell? ⟨Bx, 2, none⟩ = some (.int .i64 xn) ∧ w'.cell? ⟨Bx, 3, none⟩ = some (.slice xa xm xc))) (Z := [4, 5, 6, 7]) _ _ _ _ ?_
      have hbv' : W.heap[B1]? = some (.cells #[.slice av q cv] 58 (0, 0)) := hbv
      have HS0 : Hid (∀ w', Fr No W w' → w'.cell? ⟨B1, 0, none⟩ = some (.slice av q cv) ∧ (w'.cell? ⟨Bx, 0, none⟩ = some (.int .u8 xk) ∧ w'.cell? ⟨Bx, 1, none⟩ = some (.string xs) ∧ w'.cell? ⟨Bx, 2, none⟩ = some (.int .i64 xn) ∧ w'.cell? ⟨Bx, 3, none⟩ = some (.slice xa xm xc))) := Lib.hid (fun w' hf => ⟨cell_of (hf.keeps hbv' no_one) 0, cell_of (hf.keeps hBx no_one) 0, cell_of (hf.keeps hBx no_one) 1, cell_of (hf.keeps hBx no_one) 2, cell_of (hf.keeps hBx no_one) 3⟩)
      have hHeld := HS0.out _ (Fr.drew W)
      have HBV := Lib.hid hbv
      clear hbv hbv'
      refine take_op 0 (some 40) (Op.load 58 ( .tmp 10)) 58 ?_ (by kernel_rfl) (by kernel_rfl) (by kernel_rfl) (fun _ _ _ h => h) ?_ (by assumption) ?_
      rotate_left
      · intro w hSw; (try dsimp only at hSw); go_simp; (try (with_reducible rfl))
      try simp only [Act.put, List.setIfInBounds_toArray, List.set_cons_zero, List.set_cons_succ]
      refine take_op 1 (some 41) (Op.load 40 ( .tmp 12)) 40 ?_ (by kernel_rfl) (by kernel_rfl) (by kernel_rfl) (fun _ _ _ h => h) ?_ (by assumption) ?_
      rotate_left
      · intro w hSw; (try dsimp only at hSw); go_simp; (try (with_reducible rfl))
      try simp only [Act.put, List.setIfInBounds_toArray, List.set_cons_zero, List.set_cons_succ]
      refine take_op 2 (some 42) (Op.call { callee := Callee.builtin Builtin.len, args := #[ .tmp 40], argTypes := #[58] }) 3 ?_ (by kernel_rfl) (by kernel_rfl) (by kernel_rfl) (fun _ _ _ h => h) ?_ (by assumption) ?_
      rotate_left
      · intro w hSw; (try dsimp only at hSw); go_simp; (try (with_reducible rfl))
      try simp only [Act.put, List.setIfInBounds_toArray, List.set_cons_zero, List.set_cons_succ]
      refine ready_e (rs := [3]) (by kernel_rfl) (by simp) ?_
      refine do_mid (o := _) rfl (fun K hK => ?_) none_e -- slot 43 buildSlice
      go_simp
      refine hK.out _ _ ?_ (fun hHeld => ?_)
      · exact HS0.out _ ((Fr.drew W).then (Fr.alloc _ _))
      clear hK K
      try dsimp only
      try simp only [Act.put, List.setIfInBounds_toArray, List.set_cons_zero, List.set_cons_succ]
      refine ready_e (rs := [4]) (by kernel_rfl) (by simp) ?_
      refine do_late (o := _) rfl (by kernel_rfl) (fun K hK => ?_) none_e -- slot 44 B
      refine step_out rfl (some 44) rfl _ _ _ rfl Try.underlying58 W0.heap.size (.slice av q cv) q _ rfl (HOUT.out _ ((Fr.drew W).then (Fr.alloc _ _))) _ 1 _ rfl (by rfl) (World.news_of_block (new_block _ _)) (by simp [Value.oneCell']) (by omega) ?_ ?_
      · exact Nat.le_trans HI.out.1.size ((Fr.drew W).then (Fr.alloc _ (.cells #[.int .u8 0, .string ⟨#[]⟩, .int .i64 0, .slice none 0 0] 40))).size
      intro g cap w4 hown hk4 hf4
      refine hK.out _ _ ?_
      clear hK K
      try dsimp only
      try simp only [Act.put, List.setIfInBounds_toArray, List.set_cons_zero, List.set_cons_succ]
      obtain ⟨k1, k2, k3, k4, hend⟩ := making_done HI.out (((⟨Nat.le_refl _, fun _ _ h _ => h⟩ : KeepsOthers W W.drew).trans (KeepsOthers.alloc _ _)).trans hk4) (((Fr.drew W).then (Fr.alloc _ _)).mono (fun _ _ h => h.elim) |>.trans hf4 (fun _ _ h => h)) HBV.out hown ⟨xi, .int .u8 xk, .string xs, .int .i64 xn, .slice xa xm xc⟩ hq hE0l (by omega)
      have HEND := Lib.hid hend
      have K2 := Lib.hid k2
      have K4 := Lib.hid k4
      have c1 := k1.cell
      have f1 := k1.frozen
      have c3 : (w4.setCells g (q * 4) [.int .u8 xk, .string xs, .int .i64 xn, .slice xa xm xc]).cell? ⟨B1, 0, none⟩ = some (.slice av q cv) := k3.cell
      have f3 : (w4.setCells g (q * 4) [.int .u8 xk, .string xs, .int .i64 xn, .slice xa xm xc]).frozen? ⟨B1, 0, none⟩ = false := k3.frozen
      have hix : ((q : Nat) : Int) < (q : Int) + 1 := by omega
      clear hend hown hk4 hf4 k1 k2 k3 k4 HOUT HBV HS0 hHeld hBx
      have HFIN : Hid (∀ W'', (W'' = (w4.setCells g (q * 4) [.int .u8 xk, .string xs, .int .i64 xn, .slice xa xm xc]).setCell ⟨B1, 0, none⟩ (.slice (some ⟨g, 0, none⟩) (q + 1) cap) ∨ W'' = (w4.setCell ⟨B1, 0, none⟩ (.slice (some ⟨g, 0, none⟩) (q + 1) cap)).setCells g (q * 4) [.int .u8 xk, .string xs, .int .i64 xn, .slice xa xm xc]) →
        KeepsFrom W0.heap.size W W'' ∧ Fr (Sl B1 W0.heap.size) W W'' ∧ Making W0 B1 nl ar2 E0 ((pre ++ [(⟨⟨xi, .int .u8 xk, .string xs, .int .i64 xn, .slice xa xm xc⟩, t, ht, hxi⟩ : { x : El // OkE base W0 ks x })]).map Subtype.val) W'') := Lib.hid (fun W'' h => by
        obtain ⟨h1, h2, h3⟩ := HEND.out W'' h
        refine ⟨h1.from _, h2, ?_⟩
        rw [List.map_append]
        exact h3)
      clear HEND
      refine ready_e (rs := [5, 7]) (by kernel_rfl) (by simp) ?_
      refine do_late (o := _) rfl (by kernel_rfl) (fun K hK => ?_) ?_ -- indexAddr
      · go_simp
        refine hK.out _ _ ?_
        clear hK K
        try dsimp only
        try simp only [Act.put, List.setIfInBounds_toArray, List.set_cons_zero, List.set_cons_succ]
        refine ready_e (rs := [6, 7]) (by kernel_rfl) (by simp) ?_
        refine do_late (o := _) rfl (by kernel_rfl) (fun K hK => ?_) ?_ -- store
        · skip
          refine step_store4 rfl rfl _ _ rfl g (q * 4) _ rfl rfl rfl K2.out (by simp [Value.oneCell']) ?_
          refine hK.out _ _ ?_
          clear hK K
          try dsimp only
          refine ready_e (rs := [7]) (by kernel_rfl) (by simp) ?_
          refine do_late (o := _) rfl (by kernel_rfl) (fun K hK => ?_) none_e
          go_simp
          refine hK.out _ _ ?_
          clear hK K
          try dsimp only
          refine done_e (by kernel_rfl) ?_ _
          exact HFIN.out _ (.inl rfl)
        · refine do_late (o := _) rfl (by kernel_rfl) (fun K hK => ?_) none_e
          go_simp
          refine hK.out _ _ ?_
          clear hK K
          try dsimp only
          refine ready_e (rs := [6]) (by kernel_rfl) (by simp) ?_
          refine do_late (o := _) rfl (by kernel_rfl) (fun K hK => ?_) none_e
          refine step_store4 rfl rfl _ _ rfl g (q * 4) _ rfl rfl rfl K4.out (by simp [Value.oneCell']) ?_
          refine hK.out _ _ ?_
          clear hK K
          try dsimp only
          refine done_e (by kernel_rfl) ?_ _
          exact HFIN.out _ (.inr rfl)
      · refine do_late (o := _) rfl (by kernel_rfl) (fun K hK => ?_) none_e
        go_simp
        refine hK.out _ _ ?_
        clear hK K
        try dsimp only
        refine ready_e (rs := [5]) (by kernel_rfl) (by simp) ?_
        refine do_late (o := _) rfl (by kernel_rfl) (fun K hK => ?_) none_e
        go_simp
        refine hK.out _ _ ?_
        clear hK K
        try dsimp only
        try simp only [Act.put, List.setIfInBounds_toArray, List.set_cons_zero, List.set_cons_succ]
        refine ready_e (rs := [6]) (by kernel_rfl) (by simp) ?_
        refine do_late (o := _) rfl (by kernel_rfl) (fun K hK => ?_) none_e
        refine step_store4 rfl rfl _ _ rfl g (q * 4) _ rfl rfl rfl K4.out (by simp [Value.oneCell']) ?_
        refine hK.out _ _ ?_
        clear hK K
        try dsimp only
        refine done_e (by kernel_rfl) ?_ _
        exact HFIN.out _ (.inr rfl)
    case done =>
      rintro D xs W hD rfl hI hKd
      have HRM : Hid (∀ W', Making W0 B1 nl ar2 E0 ((downTo el m9 m9).map Subtype.val) W' → ∀ v, Boxed W' B1 58 v → RowV base W' v (L ++ ks.reverse)) := Lib.hid (fun W' hm v hv => by
        refine row_made hm hb1 hbox (row_keepNo HROW2.out hF0) hnl hE0l (fun j t x ht hx => ?_) (by simp [downTo_length, hkl]) (fun j t x ht hx => ?_) v hv
        · have hj : j < nl := by rw [← hnl]; exact (List.getElem?_eq_some_iff.1 ht).1
          rw [← hE0] at hx
          simp only [List.getElem?_map, List.getElem?_range hj, Option.map_some, Option.some.injEq] at hx
          subst hx
          obtain ⟨t2, h1, h2⟩ := (eL j).2
          rw [heLi j] at h2
          have h3 := h2 (by rw [hnl]; exact hj)
          rw [ht] at h3
          cases h3
          exact h1
        · have hj : j < m9 := by have := (List.getElem?_eq_some_iff.1 ht).1; simp at this; omega
          rw [List.getElem?_map, downTo_at el m9 j hj] at hx
          simp only [Option.map_some, Option.some.injEq] at hx
          subst hx
          obtain ⟨t2, h1, h2⟩ := (el (m9 - 1 - j)).2
          rw [heli] at h2
          have h3 := h2 (by omega)
          rw [List.getElem?_reverse (by omega), hkl, h3] at ht
          cases ht
          exact h1)
      have HI := Lib.hid hI
      obtain ⟨hfW, v, hbv, _⟩ := hI
      have hcv := hbv.cell
      have HBV := Lib.hid hbv
      obtain ⟨a5, c5, rfl, _⟩ := HRM.out W HI.out v hbv
      have HF5 : Hid (Fr No w W) := Lib.hid (hW.own hfW (fun i h => by
        rcases h with rfl | h
        · exact hwB
        · exact Nat.le_trans hW.size h))
      have HD := Lib.hid hD
      have HKD := Lib.hid hKd
      have HHB := Lib.hid hW
      clear hbv hfW hD hKd hrowk hkl heli helc heLi heLc hW hE0 hE0c hnone hbn hbox hbs hF0
      simp only [Exit.inBlock, Exit.then]
      go_wp2_with fail
      refine ⟨by simp, .inl ⟨_, _, rfl, run_takeDeferred HKD.out, _, results_tmp2 rfl _ _ _, ?_⟩⟩
      have hg := grownBy_putObj' W D (.deferred none)
      have hm2 := HI.out.turned hg (fun k e => by cases e; exact ⟨HD.out, _, HKD.out, rfl⟩)
      refine ⟨HF5.out.own (Fr.grownR hg (S := fun k => W0.heap.size ≤ k) (fun k e => by cases e; exact HD.out)) (fun i h => Nat.le_trans HHB.out.size h), ?_⟩
      rw [hRk]
      refine ⟨_, rfl, ?_⟩
      rw [List.reverse_append, List.reverse_reverse]
      have hB2 : Boxed (W.putObj D (.deferred none)) B1 58 (.slice a5 (L ++ ks.reverse).length c5) := (hg.block B1 HBV.out.lt (fun e => by cases e; have := HKD.out; rw [show W.heap[B1]? = _ from HBV.out] at this; cases this)).trans HBV.out
      have h9 := HRM.out _ hm2 _ hB2
      rw [List.length_append, List.length_reverse, hnl] at h9
      exact h9
    case stop =>
      rintro D c pre W _ _ h _
      exact h.elim
end Go.Proofs.Ythjecikdkdjlaaa
