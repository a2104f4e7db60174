/- The anchor. -/
import Derived.Test.YthjecikdkdjlaaaLw
namespace Go.Proofs.Ythjecikdkdjlaaa
open Go.RowKit

theorem wfP_mk {is : List Inf} {k : Nat} {s : ByteArray} {n : Int} {l : List T} (hk : k < 256) (hs : s.size ≤ maxLen) (hn : (Lit.int .i64 n).wf = true) (hl : l.length ≤ 1048576) (ho : ∀ s, (infoOf is s).of.size ≤ maxLen) (hw : wfL is l) : wfP is (.mk k s n l) := by
  simp only [wfP]
  have h0 : (Lit.int .i64 0).wf = true := by decide
  have h1 : (⟨#[]⟩ : ByteArray).size ≤ maxLen := by unfold maxLen; show 0 ≤ _; omega
  have h2 : (Lit.int .i64 (l.length : Int)).wf = true := by
    have e1 : IntKind.i64.min = -9223372036854775808 := rfl
    have e2 : IntKind.i64.max = 9223372036854775807 := rfl
    simp only [Lit.wf, e1, e2]
    simp
    omega
  refine ⟨⟨⟨hk, ?_, ?_, ?_, ?_⟩, hl⟩, hw⟩ <;> simp only [hdOf]
  · split
    · exact hn
    · exact h0
  · split
    · exact h2
    · exact h0
  · split
    · exact hs
    · exact h1
  · split
    · exact ho _
    · exact h1
theorem infoOf_of (is : List Inf) (P : ByteArray → Prop) (h0 : P ⟨#[]⟩) (h : ∀ x ∈ is, P x.of) (s : ByteArray) : P (infoOf is s).of := by
  unfold infoOf findI
  cases hf : is.find? fun x => decide (x.name = s) with
  | none => exact h0
  | some x => exact h x (List.mem_of_find?_eq_some hf)
theorem small_of (s : ByteArray) (h : s.size ≤ 1000) : s.size ≤ maxLen := by unfold maxLen; omega
theorem of18 (s : ByteArray) : (infoOf infos18 s).of.size ≤ maxLen :=
  infoOf_of infos18 (fun s => s.size ≤ maxLen) (small_of _ (by decide)) (fun x hx => small_of _ (by
    have : ∀ x ∈ infos18, x.of.size ≤ 1000 := by decide
    exact this x hx)) s
theorem wf_con18 {s : ByteArray} {l : List T} (hs : s.size ≤ 1000) (hl : l.length ≤ 1048576) (hw : wfL infos18 l) : wfP infos18 (conP s l) := wfP_mk (by omega) (small_of s hs) (by decide) hl of18 hw
theorem wf_any18 : wfP infos18 anyP := wfP_mk (by omega) (small_of _ (by decide)) (by decide) (by simp) of18 trivial
theorem is_con {base : Nat} (w : World) (s : ByteArray) : IsT base w (conP s []) (.agg #[.int .u8 6, .string s, .int .i64 0, .slice none 0 0]) := by
  simp only [IsT, conP, Is]
  exact ⟨none, 0, rfl, by simp [Row]⟩
theorem row_two {base : Nat} {w : World} {g : Nat} {p q : T} {x0 x1 x2 x3 y0 y1 y2 y3 : Value} (hb : w.heap[g]? = some (.cells #[x0, x1, x2, x3, y0, y1, y2, y3] 40 (0, 0))) (hi : IsT base w p (.agg #[x0, x1, x2, x3])) (hj : IsT base w q (.agg #[y0, y1, y2, y3])) : Row base (fun _ => True) w (some ⟨g, 0, none⟩) 0 [p, q] := by
  simp only [Row, and_true]
  exact ⟨⟨g, 0, x0, x1, x2, x3, rfl, trivial, .inr ⟨_, _, hb⟩, cell_of hb 0, cell_of hb 1, cell_of hb 2, cell_of hb 3, hi⟩, ⟨g, 0, y0, y1, y2, y3, rfl, trivial, .inr ⟨_, _, hb⟩, cell_of hb 4, cell_of hb 5, cell_of hb 6, cell_of hb 7, hj⟩⟩
set_option maxHeartbeats 4000000 in
set_option maxRecDepth 100000 in
theorem works_any (w : World) : Calls Try.prog 10 #[] w (SaidT w true) := by
  have HCK : Hid (∀ (l : List T) (a : Option Addr) (n cap : Nat) (g : Nat) (wh : Bool) (w' : World), l.length = n → partsL l ≤ 1000 → wfL infos18 l → Row w.heap.size (fun _ => True) w' a 0 l → Infs w' (some ⟨g, 0, none⟩) infos18 → w.heap.size ≤ w'.heap.size → Calls Try.prog 11 #[.slice a n cap, .slice (some ⟨g, 0, none⟩) 8 8, .bool wh] w' (SaidI w' (checkP infos18 l wh))) :=
    Lib.hid (fun l a n cap g wh w' h1 h2 h3 h4 h5 h6 => check_any w.heap.size infos18 l n cap 8 8 a _ wh w' h1 rfl (by omega) (by omega) h3 h4 h5 h6)
  have HWF1 : Hid (wfL infos18 [conP sTrue [], conP sFalse []]) := Lib.hid ⟨wf_con18 (by decide) (by simp) trivial, wf_con18 (by decide) (by simp) trivial, trivial⟩
  have HWF2 : Hid (wfL infos18 [conP sTrue []]) := Lib.hid ⟨wf_con18 (by decide) (by simp) trivial, trivial⟩
  have HWF3 : Hid (wfL infos18 [anyP, conP sTrue []]) := Lib.hid ⟨wf_any18, wf_con18 (by decide) (by simp) trivial, trivial⟩
  have hct := fun w => con_any sTrue none 0 0 w
  have hcf := fun w => con_any sFalse none 0 0 w
  have HCT := Lib.hid hct
  have HCF := Lib.hid hcf
  clear hct hcf
  go_enter Try.func10, Try.ntmps10
  go_wp2_with fail
  refine (HCT.out _).mono ?_
  rintro e w1 ⟨rfl, hf1⟩
  have HF1 := Lib.hid hf1
  clear hf1
  go_wp2_with fail
  refine (HCF.out _).mono ?_
  rintro e w1' ⟨rfl, hf1⟩
  have HF1' := Lib.hid (HF1.out.then hf1)
  clear hf1
  go_upto_region 2 with fail
  obtain ⟨w2, hw2⟩ : ∃ w2, w1'.alloc (.cells #[.int .u8 6, .string sTrue, .int .i64 0, .slice none 0 0, .int .u8 6, .string sFalse, .int .i64 0, .slice none 0 0] 40) = w2 := ⟨_, rfl⟩
  obtain ⟨gl, hgl⟩ : ∃ gl, w1'.heap.size = gl := ⟨_, rfl⟩
  have R2 : Hid (w2.heap[gl]? = some (.cells #[.int .u8 6, .string sTrue, .int .i64 0, .slice none 0 0, .int .u8 6, .string sFalse, .int .i64 0, .slice none 0 0] 40 (0, 0))) := Lib.hid (by rw [← hw2, ← hgl]; exact new_block w1' _)
  have HF2 : Hid (Fr No w w2) := Lib.hid (by rw [← hw2]; exact HF1'.out.then (Fr.alloc _ _))
  rw [hw2, hgl]
  clear hw2 hgl HF1 HF1'
  have HS : Hid (∀ w', Fr No w2 w' → w'.cell? ⟨gl, 0, none⟩ = some (.int .u8 6) ∧ w'.cell? ⟨gl, 1, none⟩ = some (.string sTrue) ∧ w'.cell? ⟨gl, 2, none⟩ = some (.int .i64 0) ∧ w'.cell? ⟨gl, 3, none⟩ = some (.slice none 0 0)) :=
    Lib.hid (fun w' hf => ⟨cell_of (hf.keeps R2.out no_one) 0, cell_of (hf.keeps R2.out no_one) 1, cell_of (hf.keeps R2.out no_one) 2, cell_of (hf.keeps R2.out no_one) 3⟩)
  have HROW : Hid (∀ w', Fr No w2 w' → Row w.heap.size (fun _ => True) w' (some ⟨gl, 0, none⟩) 0 [conP sTrue [], conP sFalse []]) := Lib.hid (fun w' hf => row_two (hf.keeps R2.out no_one) (is_con _ _) (is_con _ _))
  have HCK2 := Lib.hid (fun l a n cap g wh w' h1 h2 h3 h4 h5 (h6 : Fr No w2 w') => HCK.out l a n cap g wh w' h1 h2 h3 h4 h5 (HF2.out.then h6).size)
  replace HCK := HCK2
  clear HCK2
  refine region_e (fun w' => w'.cell? ⟨gl, 0, none⟩ = some (.int .u8 6) ∧ w'.cell? ⟨gl, 1, none⟩ = some (.string sTrue) ∧ w'.cell? ⟨gl, 2, none⟩ = some (.int .i64 0) ∧ w'.cell? ⟨gl, 3, none⟩ = some (.slice none 0 0)) [] (by kernel_rfl) ?_ (fun hHeld => ?_)
  · exact HS.out _ (Fr.drew _)
  refine take_op 0 (some 5) (Op.move ( .tmp 1)) 22 ?_ (by kernel_rfl) (by kernel_rfl) (by kernel_rfl) (fun _ _ _ h => h) ?_ (by assumption) ?_
  rotate_left
  · intro w hSw; (try dsimp only at hSw); go_simp; (try (with_reducible rfl))
  try simp only [Act.put, List.setIfInBounds_toArray, List.set_cons_zero, List.set_cons_succ]
  refine ready_e (rs := [1]) (by kernel_rfl) (by simp) ?_
  refine (do_mid (o := _) rfl (fun K hK => ?_) none_e) -- [(6, 'F16')]
  go_simp
  go_at_call 16
  refine (infos_any _).mono ?_
  rintro e' wz1 ⟨hf, g_1, rfl, hi⟩
  have HZ1 : Hid (Fr No w2 wz1) := Lib.hid (((Fr.drew w2)).then hf)
  have DZ1 : Hid (Fr No (w2.drew) wz1) := Lib.hid hf
  have I_1 := Lib.hid hi
  clear hf hi
  refine hK.out _ _ ?_ (fun hHeld => ?_)
  · exact HS.out _ HZ1.out
  clear hK K
  try dsimp only
  try simp only [Act.put, List.setIfInBounds_toArray, List.set_cons_zero, List.set_cons_succ]
  refine ready_e (rs := [2]) (by kernel_rfl) (by simp) ?_
  refine (do_mid (o := _) rfl (fun K hK => ?_) none_e) -- [(7, 'F11')]
  go_simp
  go_at_call 11
  refine (HCK.out _ _ 2 2 _ true wz1 rfl (by decide) HWF1.out (HROW.out _ (HZ1.out)) (I_1.out.no (Fr.refl _ _)) (HZ1.out)).mono ?_
  rintro e' wz2 ⟨rfl, hf⟩
  have HZ2 : Hid (Fr No w2 wz2) := Lib.hid ((HZ1.out).then hf)
  have DZ2 : Hid (Fr No (wz1) wz2) := Lib.hid hf
  clear hf
  rw [works1]
  refine hK.out _ _ ?_ (fun hHeld => ?_)
  · exact HS.out _ HZ2.out
  clear hK K
  try dsimp only
  try simp only [Act.put, List.setIfInBounds_toArray, List.set_cons_zero, List.set_cons_succ]
  refine take_op 3 (some 8) (Op.binOp BinOp.eql 26 ( .tmp 7) ( .const (.int .i64 0)) 26) 4 ?_ (by kernel_rfl) (by kernel_rfl) (by kernel_rfl) (fun _ _ _ h => h) ?_ (by assumption) ?_
  rotate_left
  · intro w hSw; (try dsimp only at hSw); go_simp; (try (with_reducible rfl))
  try simp only [Act.put, List.setIfInBounds_toArray, List.set_cons_zero, List.set_cons_succ]
  refine take_op 4 (some 9) (Op.move ( .tmp 8)) 4 ?_ (by kernel_rfl) (by kernel_rfl) (by kernel_rfl) (fun _ _ _ h => h) ?_ (by assumption) ?_
  rotate_left
  · intro w hSw; (try dsimp only at hSw); go_simp; (try (with_reducible rfl))
  try simp only [Act.put, List.setIfInBounds_toArray, List.set_cons_zero, List.set_cons_succ]
  refine take_op 5 (some 10) (Op.move ( .tmp 1)) 22 ?_ (by kernel_rfl) (by kernel_rfl) (by kernel_rfl) (fun _ _ _ h => h) ?_ (by assumption) ?_
  rotate_left
  · intro w hSw; (try dsimp only at hSw); go_simp; (try (with_reducible rfl))
  try simp only [Act.put, List.setIfInBounds_toArray, List.set_cons_zero, List.set_cons_succ]
  refine take_op 6 (some 11) (Op.slice 22 ( .tmp 10) none (some ( .const (.int .i64 1))) none) 22 ?_ (by kernel_rfl) (by kernel_rfl) (by kernel_rfl) (fun _ _ _ h => h) ?_ (by assumption) ?_
  rotate_left
  · intro w hSw; (try dsimp only at hSw); go_simp; (try (with_reducible rfl))
  try simp only [Act.put, List.setIfInBounds_toArray, List.set_cons_zero, List.set_cons_succ]
  refine ready_e (rs := [7]) (by kernel_rfl) (by simp) ?_
  refine (do_mid (o := _) rfl (fun K hK => ?_) none_e) -- [(12, 'F16')]
  go_simp
  go_at_call 16
  refine (infos_any _).mono ?_
  rintro e' wz3 ⟨hf, g_3, rfl, hi⟩
  have HZ3 : Hid (Fr No w2 wz3) := Lib.hid ((HZ2.out).then hf)
  have DZ3 : Hid (Fr No (wz2) wz3) := Lib.hid hf
  have I_3 := Lib.hid hi
  clear hf hi
  refine hK.out _ _ ?_ (fun hHeld => ?_)
  · exact HS.out _ HZ3.out
  clear hK K
  try dsimp only
  try simp only [Act.put, List.setIfInBounds_toArray, List.set_cons_zero, List.set_cons_succ]
  refine ready_e (rs := [8]) (by kernel_rfl) (by simp) ?_
  refine (do_mid (o := _) rfl (fun K hK => ?_) none_e) -- [(13, 'F11')]
  go_simp
  go_at_call 11
  refine (HCK.out _ _ 1 2 _ true wz3 rfl (by decide) HWF2.out (row_take 0 [conP sTrue []] [conP sFalse []] (HROW.out _ (HZ3.out))) (I_3.out.no (Fr.refl _ _)) (HZ3.out)).mono ?_
  rintro e' wz4 ⟨rfl, hf⟩
  have HZ4 : Hid (Fr No w2 wz4) := Lib.hid ((HZ3.out).then hf)
  have DZ4 : Hid (Fr No (wz3) wz4) := Lib.hid hf
  clear hf
  rw [works2]
  refine hK.out _ _ ?_ (fun hHeld => ?_)
  · exact HS.out _ HZ4.out
  clear hK K
  try dsimp only
  try simp only [Act.put, List.setIfInBounds_toArray, List.set_cons_zero, List.set_cons_succ]
  refine take_op 9 (some 14) (Op.binOp BinOp.eql 26 ( .tmp 13) ( .const (.int .i64 14)) 26) 4 ?_ (by kernel_rfl) (by kernel_rfl) (by kernel_rfl) (fun _ _ _ h => h) ?_ (by assumption) ?_
  rotate_left
  · intro w hSw; (try dsimp only at hSw); go_simp; (try (with_reducible rfl))
  try simp only [Act.put, List.setIfInBounds_toArray, List.set_cons_zero, List.set_cons_succ]
  refine take_op 10 (some 15) (Op.pick ( .tmp 9) ( .tmp 14) ( .const (Value.bool false))) 4 ?_ (by kernel_rfl) (by kernel_rfl) (by kernel_rfl) (fun _ _ _ h => h) ?_ (by assumption) ?_
  rotate_left
  · intro w hSw; (try dsimp only at hSw); go_simp; (try (with_reducible rfl))
  try simp only [Act.put, List.setIfInBounds_toArray, List.set_cons_zero, List.set_cons_succ]
  refine take_op 11 (some 16) (Op.move ( .tmp 15)) 4 ?_ (by kernel_rfl) (by kernel_rfl) (by kernel_rfl) (fun _ _ _ h => h) ?_ (by assumption) ?_
  rotate_left
  · intro w hSw; (try dsimp only at hSw); go_simp; (try (with_reducible rfl))
  try simp only [Act.put, List.setIfInBounds_toArray, List.set_cons_zero, List.set_cons_succ]
  refine take_op 13 (some 18) (Op.move ( .tmp 1)) 22 ?_ (by kernel_rfl) (by kernel_rfl) (by kernel_rfl) (fun _ _ _ h => h) ?_ (by assumption) ?_
  rotate_left
  · intro w hSw; (try dsimp only at hSw); go_simp; (try (with_reducible rfl))
  try simp only [Act.put, List.setIfInBounds_toArray, List.set_cons_zero, List.set_cons_succ]
  refine take_op 14 (some 19) (Op.indexAddr 22 ( .tmp 18) ( .const (.int .i64 0))) 0 ?_ (by kernel_rfl) (by kernel_rfl) (by kernel_rfl) (fun _ _ _ h => h) ?_ (by assumption) ?_
  rotate_left
  · intro w hSw; (try dsimp only at hSw); go_simp; (try (with_reducible rfl))
  try simp only [Act.put, List.setIfInBounds_toArray, List.set_cons_zero, List.set_cons_succ]
  refine take_op 15 (some 20) (Op.load 40 ( .tmp 19)) 40 ?_ (by kernel_rfl) (by kernel_rfl) (by kernel_rfl) (fun _ _ _ h => h) ?_ (by assumption) ?_
  rotate_left
  · intro w hSw; (try dsimp only at hSw); go_simp; (try (with_reducible rfl))
  try simp only [Act.put, List.setIfInBounds_toArray, List.set_cons_zero, List.set_cons_succ]
  refine ready_e (rs := [12]) (by kernel_rfl) (by simp) ?_
  refine (do_mid (o := _) rfl (fun K hK => ?_) none_e) -- [(17, 'F18')]
  go_simp
  go_at_call 18
  refine (wildf_any _).mono ?_
  rintro e' wz5 ⟨rfl, hf⟩
  have HZ5 : Hid (Fr No w2 wz5) := Lib.hid ((HZ4.out).then hf)
  have DZ5 : Hid (Fr No (wz4) wz5) := Lib.hid hf
  clear hf
  refine hK.out _ _ ?_ (fun hHeld => ?_)
  · exact HS.out _ HZ5.out
  clear hK K
  try dsimp only
  try simp only [Act.put, List.setIfInBounds_toArray, List.set_cons_zero, List.set_cons_succ]
  refine ready_e (rs := [16, 17]) (by kernel_rfl) (by simp) ?_
  refine (do_mid (o := _) rfl (fun K hK => ?_) (do_mid (o := _) rfl (fun K hK => ?_) none_e)) -- [(21, 'buildSlice'), (22, 'F16')]
  · skip
    go_simp
    obtain ⟨wz6, hn⟩ : ∃ w8, w8 = (wz5).alloc (.cells #[.int .u8 1, .string ⟨#[]⟩, .int .i64 0, .slice none 0 0, .int .u8 6, .string sTrue, .int .i64 0, .slice none 0 0] 40) := ⟨_, rfl⟩
    obtain ⟨B_6, hg8⟩ : ∃ g8, (wz5).heap.size = g8 := ⟨_, rfl⟩
    have R_6 : Hid (wz6.heap[B_6]? = some (.cells #[.int .u8 1, .string ⟨#[]⟩, .int .i64 0, .slice none 0 0, .int .u8 6, .string sTrue, .int .i64 0, .slice none 0 0] 40 (0, 0))) := Lib.hid (by rw [hn, ← hg8]; exact new_block _ _)
    have HZ6 : Hid (Fr No w2 wz6) := Lib.hid (by rw [hn]; exact (HZ5.out).then (Fr.alloc _ _))
    have DZ6 : Hid (Fr No (wz5) wz6) := Lib.hid (by rw [hn]; exact Fr.alloc _ _)
    rw [← hn, hg8]
    clear hn hg8
    refine hK.out _ _ ?_ (fun hHeld => ?_)
    · exact HS.out _ HZ6.out
    clear hK K
    try dsimp only
    try simp only [Act.put, List.setIfInBounds_toArray, List.set_cons_zero, List.set_cons_succ]
    refine ready_e (rs := [17]) (by kernel_rfl) (by simp) ?_
    refine (do_mid (o := _) rfl (fun K hK => ?_) none_e) -- [(22, 'F16')]
    go_simp
    go_at_call 16
    refine (infos_any _).mono ?_
    rintro e' wz7 ⟨hf, g_7, rfl, hi⟩
    have HZ7 : Hid (Fr No w2 wz7) := Lib.hid ((HZ6.out).then hf)
    have DZ7 : Hid (Fr No (wz6) wz7) := Lib.hid hf
    have I_7 := Lib.hid hi
    clear hf hi
    refine hK.out _ _ ?_ (fun hHeld => ?_)
    · exact HS.out _ HZ7.out
    clear hK K
    try dsimp only
    try simp only [Act.put, List.setIfInBounds_toArray, List.set_cons_zero, List.set_cons_succ]
    refine ready_e (rs := [18]) (by kernel_rfl) (by simp) ?_
    refine (do_mid (o := _) rfl (fun K hK => ?_) none_e) -- [(23, 'F11')]
    go_simp
    go_at_call 11
    refine (HCK.out _ _ 2 2 _ false wz7 rfl (by decide) HWF3.out (row_two (((Fr.refl _ _).then DZ7.out).keeps R_6.out no_one) (is_anyP _) (is_con _ _)) (I_7.out.no (Fr.refl _ _)) (HZ7.out)).mono ?_
    rintro e' wz8 ⟨rfl, hf⟩
    have HZ8 : Hid (Fr No w2 wz8) := Lib.hid ((HZ7.out).then hf)
    have DZ8 : Hid (Fr No (wz7) wz8) := Lib.hid hf
    clear hf
    rw [works3]
    refine hK.out _ _ ?_ (fun hHeld => ?_)
    · exact HS.out _ HZ8.out
    clear hK K
    try dsimp only
    try simp only [Act.put, List.setIfInBounds_toArray, List.set_cons_zero, List.set_cons_succ]
    refine take_op 19 (some 24) (Op.binOp BinOp.eql 26 ( .tmp 23) ( .const (.int .i64 14)) 26) 4 ?_ (by kernel_rfl) (by kernel_rfl) (by kernel_rfl) (fun _ _ _ h => h) ?_ (by assumption) ?_
    rotate_left
    · intro w hSw; (try dsimp only at hSw); go_simp; (try (with_reducible rfl))
    try simp only [Act.put, List.setIfInBounds_toArray, List.set_cons_zero, List.set_cons_succ]
    refine take_op 20 (some 25) (Op.pick ( .tmp 16) ( .tmp 24) ( .const (Value.bool false))) 4 ?_ (by kernel_rfl) (by kernel_rfl) (by kernel_rfl) (fun _ _ _ h => h) ?_ (by assumption) ?_
    rotate_left
    · intro w hSw; (try dsimp only at hSw); go_simp; (try (with_reducible rfl))
    try simp only [Act.put, List.setIfInBounds_toArray, List.set_cons_zero, List.set_cons_succ]
    refine take_op 21 (some 26) (Op.move ( .tmp 25)) 4 ?_ (by kernel_rfl) (by kernel_rfl) (by kernel_rfl) (fun _ _ _ h => h) ?_ (by assumption) ?_
    rotate_left
    · intro w hSw; (try dsimp only at hSw); go_simp; (try (with_reducible rfl))
    try simp only [Act.put, List.setIfInBounds_toArray, List.set_cons_zero, List.set_cons_succ]
    refine take_op 22 (some 27) (Op.pick ( .tmp 26) ( .const (Value.bool true)) ( .const (Value.bool false))) 4 ?_ (by kernel_rfl) (by kernel_rfl) (by kernel_rfl) (fun _ _ _ h => h) ?_ (by assumption) ?_
    rotate_left
    · intro w hSw; (try dsimp only at hSw); go_simp; (try (with_reducible rfl))
    try simp only [Act.put, List.setIfInBounds_toArray, List.set_cons_zero, List.set_cons_succ]
    refine take_op 23 (some 0) (Op.assign ( .tmp 27)) 4 ?_ (by kernel_rfl) (by kernel_rfl) (by kernel_rfl) (fun _ _ _ h => h) ?_ (by assumption) ?_
    rotate_left
    · intro w hSw; (try dsimp only at hSw); go_simp; (try (with_reducible rfl))
    try simp only [Act.put, List.setIfInBounds_toArray, List.set_cons_zero, List.set_cons_succ]
    refine done_e (by kernel_rfl) ?_ _
    (try simp only [Exit.inBlock, Exit.then])
    go_wp2_with fail
    go_ret
    exact ⟨rfl, HF2.out.then (HZ8.out)⟩
  · skip
    go_simp
    go_at_call 16
    refine (infos_any _).mono ?_
    rintro e' wz9 ⟨hf, g_9, rfl, hi⟩
    have HZ9 : Hid (Fr No w2 wz9) := Lib.hid ((HZ5.out).then hf)
    have DZ9 : Hid (Fr No (wz5) wz9) := Lib.hid hf
    have I_9 := Lib.hid hi
    clear hf hi
    refine hK.out _ _ ?_ (fun hHeld => ?_)
    · exact HS.out _ HZ9.out
    clear hK K
    try dsimp only
    try simp only [Act.put, List.setIfInBounds_toArray, List.set_cons_zero, List.set_cons_succ]
    refine ready_e (rs := [16]) (by kernel_rfl) (by simp) ?_
    refine (do_mid (o := _) rfl (fun K hK => ?_) none_e) -- [(21, 'buildSlice')]
    go_simp
    obtain ⟨wz10, hn⟩ : ∃ w8, w8 = (wz9).alloc (.cells #[.int .u8 1, .string ⟨#[]⟩, .int .i64 0, .slice none 0 0, .int .u8 6, .string sTrue, .int .i64 0, .slice none 0 0] 40) := ⟨_, rfl⟩
    obtain ⟨B_10, hg8⟩ : ∃ g8, (wz9).heap.size = g8 := ⟨_, rfl⟩
    have R_10 : Hid (wz10.heap[B_10]? = some (.cells #[.int .u8 1, .string ⟨#[]⟩, .int .i64 0, .slice none 0 0, .int .u8 6, .string sTrue, .int .i64 0, .slice none 0 0] 40 (0, 0))) := Lib.hid (by rw [hn, ← hg8]; exact new_block _ _)
    have HZ10 : Hid (Fr No w2 wz10) := Lib.hid (by rw [hn]; exact (HZ9.out).then (Fr.alloc _ _))
    have DZ10 : Hid (Fr No (wz9) wz10) := Lib.hid (by rw [hn]; exact Fr.alloc _ _)
    rw [← hn, hg8]
    clear hn hg8
    refine hK.out _ _ ?_ (fun hHeld => ?_)
    · exact HS.out _ HZ10.out
    clear hK K
    try dsimp only
    try simp only [Act.put, List.setIfInBounds_toArray, List.set_cons_zero, List.set_cons_succ]
    refine ready_e (rs := [18]) (by kernel_rfl) (by simp) ?_
    refine (do_mid (o := _) rfl (fun K hK => ?_) none_e) -- [(23, 'F11')]
    go_simp
    go_at_call 11
    refine (HCK.out _ _ 2 2 _ false wz10 rfl (by decide) HWF3.out (row_two ((Fr.refl _ _).keeps R_10.out no_one) (is_anyP _) (is_con _ _)) (I_9.out.no ((Fr.refl _ _).then DZ10.out)) (HZ10.out)).mono ?_
    rintro e' wz11 ⟨rfl, hf⟩
    have HZ11 : Hid (Fr No w2 wz11) := Lib.hid ((HZ10.out).then hf)
    have DZ11 : Hid (Fr No (wz10) wz11) := Lib.hid hf
    clear hf
    rw [works3]
    refine hK.out _ _ ?_ (fun hHeld => ?_)
    · exact HS.out _ HZ11.out
    clear hK K
    try dsimp only
    try simp only [Act.put, List.setIfInBounds_toArray, List.set_cons_zero, List.set_cons_succ]
    refine take_op 19 (some 24) (Op.binOp BinOp.eql 26 ( .tmp 23) ( .const (.int .i64 14)) 26) 4 ?_ (by kernel_rfl) (by kernel_rfl) (by kernel_rfl) (fun _ _ _ h => h) ?_ (by assumption) ?_
    rotate_left
    · intro w hSw; (try dsimp only at hSw); go_simp; (try (with_reducible rfl))
    try simp only [Act.put, List.setIfInBounds_toArray, List.set_cons_zero, List.set_cons_succ]
    refine take_op 20 (some 25) (Op.pick ( .tmp 16) ( .tmp 24) ( .const (Value.bool false))) 4 ?_ (by kernel_rfl) (by kernel_rfl) (by kernel_rfl) (fun _ _ _ h => h) ?_ (by assumption) ?_
    rotate_left
    · intro w hSw; (try dsimp only at hSw); go_simp; (try (with_reducible rfl))
    try simp only [Act.put, List.setIfInBounds_toArray, List.set_cons_zero, List.set_cons_succ]
    refine take_op 21 (some 26) (Op.move ( .tmp 25)) 4 ?_ (by kernel_rfl) (by kernel_rfl) (by kernel_rfl) (fun _ _ _ h => h) ?_ (by assumption) ?_
    rotate_left
    · intro w hSw; (try dsimp only at hSw); go_simp; (try (with_reducible rfl))
    try simp only [Act.put, List.setIfInBounds_toArray, List.set_cons_zero, List.set_cons_succ]
    refine take_op 22 (some 27) (Op.pick ( .tmp 26) ( .const (Value.bool true)) ( .const (Value.bool false))) 4 ?_ (by kernel_rfl) (by kernel_rfl) (by kernel_rfl) (fun _ _ _ h => h) ?_ (by assumption) ?_
    rotate_left
    · intro w hSw; (try dsimp only at hSw); go_simp; (try (with_reducible rfl))
    try simp only [Act.put, List.setIfInBounds_toArray, List.set_cons_zero, List.set_cons_succ]
    refine take_op 23 (some 0) (Op.assign ( .tmp 27)) 4 ?_ (by kernel_rfl) (by kernel_rfl) (by kernel_rfl) (fun _ _ _ h => h) ?_ (by assumption) ?_
    rotate_left
    · intro w hSw; (try dsimp only at hSw); go_simp; (try (with_reducible rfl))
    try simp only [Act.put, List.setIfInBounds_toArray, List.set_cons_zero, List.set_cons_succ]
    refine done_e (by kernel_rfl) ?_ _
    (try simp only [Exit.inBlock, Exit.then])
    go_wp2_with fail
    go_ret
    exact ⟨rfl, HF2.out.then (HZ11.out)⟩
end Go.Proofs.Ythjecikdkdjlaaa
