/- The anchor: the walk. -/
import Derived.Test.YtfjddfcndammdaaWk
import Derived.Test.YtfjddfcndammdaaWc
namespace Go.Proofs.Ytfjddfcndammdaa
open Go.RowKit

/-- the cells of an unknown, of a name -/
def cvar (n : Int) : Array Value := #[.int .u8 1, .string ⟨#[]⟩, .int .i64 n, .slice none 0 0]
def ccon (s : ByteArray) : Array Value := #[.int .u8 2, .string s, .int .i64 0, .slice none 0 0]
/-- a block of a type's cells -/
def At (w : World) (g : Nat) (cs : Array Value) : Prop := w.heap[g]? = some (.cells cs 24 (0, 0))
theorem At.fb {base : Nat} {w w' : World} {g : Nat} {cs : Array Value} (h : At w g cs) (hf : Fb base w w') : At w' g cs := hf.keeps h (by simp [Bobj])
theorem At.no {w w' : World} {g : Nat} {cs : Array Value} (h : At w g cs) (hf : Fr No w w') : At w' g cs := hf.keeps h no_one
theorem At.var {w : World} {g : Nat} {n : Int} (h : At w g (cvar n)) : w.cell? ⟨g, 0, none⟩ = some (.int .u8 1) ∧ w.cell? ⟨g, 1, none⟩ = some (.string ⟨#[]⟩) ∧ w.cell? ⟨g, 2, none⟩ = some (.int .i64 n) ∧ w.cell? ⟨g, 3, none⟩ = some (.slice none 0 0) := ⟨cell_of h 0, cell_of h 1, cell_of h 2, cell_of h 3⟩
theorem At.con {w : World} {g : Nat} {s : ByteArray} (h : At w g (ccon s)) : w.cell? ⟨g, 0, none⟩ = some (.int .u8 2) ∧ w.cell? ⟨g, 1, none⟩ = some (.string s) ∧ w.cell? ⟨g, 2, none⟩ = some (.int .i64 0) ∧ w.cell? ⟨g, 3, none⟩ = some (.slice none 0 0) := ⟨cell_of h 0, cell_of h 1, cell_of h 2, cell_of h 3⟩
theorem is_var {base : Nat} (w : World) (n : Int) : IsT base w (varT n) (.agg #[.int .u8 1, .string ⟨#[]⟩, .int .i64 n, .slice none 0 0]) := is_none 1 ⟨#[]⟩ n
theorem is_con {base : Nat} (w : World) (s : ByteArray) : IsT base w (conT s []) (.agg #[.int .u8 2, .string s, .int .i64 0, .slice none 0 0]) := is_none 2 s 0
theorem Fb.new {base : Nat} {w w' : World} (h : Fb base w w') (hb : w.heap.size ≤ base) : Fr No w w' :=
  ⟨h.os, h.tape, h.output, h.size, fun k hk _ => h.block k hk fun e => by have := e.1; omega⟩
theorem is_list {base : Nat} {w : World} {g : Nat} (h : w.heap[g]? = some (.cells #[.int .u8 1, .string ⟨#[]⟩, .int .i64 0, .slice none 0 0] 24 (0, 0))) : IsT base w (conT sList [wx]) (.agg #[.int .u8 2, .string sList, .int .i64 0, .slice (some ⟨g, 0, none⟩) 1 1]) := by
  simp only [IsT, conT, Is]
  refine ⟨some ⟨g, 0, none⟩, 1, rfl, ?_⟩
  simp only [Row]
  exact ⟨⟨_, _, _, _, _, _, rfl, trivial, .inr ⟨_, _, h⟩, cell_of h 0, cell_of h 1, cell_of h 2, cell_of h 3, is_var w 0⟩, trivial⟩
set_option maxHeartbeats 8000000 in
set_option maxRecDepth 100000 in
theorem works_any (w : World) : Calls Try.prog 9 #[] w (SaidT w true) := by
  obtain ⟨base, hbase⟩ : ∃ base, w.heap.size = base := ⟨_, rfl⟩
  have HBASE := Lib.hid hbase
  clear hbase
  go_enter Try.func9, Try.ntmps9
  go_wp2_with fail
  refine (new_any w).mono ?_
  rintro e w1 ⟨g, rfl, hb1, hf1⟩
  rw [HBASE.out] at hb1
  have HB1 := Lib.hid hb1
  have HF1 : Hid (Fb base w w1) := Lib.hid (Fb.ofNo hf1)
  clear hb1 hf1
  go_wp2_with fail
  refine (fresh_any base g 0 (by omega) [] w1 HB1.out).mono ?_
  rintro e w2 ⟨rfl, hb2, hf2⟩
  have HB2 : Hid (Bk base (w2.alloc (.cells #[.int .u8 1, .string ⟨#[]⟩, .int .i64 0, .slice none 0 0] 24)) g 1 []) := Lib.hid (hb2.no (Fr.alloc _ _))
  have HF2 := Lib.hid ((HF1.out.trans hf2).then (Fr.alloc w2 (.cells #[.int .u8 1, .string ⟨#[]⟩, .int .i64 0, .slice none 0 0] 24)))
  have HX2 : Hid (At (w2.alloc (.cells #[.int .u8 1, .string ⟨#[]⟩, .int .i64 0, .slice none 0 0] 24)) w2.heap.size (cvar 0)) := Lib.hid (new_block w2 _)
  clear hb2 hf2 HB1
  go_wp2_with fail
  refine (fresh_any base g 1 (by omega) [] _ HB2.out).mono ?_
  rintro e w3 ⟨rfl, hb3, hf3⟩
  have HB3 : Hid (Bk base (w3.alloc (.cells #[.int .u8 1, .string ⟨#[]⟩, .int .i64 1, .slice none 0 0] 24)) g 2 []) := Lib.hid (hb3.no (Fr.alloc _ _))
  have HF3 := Lib.hid ((HF2.out.trans hf3).then (Fr.alloc w3 (.cells #[.int .u8 1, .string ⟨#[]⟩, .int .i64 1, .slice none 0 0] 24)))
  have HX3 := Lib.hid ((HX2.out.fb hf3).no (Fr.alloc w3 (.cells #[.int .u8 1, .string ⟨#[]⟩, .int .i64 1, .slice none 0 0] 24)))
  have HY3 : Hid (At (w3.alloc (.cells #[.int .u8 1, .string ⟨#[]⟩, .int .i64 1, .slice none 0 0] 24)) w3.heap.size (cvar 1)) := Lib.hid (new_block w3 _)
  clear hb3 hf3 HB2 HX2
  go_wp2_with fail
  refine (fresh_any base g 2 (by omega) [] _ HB3.out).mono ?_
  rintro e w4 ⟨rfl, hb4, hf4⟩
  have HB4 : Hid (Bk base (w4.alloc (.cells #[.int .u8 1, .string ⟨#[]⟩, .int .i64 2, .slice none 0 0] 24)) g 3 []) := Lib.hid (hb4.no (Fr.alloc _ _))
  have HF4 := Lib.hid ((HF3.out.trans hf4).then (Fr.alloc w4 (.cells #[.int .u8 1, .string ⟨#[]⟩, .int .i64 2, .slice none 0 0] 24)))
  have HX4 := Lib.hid ((HX3.out.fb hf4).no (Fr.alloc w4 (.cells #[.int .u8 1, .string ⟨#[]⟩, .int .i64 2, .slice none 0 0] 24)))
  have HY4 := Lib.hid ((HY3.out.fb hf4).no (Fr.alloc w4 (.cells #[.int .u8 1, .string ⟨#[]⟩, .int .i64 2, .slice none 0 0] 24)))
  have HZ4 : Hid (At (w4.alloc (.cells #[.int .u8 1, .string ⟨#[]⟩, .int .i64 2, .slice none 0 0] 24)) w4.heap.size (cvar 2)) := Lib.hid (new_block w4 _)
  clear hb4 hf4 HB3 HX3 HY3
  go_wp2_with fail
  refine (con_any sInt none 0 0 _).mono ?_
  rintro e w5 ⟨rfl, hf5⟩
  have HB5 := Lib.hid ((HB4.out.no hf5).no (Fr.alloc w5 (.cells #[.int .u8 2, .string sInt, .int .i64 0, .slice none 0 0] 24)))
  have HF5 := Lib.hid ((HF4.out.then hf5).then (Fr.alloc w5 (.cells #[.int .u8 2, .string sInt, .int .i64 0, .slice none 0 0] 24)))
  have HX5 := Lib.hid ((HX4.out.no hf5).no (Fr.alloc w5 (.cells #[.int .u8 2, .string sInt, .int .i64 0, .slice none 0 0] 24)))
  have HY5 := Lib.hid ((HY4.out.no hf5).no (Fr.alloc w5 (.cells #[.int .u8 2, .string sInt, .int .i64 0, .slice none 0 0] 24)))
  have HZ5 := Lib.hid ((HZ4.out.no hf5).no (Fr.alloc w5 (.cells #[.int .u8 2, .string sInt, .int .i64 0, .slice none 0 0] 24)))
  have HN5 : Hid (At (w5.alloc (.cells #[.int .u8 2, .string sInt, .int .i64 0, .slice none 0 0] 24)) w5.heap.size (ccon sInt)) := Lib.hid (new_block w5 _)
  clear hf5 HB4 HX4 HY4 HZ4
  go_wp2_with fail
  refine (con_any sStr none 0 0 _).mono ?_
  rintro e w6 ⟨rfl, hf6⟩
  have HB6 := Lib.hid ((HB5.out.no hf6).no (Fr.alloc w6 (.cells #[.int .u8 2, .string sStr, .int .i64 0, .slice none 0 0] 24)))
  have HF6 := Lib.hid ((HF5.out.then hf6).then (Fr.alloc w6 (.cells #[.int .u8 2, .string sStr, .int .i64 0, .slice none 0 0] 24)))
  have HX6 := Lib.hid ((HX5.out.no hf6).no (Fr.alloc w6 (.cells #[.int .u8 2, .string sStr, .int .i64 0, .slice none 0 0] 24)))
  have HY6 := Lib.hid ((HY5.out.no hf6).no (Fr.alloc w6 (.cells #[.int .u8 2, .string sStr, .int .i64 0, .slice none 0 0] 24)))
  have HZ6 := Lib.hid ((HZ5.out.no hf6).no (Fr.alloc w6 (.cells #[.int .u8 2, .string sStr, .int .i64 0, .slice none 0 0] 24)))
  have HN6 := Lib.hid ((HN5.out.no hf6).no (Fr.alloc w6 (.cells #[.int .u8 2, .string sStr, .int .i64 0, .slice none 0 0] 24)))
  have HS6 : Hid (At (w6.alloc (.cells #[.int .u8 2, .string sStr, .int .i64 0, .slice none 0 0] 24)) w6.heap.size (ccon sStr)) := Lib.hid (new_block w6 _)
  clear hf6 HB5 HX5 HY5 HZ5 HN5
  go_upto_region 7 with fail
  obtain ⟨wa, hwa⟩ : ∃ wa, w6.alloc (.cells #[.int .u8 2, .string sStr, .int .i64 0, .slice none 0 0] 24) = wa := ⟨_, rfl⟩
  rw [hwa]
  rw [hwa] at HB6 HF6 HX6 HY6 HZ6 HN6 HS6
  obtain ⟨gx, hgx⟩ : ∃ gx, w2.heap.size = gx := ⟨_, rfl⟩
  obtain ⟨gy, hgy⟩ : ∃ gy, w3.heap.size = gy := ⟨_, rfl⟩
  obtain ⟨gz, hgz⟩ : ∃ gz, w4.heap.size = gz := ⟨_, rfl⟩
  obtain ⟨gn, hgn⟩ : ∃ gn, w5.heap.size = gn := ⟨_, rfl⟩
  obtain ⟨gs, hgs⟩ : ∃ gs, w6.heap.size = gs := ⟨_, rfl⟩
  rw [hgx] at HX6 ⊢
  rw [hgy] at HY6 ⊢
  rw [hgz] at HZ6 ⊢
  rw [hgn] at HN6 ⊢
  rw [hgs] at HS6 ⊢
  clear hgx hgy hgz hgn hgs hwa HF1 HF2 HF3 HF4 HF5 w1 w2 w3 w4 w5 w6
  refine region_e (fun w' => (w'.cell? ⟨gx, 0, none⟩ = some (.int .u8 1) ∧ w'.cell? ⟨gx, 1, none⟩ = some (.string ⟨#[]⟩) ∧ w'.cell? ⟨gx, 2, none⟩ = some (.int .i64 0) ∧ w'.cell? ⟨gx, 3, none⟩ = some (.slice none 0 0)) ∧ (w'.cell? ⟨gn, 0, none⟩ = some (.int .u8 2) ∧ w'.cell? ⟨gn, 1, none⟩ = some (.string sInt) ∧ w'.cell? ⟨gn, 2, none⟩ = some (.int .i64 0) ∧ w'.cell? ⟨gn, 3, none⟩ = some (.slice none 0 0)) ∧ (w'.cell? ⟨gy, 0, none⟩ = some (.int .u8 1) ∧ w'.cell? ⟨gy, 1, none⟩ = some (.string ⟨#[]⟩) ∧ w'.cell? ⟨gy, 2, none⟩ = some (.int .i64 1) ∧ w'.cell? ⟨gy, 3, none⟩ = some (.slice none 0 0))) [] (by kernel_rfl) ?_ (fun hHeld => ?_)
  · exact ⟨(HX6.out.no (Fr.drew _)).var, (HN6.out.no (Fr.drew _)).con, (HY6.out.no (Fr.drew _)).var⟩
  refine take_op 0 (some 20) (Op.move ( .tmp 1)) 27 ?_ (by kernel_rfl) (by kernel_rfl) (by kernel_rfl) (fun _ _ _ h => h) ?_ (by assumption) ?_
  rotate_left
  · intro w hSw; (try dsimp only at hSw); go_simp; (try (with_reducible rfl))
  try simp only [Act.put, List.setIfInBounds_toArray, List.set_cons_zero, List.set_cons_succ]
  refine take_op 1 (some 21) (Op.load 24 ( .tmp 2)) 24 ?_ (by kernel_rfl) (by kernel_rfl) (by kernel_rfl) (fun _ _ _ h => h) ?_ (by assumption) ?_
  rotate_left
  · intro w hSw; (try dsimp only at hSw); go_simp; (try (with_reducible rfl))
  try simp only [Act.put, List.setIfInBounds_toArray, List.set_cons_zero, List.set_cons_succ]
  refine take_op 2 (some 22) (Op.load 24 ( .tmp 5)) 24 ?_ (by kernel_rfl) (by kernel_rfl) (by kernel_rfl) (fun _ _ _ h => h) ?_ (by assumption) ?_
  rotate_left
  · intro w hSw; (try dsimp only at hSw); go_simp; (try (with_reducible rfl))
  try simp only [Act.put, List.setIfInBounds_toArray, List.set_cons_zero, List.set_cons_succ]
  refine take_op 4 (some 24) (Op.load 24 ( .tmp 3)) 24 ?_ (by kernel_rfl) (by kernel_rfl) (by kernel_rfl) (fun _ _ _ h => h) ?_ (by assumption) ?_
  rotate_left
  · intro w hSw; (try dsimp only at hSw); go_simp; (try (with_reducible rfl))
  try simp only [Act.put, List.setIfInBounds_toArray, List.set_cons_zero, List.set_cons_succ]
  refine ready_e (rs := [3]) (by kernel_rfl) (by simp) ?_
  refine do_mid (o := _) rfl (fun K hK => ?_) none_e -- slot 23 F31
  go_simp
  go_at_call 31
  refine (fun_any base wx wnum _ _ _ (is_var _ 0) (is_con _ sInt)).mono ?_
  rintro e' wb ⟨v1, rfl, hi1, hfa⟩
  obtain ⟨x0, x1, x2, x3, rfl⟩ := is_agg hi1
  obtain ⟨k1, s1, n1, aa1, m1, c1, rfl, rfl, rfl, rfl⟩ := is_cells hi1
  have HI1 := Lib.hid hi1
  have HFA := Lib.hid ((Fr.drew wa).then hfa)
  clear hi1 hfa
  refine hK.out _ _ ?_ (fun hHeld => ?_)
  · exact ⟨(HX6.out.no HFA.out).var, (HN6.out.no HFA.out).con, (HY6.out.no HFA.out).var⟩
  clear hK K
  try dsimp only
  try simp only [Act.put, List.setIfInBounds_toArray, List.set_cons_zero, List.set_cons_succ]
  refine ready_e (rs := [5]) (by kernel_rfl) (by simp) ?_
  refine do_mid (o := _) rfl (fun K hK => ?_) none_e -- slot 25 F11
  go_simp
  go_at_call 11
  refine (Unify_any base g 3 [] wl1 (ww (.inl rfl)) (funT wx wnum) wy (by decide) (by decide) 0 wu1 _ _ _ (HB6.out.no HFA.out) HI1.out (is_var _ 1)).mono ?_
  rintro e' wc ⟨rfl, hbb, hfb⟩
  have HB7 := Lib.hid hbb
  have HU7 := Lib.hid ((Fb.ofNo (base := base) HFA.out).trans hfb)
  clear hbb hfb
  have HX7 := Lib.hid (HX6.out.fb HU7.out)
  have HY7 := Lib.hid (HY6.out.fb HU7.out)
  have HZ7 := Lib.hid (HZ6.out.fb HU7.out)
  have HN7 := Lib.hid (HN6.out.fb HU7.out)
  have HS7 := Lib.hid (HS6.out.fb HU7.out)
  have HF7 := Lib.hid (HF6.out.trans HU7.out)
  refine hK.out _ _ ?_ (fun hHeld => ?_)
  · exact ⟨(HX6.out.fb HU7.out).var, (HN6.out.fb HU7.out).con, (HY6.out.fb HU7.out).var⟩
  clear hK K
  try dsimp only
  try simp only [Act.put, List.setIfInBounds_toArray, List.set_cons_zero, List.set_cons_succ]
  refine take_op 6 (some 7) (Op.assign ( .tmp 25)) 31 ?_ (by kernel_rfl) (by kernel_rfl) (by kernel_rfl) (fun _ _ _ h => h) ?_ (by assumption) ?_
  rotate_left
  · intro w hSw; (try dsimp only at hSw); go_simp; (try (with_reducible rfl))
  try simp only [Act.put, List.setIfInBounds_toArray, List.set_cons_zero, List.set_cons_succ]
  refine done_e (by kernel_rfl) ?_ _
  clear HB6 HX6 HY6 HZ6 HN6 HS6 HF6 HFA HI1 HU7
  go_upto_region 8 with fail
  refine region_e (fun w' => (w'.cell? ⟨gy, 0, none⟩ = some (.int .u8 1) ∧ w'.cell? ⟨gy, 1, none⟩ = some (.string ⟨#[]⟩) ∧ w'.cell? ⟨gy, 2, none⟩ = some (.int .i64 1) ∧ w'.cell? ⟨gy, 3, none⟩ = some (.slice none 0 0)) ∧ (w'.cell? ⟨gs, 0, none⟩ = some (.int .u8 2) ∧ w'.cell? ⟨gs, 1, none⟩ = some (.string sStr) ∧ w'.cell? ⟨gs, 2, none⟩ = some (.int .i64 0) ∧ w'.cell? ⟨gs, 3, none⟩ = some (.slice none 0 0)) ∧ (w'.cell? ⟨gz, 0, none⟩ = some (.int .u8 1) ∧ w'.cell? ⟨gz, 1, none⟩ = some (.string ⟨#[]⟩) ∧ w'.cell? ⟨gz, 2, none⟩ = some (.int .i64 2) ∧ w'.cell? ⟨gz, 3, none⟩ = some (.slice none 0 0))) [] (by kernel_rfl) ?_ (fun hHeld => ?_)
  · exact ⟨(HY7.out.no (Fr.drew _)).var, (HS7.out.no (Fr.drew _)).con, (HZ7.out.no (Fr.drew _)).var⟩
  refine take_op 0 (some 26) (Op.move ( .tmp 1)) 27 ?_ (by kernel_rfl) (by kernel_rfl) (by kernel_rfl) (fun _ _ _ h => h) ?_ (by assumption) ?_
  rotate_left
  · intro w hSw; (try dsimp only at hSw); go_simp; (try (with_reducible rfl))
  try simp only [Act.put, List.setIfInBounds_toArray, List.set_cons_zero, List.set_cons_succ]
  refine take_op 1 (some 27) (Op.load 24 ( .tmp 3)) 24 ?_ (by kernel_rfl) (by kernel_rfl) (by kernel_rfl) (fun _ _ _ h => h) ?_ (by assumption) ?_
  rotate_left
  · intro w hSw; (try dsimp only at hSw); go_simp; (try (with_reducible rfl))
  try simp only [Act.put, List.setIfInBounds_toArray, List.set_cons_zero, List.set_cons_succ]
  refine take_op 2 (some 28) (Op.load 24 ( .tmp 6)) 24 ?_ (by kernel_rfl) (by kernel_rfl) (by kernel_rfl) (fun _ _ _ h => h) ?_ (by assumption) ?_
  rotate_left
  · intro w hSw; (try dsimp only at hSw); go_simp; (try (with_reducible rfl))
  try simp only [Act.put, List.setIfInBounds_toArray, List.set_cons_zero, List.set_cons_succ]
  refine take_op 3 (some 29) (Op.load 24 ( .tmp 4)) 24 ?_ (by kernel_rfl) (by kernel_rfl) (by kernel_rfl) (fun _ _ _ h => h) ?_ (by assumption) ?_
  rotate_left
  · intro w hSw; (try dsimp only at hSw); go_simp; (try (with_reducible rfl))
  try simp only [Act.put, List.setIfInBounds_toArray, List.set_cons_zero, List.set_cons_succ]
  refine ready_e (rs := [4]) (by kernel_rfl) (by simp) ?_
  refine do_mid (o := _) rfl (fun K hK => ?_) none_e -- slot 30 F31
  go_simp
  go_at_call 31
  refine (fun_any base wstr wz _ _ _ (is_con _ sStr) (is_var _ 2)).mono ?_
  rintro e' wd ⟨v1, rfl, hi1, hfa⟩
  obtain ⟨x0, x1, x2, x3, rfl⟩ := is_agg hi1
  obtain ⟨k1, s1, n1, aa1, m1, c1, rfl, rfl, rfl, rfl⟩ := is_cells hi1
  have HI1 := Lib.hid hi1
  have HFA := Lib.hid ((Fr.drew wc).then hfa)
  clear hi1 hfa
  refine hK.out _ _ ?_ (fun hHeld => ?_)
  · exact ⟨(HY7.out.no HFA.out).var, (HS7.out.no HFA.out).con, (HZ7.out.no HFA.out).var⟩
  clear hK K
  try dsimp only
  try simp only [Act.put, List.setIfInBounds_toArray, List.set_cons_zero, List.set_cons_succ]
  refine ready_e (rs := [5]) (by kernel_rfl) (by simp) ?_
  refine do_mid (o := _) rfl (fun K hK => ?_) none_e -- slot 31 F11
  go_simp
  go_at_call 11
  refine (Unify_any base g 3 wl1 wl2 (ww (.inr (.inl rfl))) wy (funT wstr wz) (by decide) (by decide) 0 wu2 _ _ _ (HB7.out.no HFA.out) (is_var _ 1) HI1.out).mono ?_
  rintro e' we ⟨rfl, hbb, hfb⟩
  have HB8 := Lib.hid hbb
  have HU8 := Lib.hid ((Fb.ofNo (base := base) HFA.out).trans hfb)
  clear hbb hfb
  have HX8 := Lib.hid (HX7.out.fb HU8.out)
  have HY8 := Lib.hid (HY7.out.fb HU8.out)
  have HZ8 := Lib.hid (HZ7.out.fb HU8.out)
  have HN8 := Lib.hid (HN7.out.fb HU8.out)
  have HS8 := Lib.hid (HS7.out.fb HU8.out)
  have HF8 := Lib.hid (HF7.out.trans HU8.out)
  refine hK.out _ _ ?_ (fun hHeld => ?_)
  · exact ⟨(HY7.out.fb HU8.out).var, (HS7.out.fb HU8.out).con, (HZ7.out.fb HU8.out).var⟩
  clear hK K
  try dsimp only
  try simp only [Act.put, List.setIfInBounds_toArray, List.set_cons_zero, List.set_cons_succ]
  refine take_op 6 (some 8) (Op.assign ( .tmp 31)) 31 ?_ (by kernel_rfl) (by kernel_rfl) (by kernel_rfl) (fun _ _ _ h => h) ?_ (by assumption) ?_
  rotate_left
  · intro w hSw; (try dsimp only at hSw); go_simp; (try (with_reducible rfl))
  try simp only [Act.put, List.setIfInBounds_toArray, List.set_cons_zero, List.set_cons_succ]
  refine done_e (by kernel_rfl) ?_ _
  clear HB7 HX7 HY7 HZ7 HN7 HS7 HF7 HFA HI1 HU8
  obtain ⟨p0, p1, p2, p3⟩ := HN8.out.con
  obtain ⟨q0, q1, q2, q3⟩ := HS8.out.con
  go_upto_region 9 with fail
  go_wp2_with fail
  refine (Unify_any base g 3 wl2 wl2 (ww (.inr (.inr rfl))) wnum wstr (by decide) (by decide) 13 wu3 _ _ _ HB8.out (is_con _ sInt) (is_con _ sStr)).mono ?_
  rintro e' wf ⟨rfl, hbb, hfb⟩
  have HB9 := Lib.hid hbb
  have HU9 := Lib.hid hfb
  have HX9 := Lib.hid (HX8.out.fb HU9.out)
  have HY9 := Lib.hid (HY8.out.fb HU9.out)
  have HZ9 := Lib.hid (HZ8.out.fb HU9.out)
  have HN9 := Lib.hid (HN8.out.fb HU9.out)
  have HS9 := Lib.hid (HS8.out.fb HU9.out)
  have HF9 := Lib.hid (HF8.out.trans HU9.out)
  clear hbb hfb p0 p1 p2 p3 q0 q1 q2 q3 HB8 HX8 HY8 HZ8 HN8 HS8 HF8 HU9
  go_upto_region 10 with fail
  refine region_e (fun w' => (w'.cell? ⟨gx, 0, none⟩ = some (.int .u8 1) ∧ w'.cell? ⟨gx, 1, none⟩ = some (.string ⟨#[]⟩) ∧ w'.cell? ⟨gx, 2, none⟩ = some (.int .i64 0) ∧ w'.cell? ⟨gx, 3, none⟩ = some (.slice none 0 0))) [] (by kernel_rfl) ?_ (fun hHeld => ?_)
  · exact (HX9.out.no (Fr.drew _)).var
  refine take_op 0 (some 36) (Op.move ( .tmp 1)) 27 ?_ (by kernel_rfl) (by kernel_rfl) (by kernel_rfl) (fun _ _ _ h => h) ?_ (by assumption) ?_
  rotate_left
  · intro w hSw; (try dsimp only at hSw); go_simp; (try (with_reducible rfl))
  try simp only [Act.put, List.setIfInBounds_toArray, List.set_cons_zero, List.set_cons_succ]
  refine take_op 1 (some 37) (Op.load 24 ( .tmp 2)) 24 ?_ (by kernel_rfl) (by kernel_rfl) (by kernel_rfl) (fun _ _ _ h => h) ?_ (by assumption) ?_
  rotate_left
  · intro w hSw; (try dsimp only at hSw); go_simp; (try (with_reducible rfl))
  try simp only [Act.put, List.setIfInBounds_toArray, List.set_cons_zero, List.set_cons_succ]
  refine take_op 2 (some 38) (Op.load 24 ( .tmp 2)) 24 ?_ (by kernel_rfl) (by kernel_rfl) (by kernel_rfl) (fun _ _ _ h => h) ?_ (by assumption) ?_
  rotate_left
  · intro w hSw; (try dsimp only at hSw); go_simp; (try (with_reducible rfl))
  try simp only [Act.put, List.setIfInBounds_toArray, List.set_cons_zero, List.set_cons_succ]
  refine ready_e (rs := [3]) (by kernel_rfl) (by simp) ?_
  refine do_mid (o := _) rfl (fun K hK => ?_) none_e -- slot 39 buildSlice
  go_simp
  have HBL := Lib.hid (new_block wf.drew (.cells #[.int .u8 1, .string ⟨#[]⟩, .int .i64 0, .slice none 0 0] 24))
  have HFL := Lib.hid ((Fr.drew wf).then (Fr.alloc wf.drew (.cells #[.int .u8 1, .string ⟨#[]⟩, .int .i64 0, .slice none 0 0] 24)))
  refine hK.out _ _ ?_ (fun hHeld => ?_)
  · exact (HX9.out.no HFL.out).var
  clear hK K
  try dsimp only
  try simp only [Act.put, List.setIfInBounds_toArray, List.set_cons_zero, List.set_cons_succ]
  refine ready_e (rs := [4]) (by kernel_rfl) (by simp) ?_
  refine do_mid (o := _) rfl (fun K hK => ?_) none_e -- slot 40 F30
  go_simp
  go_at_call 30
  refine (con_any sList (some ⟨wf.heap.size, 0, none⟩) 1 1 _).mono ?_
  rintro e' wg ⟨rfl, hfa⟩
  have HFA := Lib.hid (HFL.out.then hfa)
  have HI1 : Hid (IsT base wg (conT sList [wx]) (.agg #[.int .u8 2, .string sList, .int .i64 0, .slice (some ⟨wf.heap.size, 0, none⟩) 1 1])) := Lib.hid (is_list (hfa.keeps HBL.out no_one))
  clear hfa
  refine hK.out _ _ ?_ (fun hHeld => ?_)
  · exact (HX9.out.no HFA.out).var
  clear hK K
  try dsimp only
  try simp only [Act.put, List.setIfInBounds_toArray, List.set_cons_zero, List.set_cons_succ]
  refine ready_e (rs := [5]) (by kernel_rfl) (by simp) ?_
  refine do_mid (o := _) rfl (fun K hK => ?_) none_e -- slot 41 F11
  go_simp
  go_at_call 11
  refine (Unify_any base g 3 wl2 wl2 (ww (.inr (.inr rfl))) wx (conT sList [wx]) (by decide) (by decide) 13 wu4 _ _ _ (HB9.out.no HFA.out) (is_var _ 0) HI1.out).mono ?_
  rintro e' wh ⟨rfl, hbb, hfb⟩
  have HB10 := Lib.hid hbb
  have HU10 := Lib.hid ((Fb.ofNo (base := base) HFA.out).trans hfb)
  clear hbb hfb
  have HX10 := Lib.hid (HX9.out.fb HU10.out)
  have HY10 := Lib.hid (HY9.out.fb HU10.out)
  have HZ10 := Lib.hid (HZ9.out.fb HU10.out)
  have HN10 := Lib.hid (HN9.out.fb HU10.out)
  have HS10 := Lib.hid (HS9.out.fb HU10.out)
  have HF10 := Lib.hid (HF9.out.trans HU10.out)
  refine hK.out _ _ ?_ (fun hHeld => ?_)
  · exact (HX9.out.fb HU10.out).var
  clear hK K
  try dsimp only
  try simp only [Act.put, List.setIfInBounds_toArray, List.set_cons_zero, List.set_cons_succ]
  refine take_op 6 (some 10) (Op.assign ( .tmp 41)) 31 ?_ (by kernel_rfl) (by kernel_rfl) (by kernel_rfl) (fun _ _ _ h => h) ?_ (by assumption) ?_
  rotate_left
  · intro w hSw; (try dsimp only at hSw); go_simp; (try (with_reducible rfl))
  try simp only [Act.put, List.setIfInBounds_toArray, List.set_cons_zero, List.set_cons_succ]
  refine done_e (by kernel_rfl) ?_ _
  clear HB9 HX9 HY9 HZ9 HN9 HS9 HF9 HFA HI1 HU10 HBL HFL
  go_upto_region 11 with fail
  refine region_e (fun w' => (w'.cell? ⟨gy, 0, none⟩ = some (.int .u8 1) ∧ w'.cell? ⟨gy, 1, none⟩ = some (.string ⟨#[]⟩) ∧ w'.cell? ⟨gy, 2, none⟩ = some (.int .i64 1) ∧ w'.cell? ⟨gy, 3, none⟩ = some (.slice none 0 0)) ∧ (w'.cell? ⟨gs, 0, none⟩ = some (.int .u8 2) ∧ w'.cell? ⟨gs, 1, none⟩ = some (.string sStr) ∧ w'.cell? ⟨gs, 2, none⟩ = some (.int .i64 0) ∧ w'.cell? ⟨gs, 3, none⟩ = some (.slice none 0 0)) ∧ (w'.cell? ⟨gn, 0, none⟩ = some (.int .u8 2) ∧ w'.cell? ⟨gn, 1, none⟩ = some (.string sInt) ∧ w'.cell? ⟨gn, 2, none⟩ = some (.int .i64 0) ∧ w'.cell? ⟨gn, 3, none⟩ = some (.slice none 0 0))) [] (by kernel_rfl) ?_ (fun hHeld => ?_)
  · exact ⟨(HY10.out.no (Fr.drew _)).var, (HS10.out.no (Fr.drew _)).con, (HN10.out.no (Fr.drew _)).con⟩
  refine take_op 0 (some 42) (Op.move ( .tmp 7)) 31 ?_ (by kernel_rfl) (by kernel_rfl) (by kernel_rfl) (fun _ _ _ h => h) ?_ (by assumption) ?_
  rotate_left
  · intro w hSw; (try dsimp only at hSw); go_simp; (try (with_reducible rfl))
  try simp only [Act.put, List.setIfInBounds_toArray, List.set_cons_zero, List.set_cons_succ]
  refine take_op 1 (some 43) (Op.binOp BinOp.eql 31 ( .tmp 42) ( .const (.int .i64 0)) 31) 4 ?_ (by kernel_rfl) (by kernel_rfl) (by kernel_rfl) (fun _ _ _ h => h) ?_ (by assumption) ?_
  rotate_left
  · intro w hSw; (try dsimp only at hSw); go_simp; (try (with_reducible rfl))
  try simp only [Act.put, List.setIfInBounds_toArray, List.set_cons_zero, List.set_cons_succ]
  refine take_op 2 (some 44) (Op.move ( .tmp 43)) 4 ?_ (by kernel_rfl) (by kernel_rfl) (by kernel_rfl) (fun _ _ _ h => h) ?_ (by assumption) ?_
  rotate_left
  · intro w hSw; (try dsimp only at hSw); go_simp; (try (with_reducible rfl))
  try simp only [Act.put, List.setIfInBounds_toArray, List.set_cons_zero, List.set_cons_succ]
  refine take_op 3 (some 45) (Op.move ( .tmp 8)) 31 ?_ (by kernel_rfl) (by kernel_rfl) (by kernel_rfl) (fun _ _ _ h => h) ?_ (by assumption) ?_
  rotate_left
  · intro w hSw; (try dsimp only at hSw); go_simp; (try (with_reducible rfl))
  try simp only [Act.put, List.setIfInBounds_toArray, List.set_cons_zero, List.set_cons_succ]
  refine take_op 4 (some 46) (Op.binOp BinOp.eql 31 ( .tmp 45) ( .const (.int .i64 0)) 31) 4 ?_ (by kernel_rfl) (by kernel_rfl) (by kernel_rfl) (fun _ _ _ h => h) ?_ (by assumption) ?_
  rotate_left
  · intro w hSw; (try dsimp only at hSw); go_simp; (try (with_reducible rfl))
  try simp only [Act.put, List.setIfInBounds_toArray, List.set_cons_zero, List.set_cons_succ]
  refine take_op 5 (some 47) (Op.pick ( .tmp 44) ( .tmp 46) ( .const (Value.bool false))) 4 ?_ (by kernel_rfl) (by kernel_rfl) (by kernel_rfl) (fun _ _ _ h => h) ?_ (by assumption) ?_
  rotate_left
  · intro w hSw; (try dsimp only at hSw); go_simp; (try (with_reducible rfl))
  try simp only [Act.put, List.setIfInBounds_toArray, List.set_cons_zero, List.set_cons_succ]
  refine take_op 6 (some 48) (Op.move ( .tmp 47)) 4 ?_ (by kernel_rfl) (by kernel_rfl) (by kernel_rfl) (fun _ _ _ h => h) ?_ (by assumption) ?_
  rotate_left
  · intro w hSw; (try dsimp only at hSw); go_simp; (try (with_reducible rfl))
  try simp only [Act.put, List.setIfInBounds_toArray, List.set_cons_zero, List.set_cons_succ]
  refine take_op 7 (some 49) (Op.move ( .tmp 9)) 31 ?_ (by kernel_rfl) (by kernel_rfl) (by kernel_rfl) (fun _ _ _ h => h) ?_ (by assumption) ?_
  rotate_left
  · intro w hSw; (try dsimp only at hSw); go_simp; (try (with_reducible rfl))
  try simp only [Act.put, List.setIfInBounds_toArray, List.set_cons_zero, List.set_cons_succ]
  refine take_op 8 (some 50) (Op.binOp BinOp.eql 31 ( .tmp 49) ( .const (.int .i64 13)) 31) 4 ?_ (by kernel_rfl) (by kernel_rfl) (by kernel_rfl) (fun _ _ _ h => h) ?_ (by assumption) ?_
  rotate_left
  · intro w hSw; (try dsimp only at hSw); go_simp; (try (with_reducible rfl))
  try simp only [Act.put, List.setIfInBounds_toArray, List.set_cons_zero, List.set_cons_succ]
  refine take_op 9 (some 51) (Op.pick ( .tmp 48) ( .tmp 50) ( .const (Value.bool false))) 4 ?_ (by kernel_rfl) (by kernel_rfl) (by kernel_rfl) (fun _ _ _ h => h) ?_ (by assumption) ?_
  rotate_left
  · intro w hSw; (try dsimp only at hSw); go_simp; (try (with_reducible rfl))
  try simp only [Act.put, List.setIfInBounds_toArray, List.set_cons_zero, List.set_cons_succ]
  refine take_op 10 (some 52) (Op.move ( .tmp 51)) 4 ?_ (by kernel_rfl) (by kernel_rfl) (by kernel_rfl) (fun _ _ _ h => h) ?_ (by assumption) ?_
  rotate_left
  · intro w hSw; (try dsimp only at hSw); go_simp; (try (with_reducible rfl))
  try simp only [Act.put, List.setIfInBounds_toArray, List.set_cons_zero, List.set_cons_succ]
  refine take_op 11 (some 53) (Op.move ( .tmp 10)) 31 ?_ (by kernel_rfl) (by kernel_rfl) (by kernel_rfl) (fun _ _ _ h => h) ?_ (by assumption) ?_
  rotate_left
  · intro w hSw; (try dsimp only at hSw); go_simp; (try (with_reducible rfl))
  try simp only [Act.put, List.setIfInBounds_toArray, List.set_cons_zero, List.set_cons_succ]
  refine take_op 12 (some 54) (Op.binOp BinOp.eql 31 ( .tmp 53) ( .const (.int .i64 13)) 31) 4 ?_ (by kernel_rfl) (by kernel_rfl) (by kernel_rfl) (fun _ _ _ h => h) ?_ (by assumption) ?_
  rotate_left
  · intro w hSw; (try dsimp only at hSw); go_simp; (try (with_reducible rfl))
  try simp only [Act.put, List.setIfInBounds_toArray, List.set_cons_zero, List.set_cons_succ]
  refine take_op 13 (some 55) (Op.pick ( .tmp 52) ( .tmp 54) ( .const (Value.bool false))) 4 ?_ (by kernel_rfl) (by kernel_rfl) (by kernel_rfl) (fun _ _ _ h => h) ?_ (by assumption) ?_
  rotate_left
  · intro w hSw; (try dsimp only at hSw); go_simp; (try (with_reducible rfl))
  try simp only [Act.put, List.setIfInBounds_toArray, List.set_cons_zero, List.set_cons_succ]
  refine take_op 14 (some 56) (Op.move ( .tmp 55)) 4 ?_ (by kernel_rfl) (by kernel_rfl) (by kernel_rfl) (fun _ _ _ h => h) ?_ (by assumption) ?_
  rotate_left
  · intro w hSw; (try dsimp only at hSw); go_simp; (try (with_reducible rfl))
  try simp only [Act.put, List.setIfInBounds_toArray, List.set_cons_zero, List.set_cons_succ]
  refine take_op 15 (some 57) (Op.move ( .tmp 1)) 27 ?_ (by kernel_rfl) (by kernel_rfl) (by kernel_rfl) (fun _ _ _ h => h) ?_ (by assumption) ?_
  rotate_left
  · intro w hSw; (try dsimp only at hSw); go_simp; (try (with_reducible rfl))
  try simp only [Act.put, List.setIfInBounds_toArray, List.set_cons_zero, List.set_cons_succ]
  refine take_op 16 (some 58) (Op.load 24 ( .tmp 3)) 24 ?_ (by kernel_rfl) (by kernel_rfl) (by kernel_rfl) (fun _ _ _ h => h) ?_ (by assumption) ?_
  rotate_left
  · intro w hSw; (try dsimp only at hSw); go_simp; (try (with_reducible rfl))
  try simp only [Act.put, List.setIfInBounds_toArray, List.set_cons_zero, List.set_cons_succ]
  refine take_op 18 (some 60) (Op.load 24 ( .tmp 6)) 24 ?_ (by kernel_rfl) (by kernel_rfl) (by kernel_rfl) (fun _ _ _ h => h) ?_ (by assumption) ?_
  rotate_left
  · intro w hSw; (try dsimp only at hSw); go_simp; (try (with_reducible rfl))
  try simp only [Act.put, List.setIfInBounds_toArray, List.set_cons_zero, List.set_cons_succ]
  refine take_op 19 (some 61) (Op.load 24 ( .tmp 5)) 24 ?_ (by kernel_rfl) (by kernel_rfl) (by kernel_rfl) (fun _ _ _ h => h) ?_ (by assumption) ?_
  rotate_left
  · intro w hSw; (try dsimp only at hSw); go_simp; (try (with_reducible rfl))
  try simp only [Act.put, List.setIfInBounds_toArray, List.set_cons_zero, List.set_cons_succ]
  refine ready_e (rs := [17]) (by kernel_rfl) (by simp) ?_
  refine do_mid (o := _) rfl (fun K hK => ?_) none_e -- slot 59 F14
  go_simp
  go_at_call 14
  refine (Apply_any base _ g 3 wl2 (ww (.inr (.inr rfl))).fine wy (funT wstr wnum) (by decide) wAp _ _ (HB10.out.no (Fr.drew _)).reads (Nat.le_refl _) (is_var _ 1)).mono ?_
  rintro e' wi ⟨v1, rfl, hi1, hfa⟩
  obtain ⟨x0, x1, x2, x3, rfl⟩ := is_agg hi1
  obtain ⟨k1, s1, n1, aa1, m1, c1, rfl, rfl, rfl, rfl⟩ := is_cells hi1
  have HI1 := Lib.hid hi1
  have HFA := Lib.hid ((Fr.drew wh).then hfa)
  clear hi1 hfa
  refine hK.out _ _ ?_ (fun hHeld => ?_)
  · exact ⟨(HY10.out.no HFA.out).var, (HS10.out.no HFA.out).con, (HN10.out.no HFA.out).con⟩
  clear hK K
  try dsimp only
  try simp only [Act.put, List.setIfInBounds_toArray, List.set_cons_zero, List.set_cons_succ]
  refine ready_e (rs := [20]) (by kernel_rfl) (by simp) ?_
  refine do_mid (o := _) rfl (fun K hK => ?_) none_e -- slot 62 F31
  go_simp
  go_at_call 31
  refine (fun_any base wstr wnum _ _ _ (is_con _ sStr) (is_con _ sInt)).mono ?_
  rintro e' wj ⟨v2, rfl, hi2, hfc⟩
  obtain ⟨x0, x1, x2, x3, rfl⟩ := is_agg hi2
  obtain ⟨k2, s2, n2, aa2, m2, c2, rfl, rfl, rfl, rfl⟩ := is_cells hi2
  have HI2 := Lib.hid hi2
  have HI1' := Lib.hid (HI1.out.no hfc)
  have HFC := Lib.hid (HFA.out.then hfc)
  clear hi2 hfc
  refine hK.out _ _ ?_ (fun hHeld => ?_)
  · exact ⟨(HY10.out.no HFC.out).var, (HS10.out.no HFC.out).con, (HN10.out.no HFC.out).con⟩
  clear hK K
  try dsimp only
  try simp only [Act.put, List.setIfInBounds_toArray, List.set_cons_zero, List.set_cons_succ]
  refine ready_e (rs := [21]) (by kernel_rfl) (by simp) ?_
  refine do_mid (o := _) rfl (fun K hK => ?_) none_e -- slot 63 F13
  go_simp
  go_at_call 13
  refine (rsame_any 3 (funT wstr wnum) (by decide) (by decide) (funT wstr wnum) (by decide) _ _ _ _ _ _ _ HI1'.out HI2.out).mono ?_
  rintro e' wk ⟨rfl, hfd⟩
  have HFD := Lib.hid (HFC.out.then hfd)
  have HSM : Hid (same (funT wstr wnum) (funT wstr wnum) = true) := Lib.hid wsame
  rw [HSM.out]
  clear hfd
  refine hK.out _ _ ?_ (fun hHeld => ?_)
  · exact ⟨(HY10.out.no HFD.out).var, (HS10.out.no HFD.out).con, (HN10.out.no HFD.out).con⟩
  clear hK K
  try dsimp only
  try simp only [Act.put, List.setIfInBounds_toArray, List.set_cons_zero, List.set_cons_succ]
  refine take_op 22 (some 64) (Op.pick ( .tmp 56) ( .tmp 63) ( .const (Value.bool false))) 4 ?_ (by kernel_rfl) (by kernel_rfl) (by kernel_rfl) (fun _ _ _ h => h) ?_ (by assumption) ?_
  rotate_left
  · intro w hSw; (try dsimp only at hSw); go_simp; (try (with_reducible rfl))
  try simp only [Act.put, List.setIfInBounds_toArray, List.set_cons_zero, List.set_cons_succ]
  refine take_op 23 (some 0) (Op.assign ( .tmp 64)) 4 ?_ (by kernel_rfl) (by kernel_rfl) (by kernel_rfl) (fun _ _ _ h => h) ?_ (by assumption) ?_
  rotate_left
  · intro w hSw; (try dsimp only at hSw); go_simp; (try (with_reducible rfl))
  try simp only [Act.put, List.setIfInBounds_toArray, List.set_cons_zero, List.set_cons_succ]
  refine done_e (by kernel_rfl) ?_ _
  go_wp2_with fail
  go_ret
  exact ⟨rfl, (HF10.out.then HFD.out).new (Nat.le_of_eq HBASE.out)⟩
end Go.Proofs.Ytfjddfcndammdaa
