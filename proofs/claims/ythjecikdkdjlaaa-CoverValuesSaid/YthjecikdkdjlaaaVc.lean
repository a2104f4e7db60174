/- The patterns that may stand at a place. -/
import Derived.Test.YthjecikdkdjlaaaVa
import Derived.Test.YthjecikdkdjlaaaFitsL
namespace Go.Proofs.Ythjecikdkdjlaaa
open Go.RowKit

set_option maxHeartbeats 2000000 in
set_option maxRecDepth 100000 in
theorem patterns_any (k : Nat) (hk : k ≤ 255) (w : World) : Calls Try.prog 14 #[.int .u8 k] w fun e w' => Fr No w w' ∧ ∃ g, e = .returned (.slice (some ⟨g, 0, none⟩) 5 5) ∧ Row 0 (fun b => w.heap.size ≤ b) w' (some ⟨g, 0, none⟩) 0 (pats0 (tyOf k)) := by
  have hm : Int.tmod (k : Int) 4 = ((k % 4 : Nat) : Int) := rfl
  obtain ⟨T, hT⟩ : ∃ T, tyOf k = T := ⟨_, rfl⟩
  rw [hT]
  have hT := Lib.hid hT
  obtain ⟨w0, hw0⟩ : ∃ w0, w.alloc (.cells #[.int .u8 2, .string ⟨#[120]⟩, .int .i64 0, .slice none 0 0] 40) = w0 := ⟨_, rfl⟩
  obtain ⟨gx, hgx⟩ : ∃ gx, w.heap.size = gx := ⟨_, rfl⟩
  have R0 : Hid (w0.heap[gx]? = some (.cells #[.int .u8 2, .string ⟨#[120]⟩, .int .i64 0, .slice none 0 0] 40 (0, 0))) := Lib.hid (by rw [← hw0, ← hgx]; exact new_block _ _)
  have HF0 : Hid (Fr No w w0) := Lib.hid (by rw [← hw0]; exact Fr.alloc _ _)
  have HS : Hid (∀ w', Fr No w0 w' → w'.cell? ⟨gx, 0, none⟩ = some (.int .u8 2) ∧ w'.cell? ⟨gx, 1, none⟩ = some (.string ⟨#[120]⟩) ∧ w'.cell? ⟨gx, 2, none⟩ = some (.int .i64 0) ∧ w'.cell? ⟨gx, 3, none⟩ = some (.slice none 0 0)) := Lib.hid (fun w' hf => ⟨cell_of (hf.keeps R0.out no_one) 0, cell_of (hf.keeps R0.out no_one) 1, cell_of (hf.keeps R0.out no_one) 2, cell_of (hf.keeps R0.out no_one) 3⟩)
  have HW0 := Lib.hid hw0
  have HGX := Lib.hid hgx
  clear hw0 hgx
  have h4 : k % 4 = 0 ∨ k % 4 = 1 ∨ k % 4 = 2 ∨ k % 4 = 3 := by omega
  rcases h4 with h | h | h | h
  · obtain rfl : T = .b := by rw [← hT.out, tyOf, if_pos h]
    rw [h] at hm
    have hm0 : Int.tmod (k : Int) 4 = 0 := hm
    clear h hm hT
    go_enter Try.func14, Try.ntmps14
    go_upto_region 2 with fail
    rw [HW0.out, HGX.out]
    clear HW0 HGX
    go_upto_region 4 with fail
    refine region_e (fun w' => w'.cell? ⟨gx, 0, none⟩ = some (.int .u8 2) ∧ w'.cell? ⟨gx, 1, none⟩ = some (.string ⟨#[120]⟩) ∧ w'.cell? ⟨gx, 2, none⟩ = some (.int .i64 0) ∧ w'.cell? ⟨gx, 3, none⟩ = some (.slice none 0 0)) [] (by kernel_rfl) ?_ (fun hHeld => ?_)
    · exact HS.out _ (Fr.drew _)
    obtain ⟨wd, hwd⟩ : ∃ wd, wd = w0.drew := ⟨_, rfl⟩
    have HFd : Hid (Fr No w0 wd) := Lib.hid (by rw [hwd]; exact Fr.drew _)
    rw [← hwd] at hHeld ⊢
    clear hwd
    refine take_op 1 (some 10) (Op.load 40 ( .tmp 3)) 40 ?_ (by kernel_rfl) (by kernel_rfl) (by kernel_rfl) (fun _ _ _ h => h) ?_ (by assumption) ?_
    rotate_left
    · intro w hSw; (try dsimp only at hSw); go_simp; (try (with_reducible rfl))
    try simp only [Act.put, List.setIfInBounds_toArray, List.set_cons_zero, List.set_cons_succ]
    refine ready_e (rs := [0]) (by kernel_rfl) (by simp) ?_
    refine (do_mid (o := _) rfl (fun K hK => ?_) none_e) -- [(9, 'F18')]
    go_simp
    go_at_call 18
    refine (wildf_any _).mono ?_
    rintro e' wz1 ⟨rfl, hf⟩
    have HZ1 : Hid (Fr No w0 wz1) := Lib.hid ((HFd.out).then hf)
    have DZ1 : Hid (Fr No (wd) wz1) := Lib.hid hf
    clear hf
    refine hK.out _ _ ?_ (fun hHeld => ?_)
    · exact HS.out _ HZ1.out
    clear hK K
    try dsimp only
    try simp only [Act.put, List.setIfInBounds_toArray, List.set_cons_zero, List.set_cons_succ]
    refine ready_e (rs := [2]) (by kernel_rfl) (by simp) ?_
    refine (do_mid (o := _) rfl (fun K hK => ?_) none_e) -- [(11, 'F19')]
    go_simp
    go_at_call 19
    refine (con_any _ _ _ _ _).mono ?_
    rintro e' wz2 ⟨rfl, hf⟩
    have HZ2 : Hid (Fr No w0 wz2) := Lib.hid ((HZ1.out).then hf)
    have DZ2 : Hid (Fr No (wz1) wz2) := Lib.hid hf
    clear hf
    refine hK.out _ _ ?_ (fun hHeld => ?_)
    · exact HS.out _ HZ2.out
    clear hK K
    try dsimp only
    try simp only [Act.put, List.setIfInBounds_toArray, List.set_cons_zero, List.set_cons_succ]
    refine ready_e (rs := [3]) (by kernel_rfl) (by simp) ?_
    refine (do_mid (o := _) rfl (fun K hK => ?_) none_e) -- [(12, 'F19')]
    go_simp
    go_at_call 19
    refine (con_any _ _ _ _ _).mono ?_
    rintro e' wz3 ⟨rfl, hf⟩
    have HZ3 : Hid (Fr No w0 wz3) := Lib.hid ((HZ2.out).then hf)
    have DZ3 : Hid (Fr No (wz2) wz3) := Lib.hid hf
    clear hf
    refine hK.out _ _ ?_ (fun hHeld => ?_)
    · exact HS.out _ HZ3.out
    clear hK K
    try dsimp only
    try simp only [Act.put, List.setIfInBounds_toArray, List.set_cons_zero, List.set_cons_succ]
    refine ready_e (rs := [4]) (by kernel_rfl) (by simp) ?_
    refine (do_mid (o := _) rfl (fun K hK => ?_) none_e) -- [(13, 'F19')]
    go_simp
    go_at_call 19
    refine (con_any _ _ _ _ _).mono ?_
    rintro e' wz4 ⟨rfl, hf⟩
    have HZ4 : Hid (Fr No w0 wz4) := Lib.hid ((HZ3.out).then hf)
    have DZ4 : Hid (Fr No (wz3) wz4) := Lib.hid hf
    clear hf
    refine hK.out _ _ ?_ (fun hHeld => ?_)
    · exact HS.out _ HZ4.out
    clear hK K
    try dsimp only
    try simp only [Act.put, List.setIfInBounds_toArray, List.set_cons_zero, List.set_cons_succ]
    refine ready_e (rs := [5]) (by kernel_rfl) (by simp) ?_
    refine (do_mid (o := _) rfl (fun K hK => ?_) none_e) -- [(14, 'buildSlice')]
    go_simp
    obtain ⟨wz5, hn⟩ : ∃ w8, w8 = (wz4).alloc (.cells #[.int .u8 1, .string ⟨#[]⟩, .int .i64 0, .slice none 0 0, .int .u8 2, .string ⟨#[120]⟩, .int .i64 0, .slice none 0 0, .int .u8 6, .string ⟨#[102, 97, 108, 115, 101]⟩, .int .i64 0, .slice none 0 0, .int .u8 6, .string ⟨#[116, 114, 117, 101]⟩, .int .i64 0, .slice none 0 0, .int .u8 6, .string ⟨#[116, 114, 117, 101]⟩, .int .i64 0, .slice none 0 0] 40) := ⟨_, rfl⟩
    obtain ⟨B_5, hg8⟩ : ∃ g8, (wz4).heap.size = g8 := ⟨_, rfl⟩
    have R_5 : Hid (wz5.heap[B_5]? = some (.cells #[.int .u8 1, .string ⟨#[]⟩, .int .i64 0, .slice none 0 0, .int .u8 2, .string ⟨#[120]⟩, .int .i64 0, .slice none 0 0, .int .u8 6, .string ⟨#[102, 97, 108, 115, 101]⟩, .int .i64 0, .slice none 0 0, .int .u8 6, .string ⟨#[116, 114, 117, 101]⟩, .int .i64 0, .slice none 0 0, .int .u8 6, .string ⟨#[116, 114, 117, 101]⟩, .int .i64 0, .slice none 0 0] 40 (0, 0))) := Lib.hid (by rw [hn, ← hg8]; exact new_block _ _)
    have HZ5 : Hid (Fr No w0 wz5) := Lib.hid (by rw [hn]; exact (HZ4.out).then (Fr.alloc _ _))
    have DZ5 : Hid (Fr No (wz4) wz5) := Lib.hid (by rw [hn]; exact Fr.alloc _ _)
    have S_5 : Hid (w0.heap.size ≤ B_5) := Lib.hid (by rw [← hg8]; exact (HZ4.out).size)
    rw [← hn, hg8]
    clear hn hg8
    refine hK.out _ _ ?_ (fun hHeld => ?_)
    · exact HS.out _ HZ5.out
    clear hK K
    try dsimp only
    try simp only [Act.put, List.setIfInBounds_toArray, List.set_cons_zero, List.set_cons_succ]
    refine take_op 6 (some 2) (Op.assign ( .tmp 14)) 22 ?_ (by kernel_rfl) (by kernel_rfl) (by kernel_rfl) (fun _ _ _ h => h) ?_ (by assumption) ?_
    rotate_left
    · intro w hSw; (try dsimp only at hSw); go_simp; (try (with_reducible rfl))
    try simp only [Act.put, List.setIfInBounds_toArray, List.set_cons_zero, List.set_cons_succ]
    refine done_e (by kernel_rfl) ?_ _
    (try simp only [Exit.inBlock, Exit.then])
    go_wp2_with fail
    go_ret
    refine ⟨HF0.out.then (HZ5.out), _, rfl, row_lits _ ((Fr.refl _ _).keeps R_5.out no_one) (Nat.le_trans HF0.out.size S_5.out) fun j t hj => ?_⟩
    have hj5 : j < 5 := (List.getElem?_eq_some_iff.1 hj).1
    have h5 : j = 0 ∨ j = 1 ∨ j = 2 ∨ j = 3 ∨ j = 4 := by omega
    rcases h5 with rfl | rfl | rfl | rfl | rfl <;> cases hj
    · exact ⟨_, _, _, _, rfl, rfl, rfl, rfl, is_none' 1 _ 0⟩
    · exact ⟨_, _, _, _, rfl, rfl, rfl, rfl, is_none' 2 _ 0⟩
    · exact ⟨_, _, _, _, rfl, rfl, rfl, rfl, is_none' 6 _ 0⟩
    · exact ⟨_, _, _, _, rfl, rfl, rfl, rfl, is_none' 6 _ 0⟩
    · exact ⟨_, _, _, _, rfl, rfl, rfl, rfl, is_none' 6 _ 0⟩
  · obtain rfl : T = .n := by rw [← hT.out, tyOf, if_neg (by omega), if_pos h]
    rw [h] at hm
    have hm0 : Int.tmod (k : Int) 4 = 1 := hm
    clear h hm hT
    go_enter Try.func14, Try.ntmps14
    go_upto_region 2 with fail
    rw [HW0.out, HGX.out]
    clear HW0 HGX
    go_upto_region 6 with fail
    refine region_e (fun w' => w'.cell? ⟨gx, 0, none⟩ = some (.int .u8 2) ∧ w'.cell? ⟨gx, 1, none⟩ = some (.string ⟨#[120]⟩) ∧ w'.cell? ⟨gx, 2, none⟩ = some (.int .i64 0) ∧ w'.cell? ⟨gx, 3, none⟩ = some (.slice none 0 0)) [] (by kernel_rfl) ?_ (fun hHeld => ?_)
    · exact HS.out _ (Fr.drew _)
    obtain ⟨wd, hwd⟩ : ∃ wd, wd = w0.drew := ⟨_, rfl⟩
    have HFd : Hid (Fr No w0 wd) := Lib.hid (by rw [hwd]; exact Fr.drew _)
    rw [← hwd] at hHeld ⊢
    clear hwd
    refine take_op 1 (some 18) (Op.load 40 ( .tmp 3)) 40 ?_ (by kernel_rfl) (by kernel_rfl) (by kernel_rfl) (fun _ _ _ h => h) ?_ (by assumption) ?_
    rotate_left
    · intro w hSw; (try dsimp only at hSw); go_simp; (try (with_reducible rfl))
    try simp only [Act.put, List.setIfInBounds_toArray, List.set_cons_zero, List.set_cons_succ]
    refine take_op 2 (some 19) (Op.build 40 #[(0,  .const (.int .u8 3))]) 40 ?_ (by kernel_rfl) (by kernel_rfl) (by kernel_rfl) (fun _ _ _ h => h) ?_ (by assumption) ?_
    rotate_left
    · intro w hSw; (try dsimp only at hSw); go_simp; (try (with_reducible rfl))
    try simp only [Act.put, List.setIfInBounds_toArray, List.set_cons_zero, List.set_cons_succ]
    refine take_op 3 (some 20) (Op.build 40 #[(0,  .const (.int .u8 3)), (2,  .const (.int .i64 1))]) 40 ?_ (by kernel_rfl) (by kernel_rfl) (by kernel_rfl) (fun _ _ _ h => h) ?_ (by assumption) ?_
    rotate_left
    · intro w hSw; (try dsimp only at hSw); go_simp; (try (with_reducible rfl))
    try simp only [Act.put, List.setIfInBounds_toArray, List.set_cons_zero, List.set_cons_succ]
    refine take_op 4 (some 21) (Op.build 40 #[(0,  .const (.int .u8 3)), (2,  .const (.int .i64 2))]) 40 ?_ (by kernel_rfl) (by kernel_rfl) (by kernel_rfl) (fun _ _ _ h => h) ?_ (by assumption) ?_
    rotate_left
    · intro w hSw; (try dsimp only at hSw); go_simp; (try (with_reducible rfl))
    try simp only [Act.put, List.setIfInBounds_toArray, List.set_cons_zero, List.set_cons_succ]
    refine ready_e (rs := [0]) (by kernel_rfl) (by simp) ?_
    refine (do_mid (o := _) rfl (fun K hK => ?_) none_e) -- [(17, 'F18')]
    go_simp
    go_at_call 18
    refine (wildf_any _).mono ?_
    rintro e' wz1 ⟨rfl, hf⟩
    have HZ1 : Hid (Fr No w0 wz1) := Lib.hid ((HFd.out).then hf)
    have DZ1 : Hid (Fr No (wd) wz1) := Lib.hid hf
    clear hf
    refine hK.out _ _ ?_ (fun hHeld => ?_)
    · exact HS.out _ HZ1.out
    clear hK K
    try dsimp only
    try simp only [Act.put, List.setIfInBounds_toArray, List.set_cons_zero, List.set_cons_succ]
    refine ready_e (rs := [5]) (by kernel_rfl) (by simp) ?_
    refine (do_mid (o := _) rfl (fun K hK => ?_) none_e) -- [(22, 'buildSlice')]
    go_simp
    obtain ⟨wz2, hn⟩ : ∃ w8, w8 = (wz1).alloc (.cells #[.int .u8 1, .string ⟨#[]⟩, .int .i64 0, .slice none 0 0, .int .u8 2, .string ⟨#[120]⟩, .int .i64 0, .slice none 0 0, .int .u8 3, .string ⟨#[]⟩, .int .i64 0, .slice none 0 0, .int .u8 3, .string ⟨#[]⟩, .int .i64 1, .slice none 0 0, .int .u8 3, .string ⟨#[]⟩, .int .i64 2, .slice none 0 0] 40) := ⟨_, rfl⟩
    obtain ⟨B_2, hg8⟩ : ∃ g8, (wz1).heap.size = g8 := ⟨_, rfl⟩
    have R_2 : Hid (wz2.heap[B_2]? = some (.cells #[.int .u8 1, .string ⟨#[]⟩, .int .i64 0, .slice none 0 0, .int .u8 2, .string ⟨#[120]⟩, .int .i64 0, .slice none 0 0, .int .u8 3, .string ⟨#[]⟩, .int .i64 0, .slice none 0 0, .int .u8 3, .string ⟨#[]⟩, .int .i64 1, .slice none 0 0, .int .u8 3, .string ⟨#[]⟩, .int .i64 2, .slice none 0 0] 40 (0, 0))) := Lib.hid (by rw [hn, ← hg8]; exact new_block _ _)
    have HZ2 : Hid (Fr No w0 wz2) := Lib.hid (by rw [hn]; exact (HZ1.out).then (Fr.alloc _ _))
    have DZ2 : Hid (Fr No (wz1) wz2) := Lib.hid (by rw [hn]; exact Fr.alloc _ _)
    have S_2 : Hid (w0.heap.size ≤ B_2) := Lib.hid (by rw [← hg8]; exact (HZ1.out).size)
    rw [← hn, hg8]
    clear hn hg8
    refine hK.out _ _ ?_ (fun hHeld => ?_)
    · exact HS.out _ HZ2.out
    clear hK K
    try dsimp only
    try simp only [Act.put, List.setIfInBounds_toArray, List.set_cons_zero, List.set_cons_succ]
    refine take_op 6 (some 2) (Op.assign ( .tmp 22)) 22 ?_ (by kernel_rfl) (by kernel_rfl) (by kernel_rfl) (fun _ _ _ h => h) ?_ (by assumption) ?_
    rotate_left
    · intro w hSw; (try dsimp only at hSw); go_simp; (try (with_reducible rfl))
    try simp only [Act.put, List.setIfInBounds_toArray, List.set_cons_zero, List.set_cons_succ]
    refine done_e (by kernel_rfl) ?_ _
    (try simp only [Exit.inBlock, Exit.then])
    go_wp2_with fail
    go_ret
    refine ⟨HF0.out.then (HZ2.out), _, rfl, row_lits _ ((Fr.refl _ _).keeps R_2.out no_one) (Nat.le_trans HF0.out.size S_2.out) fun j t hj => ?_⟩
    have hj5 : j < 5 := (List.getElem?_eq_some_iff.1 hj).1
    have h5 : j = 0 ∨ j = 1 ∨ j = 2 ∨ j = 3 ∨ j = 4 := by omega
    rcases h5 with rfl | rfl | rfl | rfl | rfl <;> cases hj
    · exact ⟨_, _, _, _, rfl, rfl, rfl, rfl, is_none' 1 _ 0⟩
    · exact ⟨_, _, _, _, rfl, rfl, rfl, rfl, is_none' 2 _ 0⟩
    · exact ⟨_, _, _, _, rfl, rfl, rfl, rfl, is_none' 3 _ 0⟩
    · exact ⟨_, _, _, _, rfl, rfl, rfl, rfl, is_none' 3 _ 1⟩
    · exact ⟨_, _, _, _, rfl, rfl, rfl, rfl, is_none' 3 _ 2⟩
  · obtain rfl : T = .o := by rw [← hT.out, tyOf, if_neg (by omega), if_neg (by omega), if_pos h]
    rw [h] at hm
    have hm0 : Int.tmod (k : Int) 4 = 2 := hm
    clear h hm hT
    go_enter Try.func14, Try.ntmps14
    go_upto_region 2 with fail
    rw [HW0.out, HGX.out]
    clear HW0 HGX
    go_upto_region 8 with fail
    refine region_e (fun w' => w'.cell? ⟨gx, 0, none⟩ = some (.int .u8 2) ∧ w'.cell? ⟨gx, 1, none⟩ = some (.string ⟨#[120]⟩) ∧ w'.cell? ⟨gx, 2, none⟩ = some (.int .i64 0) ∧ w'.cell? ⟨gx, 3, none⟩ = some (.slice none 0 0)) [] (by kernel_rfl) ?_ (fun hHeld => ?_)
    · exact HS.out _ (Fr.drew _)
    obtain ⟨wd, hwd⟩ : ∃ wd, wd = w0.drew := ⟨_, rfl⟩
    have HFd : Hid (Fr No w0 wd) := Lib.hid (by rw [hwd]; exact Fr.drew _)
    rw [← hwd] at hHeld ⊢
    clear hwd
    refine take_op 2 (some 27) (Op.load 40 ( .tmp 3)) 40 ?_ (by kernel_rfl) (by kernel_rfl) (by kernel_rfl) (fun _ _ _ h => h) ?_ (by assumption) ?_
    rotate_left
    · intro w hSw; (try dsimp only at hSw); go_simp; (try (with_reducible rfl))
    try simp only [Act.put, List.setIfInBounds_toArray, List.set_cons_zero, List.set_cons_succ]
    refine ready_e (rs := [0, 3]) (by kernel_rfl) (by simp) ?_
    refine (do_mid (o := _) rfl (fun K hK => ?_) (do_mid (o := _) rfl (fun K hK => ?_) none_e)) -- [(25, 'F18'), (28, 'buildSlice')]
    · skip
      go_simp
      go_at_call 18
      refine (wildf_any _).mono ?_
      rintro e' wz1 ⟨rfl, hf⟩
      have HZ1 : Hid (Fr No w0 wz1) := Lib.hid ((HFd.out).then hf)
      have DZ1 : Hid (Fr No (wd) wz1) := Lib.hid hf
      clear hf
      refine hK.out _ _ ?_ (fun hHeld => ?_)
      · exact HS.out _ HZ1.out
      clear hK K
      try dsimp only
      try simp only [Act.put, List.setIfInBounds_toArray, List.set_cons_zero, List.set_cons_succ]
      refine ready_e (rs := [1, 3]) (by kernel_rfl) (by simp) ?_
      refine (do_mid (o := _) rfl (fun K hK => ?_) (do_mid (o := _) rfl (fun K hK => ?_) none_e)) -- [(26, 'F19'), (28, 'buildSlice')]
      · skip
        go_simp
        go_at_call 19
        refine (con_any _ _ _ _ _).mono ?_
        rintro e' wz2 ⟨rfl, hf⟩
        have HZ2 : Hid (Fr No w0 wz2) := Lib.hid ((HZ1.out).then hf)
        have DZ2 : Hid (Fr No (wz1) wz2) := Lib.hid hf
        clear hf
        refine hK.out _ _ ?_ (fun hHeld => ?_)
        · exact HS.out _ HZ2.out
        clear hK K
        try dsimp only
        try simp only [Act.put, List.setIfInBounds_toArray, List.set_cons_zero, List.set_cons_succ]
        refine ready_e (rs := [3]) (by kernel_rfl) (by simp) ?_
        refine (do_mid (o := _) rfl (fun K hK => ?_) none_e) -- [(28, 'buildSlice')]
        go_simp
        obtain ⟨wz3, hn⟩ : ∃ w8, w8 = (wz2).alloc (.cells #[.int .u8 2, .string ⟨#[120]⟩, .int .i64 0, .slice none 0 0] 40) := ⟨_, rfl⟩
        obtain ⟨B_3, hg8⟩ : ∃ g8, (wz2).heap.size = g8 := ⟨_, rfl⟩
        have R_3 : Hid (wz3.heap[B_3]? = some (.cells #[.int .u8 2, .string ⟨#[120]⟩, .int .i64 0, .slice none 0 0] 40 (0, 0))) := Lib.hid (by rw [hn, ← hg8]; exact new_block _ _)
        have HZ3 : Hid (Fr No w0 wz3) := Lib.hid (by rw [hn]; exact (HZ2.out).then (Fr.alloc _ _))
        have DZ3 : Hid (Fr No (wz2) wz3) := Lib.hid (by rw [hn]; exact Fr.alloc _ _)
        have S_3 : Hid (w0.heap.size ≤ B_3) := Lib.hid (by rw [← hg8]; exact (HZ2.out).size)
        rw [← hn, hg8]
        clear hn hg8
        refine hK.out _ _ ?_ (fun hHeld => ?_)
        · exact HS.out _ HZ3.out
        clear hK K
        try dsimp only
        try simp only [Act.put, List.setIfInBounds_toArray, List.set_cons_zero, List.set_cons_succ]
        refine ready_e (rs := [4]) (by kernel_rfl) (by simp) ?_
        refine (do_mid (o := _) rfl (fun K hK => ?_) none_e) -- [(29, 'F19')]
        go_simp
        go_at_call 19
        refine (con_any _ _ _ _ _).mono ?_
        rintro e' wz4 ⟨rfl, hf⟩
        have HZ4 : Hid (Fr No w0 wz4) := Lib.hid ((HZ3.out).then hf)
        have DZ4 : Hid (Fr No (wz3) wz4) := Lib.hid hf
        clear hf
        refine hK.out _ _ ?_ (fun hHeld => ?_)
        · exact HS.out _ HZ4.out
        clear hK K
        try dsimp only
        try simp only [Act.put, List.setIfInBounds_toArray, List.set_cons_zero, List.set_cons_succ]
        refine ready_e (rs := [5]) (by kernel_rfl) (by simp) ?_
        refine (do_mid (o := _) rfl (fun K hK => ?_) none_e) -- [(30, 'F19')]
        go_simp
        go_at_call 19
        refine (con_any _ _ _ _ _).mono ?_
        rintro e' wz5 ⟨rfl, hf⟩
        have HZ5 : Hid (Fr No w0 wz5) := Lib.hid ((HZ4.out).then hf)
        have DZ5 : Hid (Fr No (wz4) wz5) := Lib.hid hf
        clear hf
        refine hK.out _ _ ?_ (fun hHeld => ?_)
        · exact HS.out _ HZ5.out
        clear hK K
        try dsimp only
        try simp only [Act.put, List.setIfInBounds_toArray, List.set_cons_zero, List.set_cons_succ]
        refine ready_e (rs := [6]) (by kernel_rfl) (by simp) ?_
        refine (do_mid (o := _) rfl (fun K hK => ?_) none_e) -- [(31, 'buildSlice')]
        go_simp
        obtain ⟨wz6, hn⟩ : ∃ w8, w8 = (wz5).alloc (.cells #[.int .u8 6, .string ⟨#[116, 114, 117, 101]⟩, .int .i64 0, .slice none 0 0] 40) := ⟨_, rfl⟩
        obtain ⟨B_6, hg8⟩ : ∃ g8, (wz5).heap.size = g8 := ⟨_, rfl⟩
        have R_6 : Hid (wz6.heap[B_6]? = some (.cells #[.int .u8 6, .string ⟨#[116, 114, 117, 101]⟩, .int .i64 0, .slice none 0 0] 40 (0, 0))) := Lib.hid (by rw [hn, ← hg8]; exact new_block _ _)
        have HZ6 : Hid (Fr No w0 wz6) := Lib.hid (by rw [hn]; exact (HZ5.out).then (Fr.alloc _ _))
        have DZ6 : Hid (Fr No (wz5) wz6) := Lib.hid (by rw [hn]; exact Fr.alloc _ _)
        have S_6 : Hid (w0.heap.size ≤ B_6) := Lib.hid (by rw [← hg8]; exact (HZ5.out).size)
        rw [← hn, hg8]
        clear hn hg8
        refine hK.out _ _ ?_ (fun hHeld => ?_)
        · exact HS.out _ HZ6.out
        clear hK K
        try dsimp only
        try simp only [Act.put, List.setIfInBounds_toArray, List.set_cons_zero, List.set_cons_succ]
        refine ready_e (rs := [7]) (by kernel_rfl) (by simp) ?_
        refine (do_mid (o := _) rfl (fun K hK => ?_) none_e) -- [(32, 'F19')]
        go_simp
        go_at_call 19
        refine (con_any _ _ _ _ _).mono ?_
        rintro e' wz7 ⟨rfl, hf⟩
        have HZ7 : Hid (Fr No w0 wz7) := Lib.hid ((HZ6.out).then hf)
        have DZ7 : Hid (Fr No (wz6) wz7) := Lib.hid hf
        clear hf
        refine hK.out _ _ ?_ (fun hHeld => ?_)
        · exact HS.out _ HZ7.out
        clear hK K
        try dsimp only
        try simp only [Act.put, List.setIfInBounds_toArray, List.set_cons_zero, List.set_cons_succ]
        refine ready_e (rs := [8]) (by kernel_rfl) (by simp) ?_
        refine (do_mid (o := _) rfl (fun K hK => ?_) none_e) -- [(33, 'F19')]
        go_simp
        go_at_call 19
        refine (con_any _ _ _ _ _).mono ?_
        rintro e' wz8 ⟨rfl, hf⟩
        have HZ8 : Hid (Fr No w0 wz8) := Lib.hid ((HZ7.out).then hf)
        have DZ8 : Hid (Fr No (wz7) wz8) := Lib.hid hf
        clear hf
        refine hK.out _ _ ?_ (fun hHeld => ?_)
        · exact HS.out _ HZ8.out
        clear hK K
        try dsimp only
        try simp only [Act.put, List.setIfInBounds_toArray, List.set_cons_zero, List.set_cons_succ]
        refine ready_e (rs := [9]) (by kernel_rfl) (by simp) ?_
        refine (do_mid (o := _) rfl (fun K hK => ?_) none_e) -- [(34, 'buildSlice')]
        go_simp
        obtain ⟨wz9, hn⟩ : ∃ w8, w8 = (wz8).alloc (.cells #[.int .u8 6, .string ⟨#[102, 97, 108, 115, 101]⟩, .int .i64 0, .slice none 0 0] 40) := ⟨_, rfl⟩
        obtain ⟨B_9, hg8⟩ : ∃ g8, (wz8).heap.size = g8 := ⟨_, rfl⟩
        have R_9 : Hid (wz9.heap[B_9]? = some (.cells #[.int .u8 6, .string ⟨#[102, 97, 108, 115, 101]⟩, .int .i64 0, .slice none 0 0] 40 (0, 0))) := Lib.hid (by rw [hn, ← hg8]; exact new_block _ _)
        have HZ9 : Hid (Fr No w0 wz9) := Lib.hid (by rw [hn]; exact (HZ8.out).then (Fr.alloc _ _))
        have DZ9 : Hid (Fr No (wz8) wz9) := Lib.hid (by rw [hn]; exact Fr.alloc _ _)
        have S_9 : Hid (w0.heap.size ≤ B_9) := Lib.hid (by rw [← hg8]; exact (HZ8.out).size)
        rw [← hn, hg8]
        clear hn hg8
        refine hK.out _ _ ?_ (fun hHeld => ?_)
        · exact HS.out _ HZ9.out
        clear hK K
        try dsimp only
        try simp only [Act.put, List.setIfInBounds_toArray, List.set_cons_zero, List.set_cons_succ]
        refine ready_e (rs := [10]) (by kernel_rfl) (by simp) ?_
        refine (do_mid (o := _) rfl (fun K hK => ?_) none_e) -- [(35, 'F19')]
        go_simp
        go_at_call 19
        refine (con_any _ _ _ _ _).mono ?_
        rintro e' wz10 ⟨rfl, hf⟩
        have HZ10 : Hid (Fr No w0 wz10) := Lib.hid ((HZ9.out).then hf)
        have DZ10 : Hid (Fr No (wz9) wz10) := Lib.hid hf
        clear hf
        refine hK.out _ _ ?_ (fun hHeld => ?_)
        · exact HS.out _ HZ10.out
        clear hK K
        try dsimp only
        try simp only [Act.put, List.setIfInBounds_toArray, List.set_cons_zero, List.set_cons_succ]
        refine ready_e (rs := [11]) (by kernel_rfl) (by simp) ?_
        refine (do_mid (o := _) rfl (fun K hK => ?_) none_e) -- [(36, 'buildSlice')]
        go_simp
        obtain ⟨wz11, hn⟩ : ∃ w8, w8 = (wz10).alloc (.cells #[.int .u8 1, .string ⟨#[]⟩, .int .i64 0, .slice none 0 0, .int .u8 6, .string ⟨#[78, 111, 110, 101]⟩, .int .i64 0, .slice none 0 0, .int .u8 6, .string ⟨#[83, 111, 109, 101]⟩, .int .i64 0, .slice (some ⟨B_3, 0, none⟩) 1 1, .int .u8 6, .string ⟨#[83, 111, 109, 101]⟩, .int .i64 0, .slice (some ⟨B_6, 0, none⟩) 1 1, .int .u8 6, .string ⟨#[83, 111, 109, 101]⟩, .int .i64 0, .slice (some ⟨B_9, 0, none⟩) 1 1] 40) := ⟨_, rfl⟩
        obtain ⟨B_11, hg8⟩ : ∃ g8, (wz10).heap.size = g8 := ⟨_, rfl⟩
        have R_11 : Hid (wz11.heap[B_11]? = some (.cells #[.int .u8 1, .string ⟨#[]⟩, .int .i64 0, .slice none 0 0, .int .u8 6, .string ⟨#[78, 111, 110, 101]⟩, .int .i64 0, .slice none 0 0, .int .u8 6, .string ⟨#[83, 111, 109, 101]⟩, .int .i64 0, .slice (some ⟨B_3, 0, none⟩) 1 1, .int .u8 6, .string ⟨#[83, 111, 109, 101]⟩, .int .i64 0, .slice (some ⟨B_6, 0, none⟩) 1 1, .int .u8 6, .string ⟨#[83, 111, 109, 101]⟩, .int .i64 0, .slice (some ⟨B_9, 0, none⟩) 1 1] 40 (0, 0))) := Lib.hid (by rw [hn, ← hg8]; exact new_block _ _)
        have HZ11 : Hid (Fr No w0 wz11) := Lib.hid (by rw [hn]; exact (HZ10.out).then (Fr.alloc _ _))
        have DZ11 : Hid (Fr No (wz10) wz11) := Lib.hid (by rw [hn]; exact Fr.alloc _ _)
        have S_11 : Hid (w0.heap.size ≤ B_11) := Lib.hid (by rw [← hg8]; exact (HZ10.out).size)
        rw [← hn, hg8]
        clear hn hg8
        refine hK.out _ _ ?_ (fun hHeld => ?_)
        · exact HS.out _ HZ11.out
        clear hK K
        try dsimp only
        try simp only [Act.put, List.setIfInBounds_toArray, List.set_cons_zero, List.set_cons_succ]
        refine take_op 12 (some 2) (Op.assign ( .tmp 36)) 22 ?_ (by kernel_rfl) (by kernel_rfl) (by kernel_rfl) (fun _ _ _ h => h) ?_ (by assumption) ?_
        rotate_left
        · intro w hSw; (try dsimp only at hSw); go_simp; (try (with_reducible rfl))
        try simp only [Act.put, List.setIfInBounds_toArray, List.set_cons_zero, List.set_cons_succ]
        refine done_e (by kernel_rfl) ?_ _
        (try simp only [Exit.inBlock, Exit.then])
        go_wp2_with fail
        go_ret
        refine ⟨HF0.out.then (HZ11.out), _, rfl, row_lits _ ((Fr.refl _ _).keeps R_11.out no_one) (Nat.le_trans HF0.out.size S_11.out) fun j t hj => ?_⟩
        have hj5 : j < 5 := (List.getElem?_eq_some_iff.1 hj).1
        have h5 : j = 0 ∨ j = 1 ∨ j = 2 ∨ j = 3 ∨ j = 4 := by omega
        rcases h5 with rfl | rfl | rfl | rfl | rfl <;> cases hj
        · exact ⟨_, _, _, _, rfl, rfl, rfl, rfl, is_none' 1 _ 0⟩
        · exact ⟨_, _, _, _, rfl, rfl, rfl, rfl, is_none' 6 _ 0⟩
        · exact ⟨_, _, _, _, rfl, rfl, rfl, rfl, is_row 6 _ (row_own ((((((((((Fr.refl _ _).then DZ4.out).then DZ5.out).then DZ6.out).then DZ7.out).then DZ8.out).then DZ9.out).then DZ10.out).then DZ11.out).keeps R_3.out no_one) (Nat.le_trans HF0.out.size S_3.out) (is_none' 2 _ 0)) rfl⟩
        · exact ⟨_, _, _, _, rfl, rfl, rfl, rfl, is_row 6 _ (row_own (((((((Fr.refl _ _).then DZ7.out).then DZ8.out).then DZ9.out).then DZ10.out).then DZ11.out).keeps R_6.out no_one) (Nat.le_trans HF0.out.size S_6.out) (is_none' 6 _ 0)) rfl⟩
        · exact ⟨_, _, _, _, rfl, rfl, rfl, rfl, is_row 6 _ (row_own ((((Fr.refl _ _).then DZ10.out).then DZ11.out).keeps R_9.out no_one) (Nat.le_trans HF0.out.size S_9.out) (is_none' 6 _ 0)) rfl⟩
      · skip
        go_simp
        obtain ⟨wz12, hn⟩ : ∃ w8, w8 = (wz1).alloc (.cells #[.int .u8 2, .string ⟨#[120]⟩, .int .i64 0, .slice none 0 0] 40) := ⟨_, rfl⟩
        obtain ⟨B_12, hg8⟩ : ∃ g8, (wz1).heap.size = g8 := ⟨_, rfl⟩
        have R_12 : Hid (wz12.heap[B_12]? = some (.cells #[.int .u8 2, .string ⟨#[120]⟩, .int .i64 0, .slice none 0 0] 40 (0, 0))) := Lib.hid (by rw [hn, ← hg8]; exact new_block _ _)
        have HZ12 : Hid (Fr No w0 wz12) := Lib.hid (by rw [hn]; exact (HZ1.out).then (Fr.alloc _ _))
        have DZ12 : Hid (Fr No (wz1) wz12) := Lib.hid (by rw [hn]; exact Fr.alloc _ _)
        have S_12 : Hid (w0.heap.size ≤ B_12) := Lib.hid (by rw [← hg8]; exact (HZ1.out).size)
        rw [← hn, hg8]
        clear hn hg8
        refine hK.out _ _ ?_ (fun hHeld => ?_)
        · exact HS.out _ HZ12.out
        clear hK K
        try dsimp only
        try simp only [Act.put, List.setIfInBounds_toArray, List.set_cons_zero, List.set_cons_succ]
        refine ready_e (rs := [1]) (by kernel_rfl) (by simp) ?_
        refine (do_mid (o := _) rfl (fun K hK => ?_) none_e) -- [(26, 'F19')]
        go_simp
        go_at_call 19
        refine (con_any _ _ _ _ _).mono ?_
        rintro e' wz13 ⟨rfl, hf⟩
        have HZ13 : Hid (Fr No w0 wz13) := Lib.hid ((HZ12.out).then hf)
        have DZ13 : Hid (Fr No (wz12) wz13) := Lib.hid hf
        clear hf
        refine hK.out _ _ ?_ (fun hHeld => ?_)
        · exact HS.out _ HZ13.out
        clear hK K
        try dsimp only
        try simp only [Act.put, List.setIfInBounds_toArray, List.set_cons_zero, List.set_cons_succ]
        refine ready_e (rs := [4]) (by kernel_rfl) (by simp) ?_
        refine (do_mid (o := _) rfl (fun K hK => ?_) none_e) -- [(29, 'F19')]
        go_simp
        go_at_call 19
        refine (con_any _ _ _ _ _).mono ?_
        rintro e' wz14 ⟨rfl, hf⟩
        have HZ14 : Hid (Fr No w0 wz14) := Lib.hid ((HZ13.out).then hf)
        have DZ14 : Hid (Fr No (wz13) wz14) := Lib.hid hf
        clear hf
        refine hK.out _ _ ?_ (fun hHeld => ?_)
        · exact HS.out _ HZ14.out
        clear hK K
        try dsimp only
        try simp only [Act.put, List.setIfInBounds_toArray, List.set_cons_zero, List.set_cons_succ]
        refine ready_e (rs := [5]) (by kernel_rfl) (by simp) ?_
        refine (do_mid (o := _) rfl (fun K hK => ?_) none_e) -- [(30, 'F19')]
        go_simp
        go_at_call 19
        refine (con_any _ _ _ _ _).mono ?_
        rintro e' wz15 ⟨rfl, hf⟩
        have HZ15 : Hid (Fr No w0 wz15) := Lib.hid ((HZ14.out).then hf)
        have DZ15 : Hid (Fr No (wz14) wz15) := Lib.hid hf
        clear hf
        refine hK.out _ _ ?_ (fun hHeld => ?_)
        · exact HS.out _ HZ15.out
        clear hK K
        try dsimp only
        try simp only [Act.put, List.setIfInBounds_toArray, List.set_cons_zero, List.set_cons_succ]
        refine ready_e (rs := [6]) (by kernel_rfl) (by simp) ?_
        refine (do_mid (o := _) rfl (fun K hK => ?_) none_e) -- [(31, 'buildSlice')]
        go_simp
        obtain ⟨wz16, hn⟩ : ∃ w8, w8 = (wz15).alloc (.cells #[.int .u8 6, .string ⟨#[116, 114, 117, 101]⟩, .int .i64 0, .slice none 0 0] 40) := ⟨_, rfl⟩
        obtain ⟨B_16, hg8⟩ : ∃ g8, (wz15).heap.size = g8 := ⟨_, rfl⟩
        have R_16 : Hid (wz16.heap[B_16]? = some (.cells #[.int .u8 6, .string ⟨#[116, 114, 117, 101]⟩, .int .i64 0, .slice none 0 0] 40 (0, 0))) := Lib.hid (by rw [hn, ← hg8]; exact new_block _ _)
        have HZ16 : Hid (Fr No w0 wz16) := Lib.hid (by rw [hn]; exact (HZ15.out).then (Fr.alloc _ _))
        have DZ16 : Hid (Fr No (wz15) wz16) := Lib.hid (by rw [hn]; exact Fr.alloc _ _)
        have S_16 : Hid (w0.heap.size ≤ B_16) := Lib.hid (by rw [← hg8]; exact (HZ15.out).size)
        rw [← hn, hg8]
        clear hn hg8
        refine hK.out _ _ ?_ (fun hHeld => ?_)
        · exact HS.out _ HZ16.out
        clear hK K
        try dsimp only
        try simp only [Act.put, List.setIfInBounds_toArray, List.set_cons_zero, List.set_cons_succ]
        refine ready_e (rs := [7]) (by kernel_rfl) (by simp) ?_
        refine (do_mid (o := _) rfl (fun K hK => ?_) none_e) -- [(32, 'F19')]
        go_simp
        go_at_call 19
        refine (con_any _ _ _ _ _).mono ?_
        rintro e' wz17 ⟨rfl, hf⟩
        have HZ17 : Hid (Fr No w0 wz17) := Lib.hid ((HZ16.out).then hf)
        have DZ17 : Hid (Fr No (wz16) wz17) := Lib.hid hf
        clear hf
        refine hK.out _ _ ?_ (fun hHeld => ?_)
        · exact HS.out _ HZ17.out
        clear hK K
        try dsimp only
        try simp only [Act.put, List.setIfInBounds_toArray, List.set_cons_zero, List.set_cons_succ]
        refine ready_e (rs := [8]) (by kernel_rfl) (by simp) ?_
        refine (do_mid (o := _) rfl (fun K hK => ?_) none_e) -- [(33, 'F19')]
        go_simp
        go_at_call 19
        refine (con_any _ _ _ _ _).mono ?_
        rintro e' wz18 ⟨rfl, hf⟩
        have HZ18 : Hid (Fr No w0 wz18) := Lib.hid ((HZ17.out).then hf)
        have DZ18 : Hid (Fr No (wz17) wz18) := Lib.hid hf
        clear hf
        refine hK.out _ _ ?_ (fun hHeld => ?_)
        · exact HS.out _ HZ18.out
        clear hK K
        try dsimp only
        try simp only [Act.put, List.setIfInBounds_toArray, List.set_cons_zero, List.set_cons_succ]
        refine ready_e (rs := [9]) (by kernel_rfl) (by simp) ?_
        refine (do_mid (o := _) rfl (fun K hK => ?_) none_e) -- [(34, 'buildSlice')]
        go_simp
        obtain ⟨wz19, hn⟩ : ∃ w8, w8 = (wz18).alloc (.cells #[.int .u8 6, .string ⟨#[102, 97, 108, 115, 101]⟩, .int .i64 0, .slice none 0 0] 40) := ⟨_, rfl⟩
        obtain ⟨B_19, hg8⟩ : ∃ g8, (wz18).heap.size = g8 := ⟨_, rfl⟩
        have R_19 : Hid (wz19.heap[B_19]? = some (.cells #[.int .u8 6, .string ⟨#[102, 97, 108, 115, 101]⟩, .int .i64 0, .slice none 0 0] 40 (0, 0))) := Lib.hid (by rw [hn, ← hg8]; exact new_block _ _)
        have HZ19 : Hid (Fr No w0 wz19) := Lib.hid (by rw [hn]; exact (HZ18.out).then (Fr.alloc _ _))
        have DZ19 : Hid (Fr No (wz18) wz19) := Lib.hid (by rw [hn]; exact Fr.alloc _ _)
        have S_19 : Hid (w0.heap.size ≤ B_19) := Lib.hid (by rw [← hg8]; exact (HZ18.out).size)
        rw [← hn, hg8]
        clear hn hg8
        refine hK.out _ _ ?_ (fun hHeld => ?_)
        · exact HS.out _ HZ19.out
        clear hK K
        try dsimp only
        try simp only [Act.put, List.setIfInBounds_toArray, List.set_cons_zero, List.set_cons_succ]
        refine ready_e (rs := [10]) (by kernel_rfl) (by simp) ?_
        refine (do_mid (o := _) rfl (fun K hK => ?_) none_e) -- [(35, 'F19')]
        go_simp
        go_at_call 19
        refine (con_any _ _ _ _ _).mono ?_
        rintro e' wz20 ⟨rfl, hf⟩
        have HZ20 : Hid (Fr No w0 wz20) := Lib.hid ((HZ19.out).then hf)
        have DZ20 : Hid (Fr No (wz19) wz20) := Lib.hid hf
        clear hf
        refine hK.out _ _ ?_ (fun hHeld => ?_)
        · exact HS.out _ HZ20.out
        clear hK K
        try dsimp only
        try simp only [Act.put, List.setIfInBounds_toArray, List.set_cons_zero, List.set_cons_succ]
        refine ready_e (rs := [11]) (by kernel_rfl) (by simp) ?_
        refine (do_mid (o := _) rfl (fun K hK => ?_) none_e) -- [(36, 'buildSlice')]
        go_simp
        obtain ⟨wz21, hn⟩ : ∃ w8, w8 = (wz20).alloc (.cells #[.int .u8 1, .string ⟨#[]⟩, .int .i64 0, .slice none 0 0, .int .u8 6, .string ⟨#[78, 111, 110, 101]⟩, .int .i64 0, .slice none 0 0, .int .u8 6, .string ⟨#[83, 111, 109, 101]⟩, .int .i64 0, .slice (some ⟨B_12, 0, none⟩) 1 1, .int .u8 6, .string ⟨#[83, 111, 109, 101]⟩, .int .i64 0, .slice (some ⟨B_16, 0, none⟩) 1 1, .int .u8 6, .string ⟨#[83, 111, 109, 101]⟩, .int .i64 0, .slice (some ⟨B_19, 0, none⟩) 1 1] 40) := ⟨_, rfl⟩
        obtain ⟨B_21, hg8⟩ : ∃ g8, (wz20).heap.size = g8 := ⟨_, rfl⟩
        have R_21 : Hid (wz21.heap[B_21]? = some (.cells #[.int .u8 1, .string ⟨#[]⟩, .int .i64 0, .slice none 0 0, .int .u8 6, .string ⟨#[78, 111, 110, 101]⟩, .int .i64 0, .slice none 0 0, .int .u8 6, .string ⟨#[83, 111, 109, 101]⟩, .int .i64 0, .slice (some ⟨B_12, 0, none⟩) 1 1, .int .u8 6, .string ⟨#[83, 111, 109, 101]⟩, .int .i64 0, .slice (some ⟨B_16, 0, none⟩) 1 1, .int .u8 6, .string ⟨#[83, 111, 109, 101]⟩, .int .i64 0, .slice (some ⟨B_19, 0, none⟩) 1 1] 40 (0, 0))) := Lib.hid (by rw [hn, ← hg8]; exact new_block _ _)
        have HZ21 : Hid (Fr No w0 wz21) := Lib.hid (by rw [hn]; exact (HZ20.out).then (Fr.alloc _ _))
        have DZ21 : Hid (Fr No (wz20) wz21) := Lib.hid (by rw [hn]; exact Fr.alloc _ _)
        have S_21 : Hid (w0.heap.size ≤ B_21) := Lib.hid (by rw [← hg8]; exact (HZ20.out).size)
        rw [← hn, hg8]
        clear hn hg8
        refine hK.out _ _ ?_ (fun hHeld => ?_)
        · exact HS.out _ HZ21.out
        clear hK K
        try dsimp only
        try simp only [Act.put, List.setIfInBounds_toArray, List.set_cons_zero, List.set_cons_succ]
        refine take_op 12 (some 2) (Op.assign ( .tmp 36)) 22 ?_ (by kernel_rfl) (by kernel_rfl) (by kernel_rfl) (fun _ _ _ h => h) ?_ (by assumption) ?_
        rotate_left
        · intro w hSw; (try dsimp only at hSw); go_simp; (try (with_reducible rfl))
        try simp only [Act.put, List.setIfInBounds_toArray, List.set_cons_zero, List.set_cons_succ]
        refine done_e (by kernel_rfl) ?_ _
        (try simp only [Exit.inBlock, Exit.then])
        go_wp2_with fail
        go_ret
        refine ⟨HF0.out.then (HZ21.out), _, rfl, row_lits _ ((Fr.refl _ _).keeps R_21.out no_one) (Nat.le_trans HF0.out.size S_21.out) fun j t hj => ?_⟩
        have hj5 : j < 5 := (List.getElem?_eq_some_iff.1 hj).1
        have h5 : j = 0 ∨ j = 1 ∨ j = 2 ∨ j = 3 ∨ j = 4 := by omega
        rcases h5 with rfl | rfl | rfl | rfl | rfl <;> cases hj
        · exact ⟨_, _, _, _, rfl, rfl, rfl, rfl, is_none' 1 _ 0⟩
        · exact ⟨_, _, _, _, rfl, rfl, rfl, rfl, is_none' 6 _ 0⟩
        · exact ⟨_, _, _, _, rfl, rfl, rfl, rfl, is_row 6 _ (row_own (((((((((((Fr.refl _ _).then DZ13.out).then DZ14.out).then DZ15.out).then DZ16.out).then DZ17.out).then DZ18.out).then DZ19.out).then DZ20.out).then DZ21.out).keeps R_12.out no_one) (Nat.le_trans HF0.out.size S_12.out) (is_none' 2 _ 0)) rfl⟩
        · exact ⟨_, _, _, _, rfl, rfl, rfl, rfl, is_row 6 _ (row_own (((((((Fr.refl _ _).then DZ17.out).then DZ18.out).then DZ19.out).then DZ20.out).then DZ21.out).keeps R_16.out no_one) (Nat.le_trans HF0.out.size S_16.out) (is_none' 6 _ 0)) rfl⟩
        · exact ⟨_, _, _, _, rfl, rfl, rfl, rfl, is_row 6 _ (row_own ((((Fr.refl _ _).then DZ20.out).then DZ21.out).keeps R_19.out no_one) (Nat.le_trans HF0.out.size S_19.out) (is_none' 6 _ 0)) rfl⟩
    · skip
      go_simp
      obtain ⟨wz22, hn⟩ : ∃ w8, w8 = (wd).alloc (.cells #[.int .u8 2, .string ⟨#[120]⟩, .int .i64 0, .slice none 0 0] 40) := ⟨_, rfl⟩
      obtain ⟨B_22, hg8⟩ : ∃ g8, (wd).heap.size = g8 := ⟨_, rfl⟩
      have R_22 : Hid (wz22.heap[B_22]? = some (.cells #[.int .u8 2, .string ⟨#[120]⟩, .int .i64 0, .slice none 0 0] 40 (0, 0))) := Lib.hid (by rw [hn, ← hg8]; exact new_block _ _)
      have HZ22 : Hid (Fr No w0 wz22) := Lib.hid (by rw [hn]; exact (HFd.out).then (Fr.alloc _ _))
      have DZ22 : Hid (Fr No (wd) wz22) := Lib.hid (by rw [hn]; exact Fr.alloc _ _)
      have S_22 : Hid (w0.heap.size ≤ B_22) := Lib.hid (by rw [← hg8]; exact (HFd.out).size)
      rw [← hn, hg8]
      clear hn hg8
      refine hK.out _ _ ?_ (fun hHeld => ?_)
      · exact HS.out _ HZ22.out
      clear hK K
      try dsimp only
      try simp only [Act.put, List.setIfInBounds_toArray, List.set_cons_zero, List.set_cons_succ]
      refine ready_e (rs := [0]) (by kernel_rfl) (by simp) ?_
      refine (do_mid (o := _) rfl (fun K hK => ?_) none_e) -- [(25, 'F18')]
      go_simp
      go_at_call 18
      refine (wildf_any _).mono ?_
      rintro e' wz23 ⟨rfl, hf⟩
      have HZ23 : Hid (Fr No w0 wz23) := Lib.hid ((HZ22.out).then hf)
      have DZ23 : Hid (Fr No (wz22) wz23) := Lib.hid hf
      clear hf
      refine hK.out _ _ ?_ (fun hHeld => ?_)
      · exact HS.out _ HZ23.out
      clear hK K
      try dsimp only
      try simp only [Act.put, List.setIfInBounds_toArray, List.set_cons_zero, List.set_cons_succ]
      refine ready_e (rs := [1]) (by kernel_rfl) (by simp) ?_
      refine (do_mid (o := _) rfl (fun K hK => ?_) none_e) -- [(26, 'F19')]
      go_simp
      go_at_call 19
      refine (con_any _ _ _ _ _).mono ?_
      rintro e' wz24 ⟨rfl, hf⟩
      have HZ24 : Hid (Fr No w0 wz24) := Lib.hid ((HZ23.out).then hf)
      have DZ24 : Hid (Fr No (wz23) wz24) := Lib.hid hf
      clear hf
      refine hK.out _ _ ?_ (fun hHeld => ?_)
      · exact HS.out _ HZ24.out
      clear hK K
      try dsimp only
      try simp only [Act.put, List.setIfInBounds_toArray, List.set_cons_zero, List.set_cons_succ]
      refine ready_e (rs := [4]) (by kernel_rfl) (by simp) ?_
      refine (do_mid (o := _) rfl (fun K hK => ?_) none_e) -- [(29, 'F19')]
      go_simp
      go_at_call 19
      refine (con_any _ _ _ _ _).mono ?_
      rintro e' wz25 ⟨rfl, hf⟩
      have HZ25 : Hid (Fr No w0 wz25) := Lib.hid ((HZ24.out).then hf)
      have DZ25 : Hid (Fr No (wz24) wz25) := Lib.hid hf
      clear hf
      refine hK.out _ _ ?_ (fun hHeld => ?_)
      · exact HS.out _ HZ25.out
      clear hK K
      try dsimp only
      try simp only [Act.put, List.setIfInBounds_toArray, List.set_cons_zero, List.set_cons_succ]
      refine ready_e (rs := [5]) (by kernel_rfl) (by simp) ?_
      refine (do_mid (o := _) rfl (fun K hK => ?_) none_e) -- [(30, 'F19')]
      go_simp
      go_at_call 19
      refine (con_any _ _ _ _ _).mono ?_
      rintro e' wz26 ⟨rfl, hf⟩
      have HZ26 : Hid (Fr No w0 wz26) := Lib.hid ((HZ25.out).then hf)
      have DZ26 : Hid (Fr No (wz25) wz26) := Lib.hid hf
      clear hf
      refine hK.out _ _ ?_ (fun hHeld => ?_)
      · exact HS.out _ HZ26.out
      clear hK K
      try dsimp only
      try simp only [Act.put, List.setIfInBounds_toArray, List.set_cons_zero, List.set_cons_succ]
      refine ready_e (rs := [6]) (by kernel_rfl) (by simp) ?_
      refine (do_mid (o := _) rfl (fun K hK => ?_) none_e) -- [(31, 'buildSlice')]
      go_simp
      obtain ⟨wz27, hn⟩ : ∃ w8, w8 = (wz26).alloc (.cells #[.int .u8 6, .string ⟨#[116, 114, 117, 101]⟩, .int .i64 0, .slice none 0 0] 40) := ⟨_, rfl⟩
      obtain ⟨B_27, hg8⟩ : ∃ g8, (wz26).heap.size = g8 := ⟨_, rfl⟩
      have R_27 : Hid (wz27.heap[B_27]? = some (.cells #[.int .u8 6, .string ⟨#[116, 114, 117, 101]⟩, .int .i64 0, .slice none 0 0] 40 (0, 0))) := Lib.hid (by rw [hn, ← hg8]; exact new_block _ _)
      have HZ27 : Hid (Fr No w0 wz27) := Lib.hid (by rw [hn]; exact (HZ26.out).then (Fr.alloc _ _))
      have DZ27 : Hid (Fr No (wz26) wz27) := Lib.hid (by rw [hn]; exact Fr.alloc _ _)
      have S_27 : Hid (w0.heap.size ≤ B_27) := Lib.hid (by rw [← hg8]; exact (HZ26.out).size)
      rw [← hn, hg8]
      clear hn hg8
      refine hK.out _ _ ?_ (fun hHeld => ?_)
      · exact HS.out _ HZ27.out
      clear hK K
      try dsimp only
      try simp only [Act.put, List.setIfInBounds_toArray, List.set_cons_zero, List.set_cons_succ]
      refine ready_e (rs := [7]) (by kernel_rfl) (by simp) ?_
      refine (do_mid (o := _) rfl (fun K hK => ?_) none_e) -- [(32, 'F19')]
      go_simp
      go_at_call 19
      refine (con_any _ _ _ _ _).mono ?_
      rintro e' wz28 ⟨rfl, hf⟩
      have HZ28 : Hid (Fr No w0 wz28) := Lib.hid ((HZ27.out).then hf)
      have DZ28 : Hid (Fr No (wz27) wz28) := Lib.hid hf
      clear hf
      refine hK.out _ _ ?_ (fun hHeld => ?_)
      · exact HS.out _ HZ28.out
      clear hK K
      try dsimp only
      try simp only [Act.put, List.setIfInBounds_toArray, List.set_cons_zero, List.set_cons_succ]
      refine ready_e (rs := [8]) (by kernel_rfl) (by simp) ?_
      refine (do_mid (o := _) rfl (fun K hK => ?_) none_e) -- [(33, 'F19')]
      go_simp
      go_at_call 19
      refine (con_any _ _ _ _ _).mono ?_
      rintro e' wz29 ⟨rfl, hf⟩
      have HZ29 : Hid (Fr No w0 wz29) := Lib.hid ((HZ28.out).then hf)
      have DZ29 : Hid (Fr No (wz28) wz29) := Lib.hid hf
      clear hf
      refine hK.out _ _ ?_ (fun hHeld => ?_)
      · exact HS.out _ HZ29.out
      clear hK K
      try dsimp only
      try simp only [Act.put, List.setIfInBounds_toArray, List.set_cons_zero, List.set_cons_succ]
      refine ready_e (rs := [9]) (by kernel_rfl) (by simp) ?_
      refine (do_mid (o := _) rfl (fun K hK => ?_) none_e) -- [(34, 'buildSlice')]
      go_simp
      obtain ⟨wz30, hn⟩ : ∃ w8, w8 = (wz29).alloc (.cells #[.int .u8 6, .string ⟨#[102, 97, 108, 115, 101]⟩, .int .i64 0, .slice none 0 0] 40) := ⟨_, rfl⟩
      obtain ⟨B_30, hg8⟩ : ∃ g8, (wz29).heap.size = g8 := ⟨_, rfl⟩
      have R_30 : Hid (wz30.heap[B_30]? = some (.cells #[.int .u8 6, .string ⟨#[102, 97, 108, 115, 101]⟩, .int .i64 0, .slice none 0 0] 40 (0, 0))) := Lib.hid (by rw [hn, ← hg8]; exact new_block _ _)
      have HZ30 : Hid (Fr No w0 wz30) := Lib.hid (by rw [hn]; exact (HZ29.out).then (Fr.alloc _ _))
      have DZ30 : Hid (Fr No (wz29) wz30) := Lib.hid (by rw [hn]; exact Fr.alloc _ _)
      have S_30 : Hid (w0.heap.size ≤ B_30) := Lib.hid (by rw [← hg8]; exact (HZ29.out).size)
      rw [← hn, hg8]
      clear hn hg8
      refine hK.out _ _ ?_ (fun hHeld => ?_)
      · exact HS.out _ HZ30.out
      clear hK K
      try dsimp only
      try simp only [Act.put, List.setIfInBounds_toArray, List.set_cons_zero, List.set_cons_succ]
      refine ready_e (rs := [10]) (by kernel_rfl) (by simp) ?_
      refine (do_mid (o := _) rfl (fun K hK => ?_) none_e) -- [(35, 'F19')]
      go_simp
      go_at_call 19
      refine (con_any _ _ _ _ _).mono ?_
      rintro e' wz31 ⟨rfl, hf⟩
      have HZ31 : Hid (Fr No w0 wz31) := Lib.hid ((HZ30.out).then hf)
      have DZ31 : Hid (Fr No (wz30) wz31) := Lib.hid hf
      clear hf
      refine hK.out _ _ ?_ (fun hHeld => ?_)
      · exact HS.out _ HZ31.out
      clear hK K
      try dsimp only
      try simp only [Act.put, List.setIfInBounds_toArray, List.set_cons_zero, List.set_cons_succ]
      refine ready_e (rs := [11]) (by kernel_rfl) (by simp) ?_
      refine (do_mid (o := _) rfl (fun K hK => ?_) none_e) -- [(36, 'buildSlice')]
      go_simp
      obtain ⟨wz32, hn⟩ : ∃ w8, w8 = (wz31).alloc (.cells #[.int .u8 1, .string ⟨#[]⟩, .int .i64 0, .slice none 0 0, .int .u8 6, .string ⟨#[78, 111, 110, 101]⟩, .int .i64 0, .slice none 0 0, .int .u8 6, .string ⟨#[83, 111, 109, 101]⟩, .int .i64 0, .slice (some ⟨B_22, 0, none⟩) 1 1, .int .u8 6, .string ⟨#[83, 111, 109, 101]⟩, .int .i64 0, .slice (some ⟨B_27, 0, none⟩) 1 1, .int .u8 6, .string ⟨#[83, 111, 109, 101]⟩, .int .i64 0, .slice (some ⟨B_30, 0, none⟩) 1 1] 40) := ⟨_, rfl⟩
      obtain ⟨B_32, hg8⟩ : ∃ g8, (wz31).heap.size = g8 := ⟨_, rfl⟩
      have R_32 : Hid (wz32.heap[B_32]? = some (.cells #[.int .u8 1, .string ⟨#[]⟩, .int .i64 0, .slice none 0 0, .int .u8 6, .string ⟨#[78, 111, 110, 101]⟩, .int .i64 0, .slice none 0 0, .int .u8 6, .string ⟨#[83, 111, 109, 101]⟩, .int .i64 0, .slice (some ⟨B_22, 0, none⟩) 1 1, .int .u8 6, .string ⟨#[83, 111, 109, 101]⟩, .int .i64 0, .slice (some ⟨B_27, 0, none⟩) 1 1, .int .u8 6, .string ⟨#[83, 111, 109, 101]⟩, .int .i64 0, .slice (some ⟨B_30, 0, none⟩) 1 1] 40 (0, 0))) := Lib.hid (by rw [hn, ← hg8]; exact new_block _ _)
      have HZ32 : Hid (Fr No w0 wz32) := Lib.hid (by rw [hn]; exact (HZ31.out).then (Fr.alloc _ _))
      have DZ32 : Hid (Fr No (wz31) wz32) := Lib.hid (by rw [hn]; exact Fr.alloc _ _)
      have S_32 : Hid (w0.heap.size ≤ B_32) := Lib.hid (by rw [← hg8]; exact (HZ31.out).size)
      rw [← hn, hg8]
      clear hn hg8
      refine hK.out _ _ ?_ (fun hHeld => ?_)
      · exact HS.out _ HZ32.out
      clear hK K
      try dsimp only
      try simp only [Act.put, List.setIfInBounds_toArray, List.set_cons_zero, List.set_cons_succ]
      refine take_op 12 (some 2) (Op.assign ( .tmp 36)) 22 ?_ (by kernel_rfl) (by kernel_rfl) (by kernel_rfl) (fun _ _ _ h => h) ?_ (by assumption) ?_
      rotate_left
      · intro w hSw; (try dsimp only at hSw); go_simp; (try (with_reducible rfl))
      try simp only [Act.put, List.setIfInBounds_toArray, List.set_cons_zero, List.set_cons_succ]
      refine done_e (by kernel_rfl) ?_ _
      (try simp only [Exit.inBlock, Exit.then])
      go_wp2_with fail
      go_ret
      refine ⟨HF0.out.then (HZ32.out), _, rfl, row_lits _ ((Fr.refl _ _).keeps R_32.out no_one) (Nat.le_trans HF0.out.size S_32.out) fun j t hj => ?_⟩
      have hj5 : j < 5 := (List.getElem?_eq_some_iff.1 hj).1
      have h5 : j = 0 ∨ j = 1 ∨ j = 2 ∨ j = 3 ∨ j = 4 := by omega
      rcases h5 with rfl | rfl | rfl | rfl | rfl <;> cases hj
      · exact ⟨_, _, _, _, rfl, rfl, rfl, rfl, is_none' 1 _ 0⟩
      · exact ⟨_, _, _, _, rfl, rfl, rfl, rfl, is_none' 6 _ 0⟩
      · exact ⟨_, _, _, _, rfl, rfl, rfl, rfl, is_row 6 _ (row_own ((((((((((((Fr.refl _ _).then DZ23.out).then DZ24.out).then DZ25.out).then DZ26.out).then DZ27.out).then DZ28.out).then DZ29.out).then DZ30.out).then DZ31.out).then DZ32.out).keeps R_22.out no_one) (Nat.le_trans HF0.out.size S_22.out) (is_none' 2 _ 0)) rfl⟩
      · exact ⟨_, _, _, _, rfl, rfl, rfl, rfl, is_row 6 _ (row_own (((((((Fr.refl _ _).then DZ28.out).then DZ29.out).then DZ30.out).then DZ31.out).then DZ32.out).keeps R_27.out no_one) (Nat.le_trans HF0.out.size S_27.out) (is_none' 6 _ 0)) rfl⟩
      · exact ⟨_, _, _, _, rfl, rfl, rfl, rfl, is_row 6 _ (row_own ((((Fr.refl _ _).then DZ31.out).then DZ32.out).keeps R_30.out no_one) (Nat.le_trans HF0.out.size S_30.out) (is_none' 6 _ 0)) rfl⟩
  · obtain rfl : T = .e := by rw [← hT.out, tyOf, if_neg (by omega), if_neg (by omega), if_neg (by omega)]
    rw [h] at hm
    have hm0 : Int.tmod (k : Int) 4 = 3 := hm
    clear h hm hT
    go_enter Try.func14, Try.ntmps14
    go_upto_region 2 with fail
    rw [HW0.out, HGX.out]
    clear HW0 HGX
    go_upto_region 9 with fail
    refine region_e (fun w' => w'.cell? ⟨gx, 0, none⟩ = some (.int .u8 2) ∧ w'.cell? ⟨gx, 1, none⟩ = some (.string ⟨#[120]⟩) ∧ w'.cell? ⟨gx, 2, none⟩ = some (.int .i64 0) ∧ w'.cell? ⟨gx, 3, none⟩ = some (.slice none 0 0)) [] (by kernel_rfl) ?_ (fun hHeld => ?_)
    · exact HS.out _ (Fr.drew _)
    obtain ⟨wd, hwd⟩ : ∃ wd, wd = w0.drew := ⟨_, rfl⟩
    have HFd : Hid (Fr No w0 wd) := Lib.hid (by rw [hwd]; exact Fr.drew _)
    rw [← hwd] at hHeld ⊢
    clear hwd
    refine take_op 1 (some 38) (Op.load 40 ( .tmp 3)) 40 ?_ (by kernel_rfl) (by kernel_rfl) (by kernel_rfl) (fun _ _ _ h => h) ?_ (by assumption) ?_
    rotate_left
    · intro w hSw; (try dsimp only at hSw); go_simp; (try (with_reducible rfl))
    try simp only [Act.put, List.setIfInBounds_toArray, List.set_cons_zero, List.set_cons_succ]
    refine ready_e (rs := [0]) (by kernel_rfl) (by simp) ?_
    refine (do_mid (o := _) rfl (fun K hK => ?_) none_e) -- [(37, 'F18')]
    go_simp
    go_at_call 18
    refine (wildf_any _).mono ?_
    rintro e' wz1 ⟨rfl, hf⟩
    have HZ1 : Hid (Fr No w0 wz1) := Lib.hid ((HFd.out).then hf)
    have DZ1 : Hid (Fr No (wd) wz1) := Lib.hid hf
    clear hf
    refine hK.out _ _ ?_ (fun hHeld => ?_)
    · exact HS.out _ HZ1.out
    clear hK K
    try dsimp only
    try simp only [Act.put, List.setIfInBounds_toArray, List.set_cons_zero, List.set_cons_succ]
    refine ready_e (rs := [2]) (by kernel_rfl) (by simp) ?_
    refine (do_mid (o := _) rfl (fun K hK => ?_) none_e) -- [(39, 'F19')]
    go_simp
    go_at_call 19
    refine (con_any _ _ _ _ _).mono ?_
    rintro e' wz2 ⟨rfl, hf⟩
    have HZ2 : Hid (Fr No w0 wz2) := Lib.hid ((HZ1.out).then hf)
    have DZ2 : Hid (Fr No (wz1) wz2) := Lib.hid hf
    clear hf
    refine hK.out _ _ ?_ (fun hHeld => ?_)
    · exact HS.out _ HZ2.out
    clear hK K
    try dsimp only
    try simp only [Act.put, List.setIfInBounds_toArray, List.set_cons_zero, List.set_cons_succ]
    refine ready_e (rs := [3]) (by kernel_rfl) (by simp) ?_
    refine (do_mid (o := _) rfl (fun K hK => ?_) none_e) -- [(40, 'F19')]
    go_simp
    go_at_call 19
    refine (con_any _ _ _ _ _).mono ?_
    rintro e' wz3 ⟨rfl, hf⟩
    have HZ3 : Hid (Fr No w0 wz3) := Lib.hid ((HZ2.out).then hf)
    have DZ3 : Hid (Fr No (wz2) wz3) := Lib.hid hf
    clear hf
    refine hK.out _ _ ?_ (fun hHeld => ?_)
    · exact HS.out _ HZ3.out
    clear hK K
    try dsimp only
    try simp only [Act.put, List.setIfInBounds_toArray, List.set_cons_zero, List.set_cons_succ]
    refine ready_e (rs := [4]) (by kernel_rfl) (by simp) ?_
    refine (do_mid (o := _) rfl (fun K hK => ?_) none_e) -- [(41, 'F19')]
    go_simp
    go_at_call 19
    refine (con_any _ _ _ _ _).mono ?_
    rintro e' wz4 ⟨rfl, hf⟩
    have HZ4 : Hid (Fr No w0 wz4) := Lib.hid ((HZ3.out).then hf)
    have DZ4 : Hid (Fr No (wz3) wz4) := Lib.hid hf
    clear hf
    refine hK.out _ _ ?_ (fun hHeld => ?_)
    · exact HS.out _ HZ4.out
    clear hK K
    try dsimp only
    try simp only [Act.put, List.setIfInBounds_toArray, List.set_cons_zero, List.set_cons_succ]
    refine ready_e (rs := [5]) (by kernel_rfl) (by simp) ?_
    refine (do_mid (o := _) rfl (fun K hK => ?_) none_e) -- [(42, 'buildSlice')]
    go_simp
    obtain ⟨wz5, hn⟩ : ∃ w8, w8 = (wz4).alloc (.cells #[.int .u8 1, .string ⟨#[]⟩, .int .i64 0, .slice none 0 0, .int .u8 2, .string ⟨#[120]⟩, .int .i64 0, .slice none 0 0, .int .u8 6, .string ⟨#[69]⟩, .int .i64 0, .slice none 0 0, .int .u8 6, .string ⟨#[70]⟩, .int .i64 0, .slice none 0 0, .int .u8 6, .string ⟨#[70]⟩, .int .i64 0, .slice none 0 0] 40) := ⟨_, rfl⟩
    obtain ⟨B_5, hg8⟩ : ∃ g8, (wz4).heap.size = g8 := ⟨_, rfl⟩
    have R_5 : Hid (wz5.heap[B_5]? = some (.cells #[.int .u8 1, .string ⟨#[]⟩, .int .i64 0, .slice none 0 0, .int .u8 2, .string ⟨#[120]⟩, .int .i64 0, .slice none 0 0, .int .u8 6, .string ⟨#[69]⟩, .int .i64 0, .slice none 0 0, .int .u8 6, .string ⟨#[70]⟩, .int .i64 0, .slice none 0 0, .int .u8 6, .string ⟨#[70]⟩, .int .i64 0, .slice none 0 0] 40 (0, 0))) := Lib.hid (by rw [hn, ← hg8]; exact new_block _ _)
    have HZ5 : Hid (Fr No w0 wz5) := Lib.hid (by rw [hn]; exact (HZ4.out).then (Fr.alloc _ _))
    have DZ5 : Hid (Fr No (wz4) wz5) := Lib.hid (by rw [hn]; exact Fr.alloc _ _)
    have S_5 : Hid (w0.heap.size ≤ B_5) := Lib.hid (by rw [← hg8]; exact (HZ4.out).size)
    rw [← hn, hg8]
    clear hn hg8
    refine hK.out _ _ ?_ (fun hHeld => ?_)
    · exact HS.out _ HZ5.out
    clear hK K
    try dsimp only
    try simp only [Act.put, List.setIfInBounds_toArray, List.set_cons_zero, List.set_cons_succ]
    refine take_op 6 (some 2) (Op.assign ( .tmp 42)) 22 ?_ (by kernel_rfl) (by kernel_rfl) (by kernel_rfl) (fun _ _ _ h => h) ?_ (by assumption) ?_
    rotate_left
    · intro w hSw; (try dsimp only at hSw); go_simp; (try (with_reducible rfl))
    try simp only [Act.put, List.setIfInBounds_toArray, List.set_cons_zero, List.set_cons_succ]
    refine done_e (by kernel_rfl) ?_ _
    (try simp only [Exit.inBlock, Exit.then])
    go_wp2_with fail
    go_ret
    refine ⟨HF0.out.then (HZ5.out), _, rfl, row_lits _ ((Fr.refl _ _).keeps R_5.out no_one) (Nat.le_trans HF0.out.size S_5.out) fun j t hj => ?_⟩
    have hj5 : j < 5 := (List.getElem?_eq_some_iff.1 hj).1
    have h5 : j = 0 ∨ j = 1 ∨ j = 2 ∨ j = 3 ∨ j = 4 := by omega
    rcases h5 with rfl | rfl | rfl | rfl | rfl <;> cases hj
    · exact ⟨_, _, _, _, rfl, rfl, rfl, rfl, is_none' 1 _ 0⟩
    · exact ⟨_, _, _, _, rfl, rfl, rfl, rfl, is_none' 2 _ 0⟩
    · exact ⟨_, _, _, _, rfl, rfl, rfl, rfl, is_none' 6 _ 0⟩
    · exact ⟨_, _, _, _, rfl, rfl, rfl, rfl, is_none' 6 _ 0⟩
    · exact ⟨_, _, _, _, rfl, rfl, rfl, rfl, is_none' 6 _ 0⟩
end Go.Proofs.Ythjecikdkdjlaaa
