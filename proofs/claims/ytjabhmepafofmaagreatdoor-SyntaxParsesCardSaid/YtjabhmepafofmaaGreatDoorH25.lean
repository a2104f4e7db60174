/- Sa -/
import Derived.Test.YtjabhmepafofmaaGreatDoorH23
import Derived.Test.YtjabhmepafofmaaGreatDoorH21
set_option linter.unusedVariables false
set_option linter.unusedSimpArgs false
namespace Go.Proofs.YtjabhmepafofmaaGreatDoor
open Go.RowKit
theorem hx_len {ok : Nat → Prop} {w : World} {k : Nat} {ls : List (List X)} {v : Value} (h : Hx ok w (.row k ls) v) : ls.length ≤ 9223372036854775807 := by
  simp only [Hx] at h
  obtain ⟨a, c, _, _, ⟨h1, h2⟩, _⟩ := h
  unfold maxLen at h2
  omega
def ST (t : T) : Prop := ∀ (ok ok' : Nat → Prop) (w : World) (cs ds : List Value), Hc ok w (xT t) cs → Hc ok' w (xT t) ds → Calls Tryz.prog 41 #[.agg cs.toArray, .agg ds.toArray] w (Yes w)
def SPt (t : T) : Prop := ∀ (ok ok' : Nat → Prop) (w : World) (cs ds : List Value), Hc ok w (xT t) cs → Hc ok' w (xT t) ds → Calls Tryz.prog 64 #[.agg cs.toArray, .agg ds.toArray] w (Yes w)
def SEx (t : E) : Prop := ∀ (ok ok' : Nat → Prop) (w : World) (cs ds : List Value), Hc ok w (xE t) cs → Hc ok' w (xE t) ds → Calls Tryz.prog 42 #[.agg cs.toArray, .agg ds.toArray] w (Yes w)
def SRu : R → Prop
  | .mk p e => SPt p ∧ SEx e
def SFu : F → Prop
  | .mk _ _ e => SEx e
def SDe (t : D) : Prop := ∀ (ok ok' : Nat → Prop) (w : World) (cs ds : List Value), Hc ok w (xD t) cs → Hc ok' w (xD t) ds → Calls Tryz.prog 18 #[.agg cs.toArray, .agg ds.toArray] w (Yes w)
def SDs (l : List D) : Prop := ∀ (ok ok' : Nat → Prop) (w : World) (v u : Value), Hx ok w (.row 16 (l.map xD)) v → Hx ok' w (.row 16 (l.map xD)) u → Calls Tryz.prog 8 #[v, u] w (Yes w)
set_option maxHeartbeats 8000000 in
set_option maxRecDepth 100000 in
theorem sty_walk (k : Nat) (s : ByteArray) (n : Int) (l : List T) (h : ∀ t ∈ l, ST t) : ST (.mk k s n l) := by
  intro ok ok' w cs ds hc hd
  obtain ⟨a1, c1, rfl, hx⟩ := hcT_parts hc
  obtain ⟨a2, c2, rfl, hy⟩ := hcT_parts hd
  clear hc hd
  obtain ⟨N, hN⟩ : ∃ N, l.length = N := ⟨_, rfl⟩
  rw [hN] at hx hy ⊢
  have HX := Lib.hid hx
  have HY := Lib.hid hy
  have HH := Lib.hid h
  have HN := Lib.hid hN
  clear hx hy h hN
  go_enter Tryz.func41, Tryz.ntmps41
  go_upto_region 1 with fail
  obtain ⟨w1, hn⟩ : ∃ wZ, (w.alloc (.cells #[.int .u8 k, .string s, .int .i64 n, .slice a1 N c1] 40)).alloc (.cells #[.int .u8 k, .string s, .int .i64 n, .slice a2 N c2] 40) = wZ := ⟨_, rfl⟩
  obtain ⟨g_x, hg⟩ : ∃ gZ, w.heap.size = gZ := ⟨_, rfl⟩
  rw [hn, hg]
  have HW : Hid (Fr No w w1) := Lib.hid (by rw [← hn]; exact (Fr.alloc _ _).then (Fr.alloc _ _))
  have R_x : Hid (w1.heap[g_x]? = some (.cells #[.int .u8 k, .string s, .int .i64 n, .slice a1 N c1] 40 (0, 0))) := Lib.hid (by rw [← hn, ← hg]; exact (Fr.alloc _ _).keeps (new_block _ _) no_one)
  have R_y : Hid (w1.heap[g_x + 1]? = some (.cells #[.int .u8 k, .string s, .int .i64 n, .slice a2 N c2] 40 (0, 0))) := Lib.hid (by rw [← hn, ← hg, ← size_alloc w (.cells #[.int .u8 k, .string s, .int .i64 n, .slice a1 N c1] 40)]; exact new_block _ _)
  have HF : Hid (Fr No w1 w1) := Lib.hid (Fr.refl _ _)
  clear hn hg
  have HS0 : Hid (∀ w', Fr No w1 w' → w'.cell? ⟨g_x, 0, none⟩ = some (.int .u8 k) ∧ w'.cell? ⟨g_x, 1, none⟩ = some (.string s) ∧ w'.cell? ⟨g_x, 2, none⟩ = some (.int .i64 n) ∧ w'.cell? ⟨g_x, 3, none⟩ = some (.slice a1 N c1) ∧ w'.cell? ⟨g_x + 1, 0, none⟩ = some (.int .u8 k) ∧ w'.cell? ⟨g_x + 1, 1, none⟩ = some (.string s) ∧ w'.cell? ⟨g_x + 1, 2, none⟩ = some (.int .i64 n) ∧ w'.cell? ⟨g_x + 1, 3, none⟩ = some (.slice a2 N c2)) := Lib.hid (fun w' hf => ⟨cell_of (hf.keeps R_x.out no_one) 0, cell_of (hf.keeps R_x.out no_one) 1, cell_of (hf.keeps R_x.out no_one) 2, cell_of (hf.keeps R_x.out no_one) 3, cell_of (hf.keeps R_y.out no_one) 0, cell_of (hf.keeps R_y.out no_one) 1, cell_of (hf.keeps R_y.out no_one) 2, cell_of (hf.keeps R_y.out no_one) 3⟩)
  obtain ⟨d0, d1, d2, d3, d4, d5, d6, d7⟩ := HS0.out _ HF.out
  go_wp2_with fail
  clear d0 d1 d2 d3 d4 d5 d6 d7
  go_loopw [5] (fun i wr => ∃ j : Nat, j ≤ N ∧ i = .int .i64 (j : Nat) ∧ Hid (Fr No w1 wr)) (fun i _ => N - intOf i)
  case atStart => exact ⟨0, Nat.zero_le _, rfl, HF⟩
  case round =>
    clear HF
    obtain ⟨j, hj, rfl, HF⟩ := hrel
    obtain ⟨wL, hwL⟩ : ∃ wL, wL = wr := ⟨wr, rfl⟩
    rw [← hwL] at HF ⊢
    clear hwL wr
    by_cases hlt : j < N
    · skip
      have hNL := hx_len (HX.out.no HW.out)
      rw [List.length_map, HN.out] at hNL
      have hd0 : decide (j < N) = true := decide_eq_true hlt
      have hj0 : (0 : Int) ≤ (j : Int) := by omega
      have hj1 : (j : Int) < (N : Int) := by omega
      obtain ⟨t, ht⟩ : ∃ t, l[j]? = some t := ⟨_, List.getElem?_eq_getElem (by rw [HN.out]; exact hlt)⟩
      have hmem := List.mem_of_getElem? ht
      obtain ⟨ge, oe, ce, hae, _, hle, hce, hxe⟩ := hx_at (HX.out.no HW.out) (j := j) (x := xT t) (by rw [List.getElem?_map, ht]; rfl)
      obtain ⟨gf, of, cf, haf, _, hlf, hcf, hxf⟩ := hx_at (HY.out.no HW.out) (j := j) (x := xT t) (by rw [List.getElem?_map, ht]; rfl)
      subst hae haf
      have HE := Lib.hid hxe
      obtain ⟨k_e, s_e, n_e, b_e, m_e, cp_e, ecs⟩ := hcT hxe
      subst ecs
      have HG := Lib.hid hxf
      obtain ⟨k_f, s_f, n_f, b_f, m_f, cp_f, ecs⟩ := hcT hxf
      subst ecs
      have HS1 : Hid (∀ w', Fr No w1 w' → w'.cell? ⟨g_x, 0, none⟩ = some (.int .u8 k) ∧ w'.cell? ⟨g_x, 1, none⟩ = some (.string s) ∧ w'.cell? ⟨g_x, 2, none⟩ = some (.int .i64 n) ∧ w'.cell? ⟨g_x, 3, none⟩ = some (.slice (some ⟨ge, oe, none⟩) N c1) ∧ w'.cell? ⟨g_x + 1, 0, none⟩ = some (.int .u8 k) ∧ w'.cell? ⟨g_x + 1, 1, none⟩ = some (.string s) ∧ w'.cell? ⟨g_x + 1, 2, none⟩ = some (.int .i64 n) ∧ w'.cell? ⟨g_x + 1, 3, none⟩ = some (.slice (some ⟨gf, of, none⟩) N c2) ∧ w'.cell? ⟨ge, oe + j * 4, none⟩ = some (.int .u8 k_e) ∧ w'.cell? ⟨ge, oe + j * 4 + 1, none⟩ = some (.string s_e) ∧ w'.cell? ⟨ge, oe + j * 4 + 2, none⟩ = some (.int .i64 n_e) ∧ w'.cell? ⟨ge, oe + j * 4 + 3, none⟩ = some (.slice b_e m_e cp_e) ∧ w'.cell? ⟨gf, of + j * 4, none⟩ = some (.int .u8 k_f) ∧ w'.cell? ⟨gf, of + j * 4 + 1, none⟩ = some (.string s_f) ∧ w'.cell? ⟨gf, of + j * 4 + 2, none⟩ = some (.int .i64 n_f) ∧ w'.cell? ⟨gf, of + j * 4 + 3, none⟩ = some (.slice b_f m_f cp_f)) := Lib.hid (fun w' hf => by
        obtain ⟨q0, q1, q2, q3, q4, q5, q6, q7⟩ := HS0.out w' hf
        exact ⟨q0, q1, q2, q3, q4, q5, q6, q7, hf.cell (hce 0 _ rfl), hf.cell (hce 1 _ rfl), hf.cell (hce 2 _ rfl), hf.cell (hce 3 _ rfl), hf.cell (hcf 0 _ rfl), hf.cell (hcf 1 _ rfl), hf.cell (hcf 2 _ rfl), hf.cell (hcf 3 _ rfl)⟩)
      clear hce hcf hxe hxf hle hlf ht
      obtain ⟨d0, d1, d2, d3, d4, d5, d6, d7, d8, d9, d10, d11, d12, d13, d14, d15⟩ := HS1.out _ HF.out
      go_upto_region 6 with fail
      clear d0 d1 d2 d3 d4 d5 d6 d7 d8 d9 d10 d11 d12 d13 d14 d15
      refine region_e (fun w' => w'.cell? ⟨g_x, 0, none⟩ = some (.int .u8 k) ∧ w'.cell? ⟨g_x, 1, none⟩ = some (.string s) ∧ w'.cell? ⟨g_x, 2, none⟩ = some (.int .i64 n) ∧ w'.cell? ⟨g_x, 3, none⟩ = some (.slice (some ⟨ge, oe, none⟩) N c1) ∧ w'.cell? ⟨g_x + 1, 0, none⟩ = some (.int .u8 k) ∧ w'.cell? ⟨g_x + 1, 1, none⟩ = some (.string s) ∧ w'.cell? ⟨g_x + 1, 2, none⟩ = some (.int .i64 n) ∧ w'.cell? ⟨g_x + 1, 3, none⟩ = some (.slice (some ⟨gf, of, none⟩) N c2) ∧ w'.cell? ⟨ge, oe + j * 4, none⟩ = some (.int .u8 k_e) ∧ w'.cell? ⟨ge, oe + j * 4 + 1, none⟩ = some (.string s_e) ∧ w'.cell? ⟨ge, oe + j * 4 + 2, none⟩ = some (.int .i64 n_e) ∧ w'.cell? ⟨ge, oe + j * 4 + 3, none⟩ = some (.slice b_e m_e cp_e) ∧ w'.cell? ⟨gf, of + j * 4, none⟩ = some (.int .u8 k_f) ∧ w'.cell? ⟨gf, of + j * 4 + 1, none⟩ = some (.string s_f) ∧ w'.cell? ⟨gf, of + j * 4 + 2, none⟩ = some (.int .i64 n_f) ∧ w'.cell? ⟨gf, of + j * 4 + 3, none⟩ = some (.slice b_f m_f cp_f)) [] (by kernel_rfl) ?_ (fun hHeld => ?_)
      · exact HS1.out _ (HF.out.then (Fr.drew _))
      obtain ⟨w6, hwd⟩ : ∃ wZ, wZ = wL.drew := ⟨_, rfl⟩
      have HS : Hid (Fr No wL w6) := Lib.hid (by rw [hwd]; exact Fr.drew _)
      rw [← hwd] at hHeld ⊢
      clear hwd
      replace HF := Lib.hid (HF.out.then HS.out)
      clear HS
      refine take_op 0 (some 41) (Op.fieldAddr 40 ( .tmp 2) 3) 0 ?_ (by kernel_rfl) (by kernel_rfl) (by kernel_rfl) (fun _ _ _ h => h) ?_ (by assumption) ?_
      rotate_left
      · intro w hSw; (try dsimp only at hSw); go_simp; (try (with_reducible rfl))
      try simp only [Act.put, List.setIfInBounds_toArray, List.set_cons_zero, List.set_cons_succ]
      refine take_op 1 (some 42) (Op.load 38 ( .tmp 41)) 38 ?_ (by kernel_rfl) (by kernel_rfl) (by kernel_rfl) (fun _ _ _ h => h) ?_ (by assumption) ?_
      rotate_left
      · intro w hSw; (try dsimp only at hSw); go_simp; (try (with_reducible rfl))
      try simp only [Act.put, List.setIfInBounds_toArray, List.set_cons_zero, List.set_cons_succ]
      refine take_op 2 (some 43) (Op.move ( .tmp 5)) 3 ?_ (by kernel_rfl) (by kernel_rfl) (by kernel_rfl) (fun _ _ _ h => h) ?_ (by assumption) ?_
      rotate_left
      · intro w hSw; (try dsimp only at hSw); go_simp; (try (with_reducible rfl))
      try simp only [Act.put, List.setIfInBounds_toArray, List.set_cons_zero, List.set_cons_succ]
      refine take_op 3 (some 44) (Op.indexAddr 38 ( .tmp 42) ( .tmp 43)) 0 ?_ (by kernel_rfl) (by kernel_rfl) (by kernel_rfl) (fun _ _ _ h => h) ?_ (by assumption) ?_
      rotate_left
      · intro w hSw; (try dsimp only at hSw); go_simp; (try (with_reducible rfl))
      try simp only [Act.put, List.setIfInBounds_toArray, List.set_cons_zero, List.set_cons_succ]
      refine take_op 4 (some 45) (Op.load 40 ( .tmp 44)) 40 ?_ (by kernel_rfl) (by kernel_rfl) (by kernel_rfl) (fun _ _ _ h => h) ?_ (by assumption) ?_
      rotate_left
      · intro w hSw; (try dsimp only at hSw); go_simp; (try (with_reducible rfl))
      try simp only [Act.put, List.setIfInBounds_toArray, List.set_cons_zero, List.set_cons_succ]
      refine take_op 5 (some 46) (Op.fieldAddr 40 ( .tmp 3) 3) 0 ?_ (by kernel_rfl) (by kernel_rfl) (by kernel_rfl) (fun _ _ _ h => h) ?_ (by assumption) ?_
      rotate_left
      · intro w hSw; (try dsimp only at hSw); go_simp; (try (with_reducible rfl))
      try simp only [Act.put, List.setIfInBounds_toArray, List.set_cons_zero, List.set_cons_succ]
      refine take_op 6 (some 47) (Op.load 38 ( .tmp 46)) 38 ?_ (by kernel_rfl) (by kernel_rfl) (by kernel_rfl) (fun _ _ _ h => h) ?_ (by assumption) ?_
      rotate_left
      · intro w hSw; (try dsimp only at hSw); go_simp; (try (with_reducible rfl))
      try simp only [Act.put, List.setIfInBounds_toArray, List.set_cons_zero, List.set_cons_succ]
      refine take_op 7 (some 48) (Op.move ( .tmp 5)) 3 ?_ (by kernel_rfl) (by kernel_rfl) (by kernel_rfl) (fun _ _ _ h => h) ?_ (by assumption) ?_
      rotate_left
      · intro w hSw; (try dsimp only at hSw); go_simp; (try (with_reducible rfl))
      try simp only [Act.put, List.setIfInBounds_toArray, List.set_cons_zero, List.set_cons_succ]
      refine take_op 8 (some 49) (Op.indexAddr 38 ( .tmp 47) ( .tmp 48)) 0 ?_ (by kernel_rfl) (by kernel_rfl) (by kernel_rfl) (fun _ _ _ h => h) ?_ (by assumption) ?_
      rotate_left
      · intro w hSw; (try dsimp only at hSw); go_simp; (try (with_reducible rfl))
      try simp only [Act.put, List.setIfInBounds_toArray, List.set_cons_zero, List.set_cons_succ]
      refine take_op 9 (some 50) (Op.load 40 ( .tmp 49)) 40 ?_ (by kernel_rfl) (by kernel_rfl) (by kernel_rfl) (fun _ _ _ h => h) ?_ (by assumption) ?_
      rotate_left
      · intro w hSw; (try dsimp only at hSw); go_simp; (try (with_reducible rfl))
      try simp only [Act.put, List.setIfInBounds_toArray, List.set_cons_zero, List.set_cons_succ]
      refine ready_e (rs := [10]) (by kernel_rfl) (by simp) ?_
      refine (do_mid (o := _) rfl (fun K hK => ?_) none_e)
      go_simp
      go_at_call 41
      refine (HH.out t hmem ok ok' _ _ _ (HE.out.no HF.out) (HG.out.no HF.out)).mono ?_
      rintro e w7 ⟨rfl, hf⟩
      have HC := Lib.hid hf
      clear hf
      replace HF := Lib.hid (HF.out.then HC.out)
      clear HC
      refine hK.out _ _ ?_ (fun hHeld => ?_)
      · exact HS1.out _ HF.out
      clear hK K
      try dsimp only
      try simp only [Act.put, List.setIfInBounds_toArray, List.set_cons_zero, List.set_cons_succ]
      refine take_op 11 (some 52) (Op.unOp UnOp.not 4 ( .tmp 51)) 4 ?_ (by kernel_rfl) (by kernel_rfl) (by kernel_rfl) (fun _ _ _ h => h) ?_ (by assumption) ?_
      rotate_left
      · intro w hSw; (try dsimp only at hSw); go_simp; (try (with_reducible rfl))
      try simp only [Act.put, List.setIfInBounds_toArray, List.set_cons_zero, List.set_cons_succ]
      refine done_e (by kernel_rfl) ?_ _
      (try simp only [Exit.inBlock, Exit.then])
      go_wp2_with fail
      exact ⟨⟨j + 1, by omega, by go_num, HF⟩, by simp [intOf]; omega⟩
    · skip
      have hd0 : decide (j < N) = false := decide_eq_false hlt
      obtain ⟨d0, d1, d2, d3, d4, d5, d6, d7⟩ := HS0.out _ HF.out
      go_wp2_with fail
      go_ret
      exact ⟨rfl, HW.out.then HF.out⟩
set_option maxHeartbeats 8000000 in
set_option maxRecDepth 100000 in
theorem spat_walk (k : Nat) (s : ByteArray) (n : Int) (l : List T) (h : ∀ t ∈ l, SPt t) : SPt (.mk k s n l) := by
  intro ok ok' w cs ds hc hd
  obtain ⟨a1, c1, rfl, hx⟩ := hcT_parts hc
  obtain ⟨a2, c2, rfl, hy⟩ := hcT_parts hd
  clear hc hd
  obtain ⟨N, hN⟩ : ∃ N, l.length = N := ⟨_, rfl⟩
  rw [hN] at hx hy ⊢
  have HX := Lib.hid hx
  have HY := Lib.hid hy
  have HH := Lib.hid h
  have HN := Lib.hid hN
  clear hx hy h hN
  go_enter Tryz.func64, Tryz.ntmps64
  go_upto_region 1 with fail
  obtain ⟨w1, hn⟩ : ∃ wZ, (w.alloc (.cells #[.int .u8 k, .string s, .int .i64 n, .slice a1 N c1] 97)).alloc (.cells #[.int .u8 k, .string s, .int .i64 n, .slice a2 N c2] 97) = wZ := ⟨_, rfl⟩
  obtain ⟨g_x, hg⟩ : ∃ gZ, w.heap.size = gZ := ⟨_, rfl⟩
  rw [hn, hg]
  have HW : Hid (Fr No w w1) := Lib.hid (by rw [← hn]; exact (Fr.alloc _ _).then (Fr.alloc _ _))
  have R_x : Hid (w1.heap[g_x]? = some (.cells #[.int .u8 k, .string s, .int .i64 n, .slice a1 N c1] 97 (0, 0))) := Lib.hid (by rw [← hn, ← hg]; exact (Fr.alloc _ _).keeps (new_block _ _) no_one)
  have R_y : Hid (w1.heap[g_x + 1]? = some (.cells #[.int .u8 k, .string s, .int .i64 n, .slice a2 N c2] 97 (0, 0))) := Lib.hid (by rw [← hn, ← hg, ← size_alloc w (.cells #[.int .u8 k, .string s, .int .i64 n, .slice a1 N c1] 97)]; exact new_block _ _)
  have HF : Hid (Fr No w1 w1) := Lib.hid (Fr.refl _ _)
  clear hn hg
  have HS0 : Hid (∀ w', Fr No w1 w' → w'.cell? ⟨g_x, 0, none⟩ = some (.int .u8 k) ∧ w'.cell? ⟨g_x, 1, none⟩ = some (.string s) ∧ w'.cell? ⟨g_x, 2, none⟩ = some (.int .i64 n) ∧ w'.cell? ⟨g_x, 3, none⟩ = some (.slice a1 N c1) ∧ w'.cell? ⟨g_x + 1, 0, none⟩ = some (.int .u8 k) ∧ w'.cell? ⟨g_x + 1, 1, none⟩ = some (.string s) ∧ w'.cell? ⟨g_x + 1, 2, none⟩ = some (.int .i64 n) ∧ w'.cell? ⟨g_x + 1, 3, none⟩ = some (.slice a2 N c2)) := Lib.hid (fun w' hf => ⟨cell_of (hf.keeps R_x.out no_one) 0, cell_of (hf.keeps R_x.out no_one) 1, cell_of (hf.keeps R_x.out no_one) 2, cell_of (hf.keeps R_x.out no_one) 3, cell_of (hf.keeps R_y.out no_one) 0, cell_of (hf.keeps R_y.out no_one) 1, cell_of (hf.keeps R_y.out no_one) 2, cell_of (hf.keeps R_y.out no_one) 3⟩)
  obtain ⟨d0, d1, d2, d3, d4, d5, d6, d7⟩ := HS0.out _ HF.out
  go_wp2_with fail
  clear d0 d1 d2 d3 d4 d5 d6 d7
  go_loopw [5] (fun i wr => ∃ j : Nat, j ≤ N ∧ i = .int .i64 (j : Nat) ∧ Hid (Fr No w1 wr)) (fun i _ => N - intOf i)
  case atStart => exact ⟨0, Nat.zero_le _, rfl, HF⟩
  case round =>
    clear HF
    obtain ⟨j, hj, rfl, HF⟩ := hrel
    obtain ⟨wL, hwL⟩ : ∃ wL, wL = wr := ⟨wr, rfl⟩
    rw [← hwL] at HF ⊢
    clear hwL wr
    by_cases hlt : j < N
    · skip
      have hNL := hx_len (HX.out.no HW.out)
      rw [List.length_map, HN.out] at hNL
      have hd0 : decide (j < N) = true := decide_eq_true hlt
      have hj0 : (0 : Int) ≤ (j : Int) := by omega
      have hj1 : (j : Int) < (N : Int) := by omega
      obtain ⟨t, ht⟩ : ∃ t, l[j]? = some t := ⟨_, List.getElem?_eq_getElem (by rw [HN.out]; exact hlt)⟩
      have hmem := List.mem_of_getElem? ht
      obtain ⟨ge, oe, ce, hae, _, hle, hce, hxe⟩ := hx_at (HX.out.no HW.out) (j := j) (x := xT t) (by rw [List.getElem?_map, ht]; rfl)
      obtain ⟨gf, of, cf, haf, _, hlf, hcf, hxf⟩ := hx_at (HY.out.no HW.out) (j := j) (x := xT t) (by rw [List.getElem?_map, ht]; rfl)
      subst hae haf
      have HE := Lib.hid hxe
      obtain ⟨k_e, s_e, n_e, b_e, m_e, cp_e, ecs⟩ := hcT hxe
      subst ecs
      have HG := Lib.hid hxf
      obtain ⟨k_f, s_f, n_f, b_f, m_f, cp_f, ecs⟩ := hcT hxf
      subst ecs
      have HS1 : Hid (∀ w', Fr No w1 w' → w'.cell? ⟨g_x, 0, none⟩ = some (.int .u8 k) ∧ w'.cell? ⟨g_x, 1, none⟩ = some (.string s) ∧ w'.cell? ⟨g_x, 2, none⟩ = some (.int .i64 n) ∧ w'.cell? ⟨g_x, 3, none⟩ = some (.slice (some ⟨ge, oe, none⟩) N c1) ∧ w'.cell? ⟨g_x + 1, 0, none⟩ = some (.int .u8 k) ∧ w'.cell? ⟨g_x + 1, 1, none⟩ = some (.string s) ∧ w'.cell? ⟨g_x + 1, 2, none⟩ = some (.int .i64 n) ∧ w'.cell? ⟨g_x + 1, 3, none⟩ = some (.slice (some ⟨gf, of, none⟩) N c2) ∧ w'.cell? ⟨ge, oe + j * 4, none⟩ = some (.int .u8 k_e) ∧ w'.cell? ⟨ge, oe + j * 4 + 1, none⟩ = some (.string s_e) ∧ w'.cell? ⟨ge, oe + j * 4 + 2, none⟩ = some (.int .i64 n_e) ∧ w'.cell? ⟨ge, oe + j * 4 + 3, none⟩ = some (.slice b_e m_e cp_e) ∧ w'.cell? ⟨gf, of + j * 4, none⟩ = some (.int .u8 k_f) ∧ w'.cell? ⟨gf, of + j * 4 + 1, none⟩ = some (.string s_f) ∧ w'.cell? ⟨gf, of + j * 4 + 2, none⟩ = some (.int .i64 n_f) ∧ w'.cell? ⟨gf, of + j * 4 + 3, none⟩ = some (.slice b_f m_f cp_f)) := Lib.hid (fun w' hf => by
        obtain ⟨q0, q1, q2, q3, q4, q5, q6, q7⟩ := HS0.out w' hf
        exact ⟨q0, q1, q2, q3, q4, q5, q6, q7, hf.cell (hce 0 _ rfl), hf.cell (hce 1 _ rfl), hf.cell (hce 2 _ rfl), hf.cell (hce 3 _ rfl), hf.cell (hcf 0 _ rfl), hf.cell (hcf 1 _ rfl), hf.cell (hcf 2 _ rfl), hf.cell (hcf 3 _ rfl)⟩)
      clear hce hcf hxe hxf hle hlf ht
      obtain ⟨d0, d1, d2, d3, d4, d5, d6, d7, d8, d9, d10, d11, d12, d13, d14, d15⟩ := HS1.out _ HF.out
      go_upto_region 6 with fail
      clear d0 d1 d2 d3 d4 d5 d6 d7 d8 d9 d10 d11 d12 d13 d14 d15
      refine region_e (fun w' => w'.cell? ⟨g_x, 0, none⟩ = some (.int .u8 k) ∧ w'.cell? ⟨g_x, 1, none⟩ = some (.string s) ∧ w'.cell? ⟨g_x, 2, none⟩ = some (.int .i64 n) ∧ w'.cell? ⟨g_x, 3, none⟩ = some (.slice (some ⟨ge, oe, none⟩) N c1) ∧ w'.cell? ⟨g_x + 1, 0, none⟩ = some (.int .u8 k) ∧ w'.cell? ⟨g_x + 1, 1, none⟩ = some (.string s) ∧ w'.cell? ⟨g_x + 1, 2, none⟩ = some (.int .i64 n) ∧ w'.cell? ⟨g_x + 1, 3, none⟩ = some (.slice (some ⟨gf, of, none⟩) N c2) ∧ w'.cell? ⟨ge, oe + j * 4, none⟩ = some (.int .u8 k_e) ∧ w'.cell? ⟨ge, oe + j * 4 + 1, none⟩ = some (.string s_e) ∧ w'.cell? ⟨ge, oe + j * 4 + 2, none⟩ = some (.int .i64 n_e) ∧ w'.cell? ⟨ge, oe + j * 4 + 3, none⟩ = some (.slice b_e m_e cp_e) ∧ w'.cell? ⟨gf, of + j * 4, none⟩ = some (.int .u8 k_f) ∧ w'.cell? ⟨gf, of + j * 4 + 1, none⟩ = some (.string s_f) ∧ w'.cell? ⟨gf, of + j * 4 + 2, none⟩ = some (.int .i64 n_f) ∧ w'.cell? ⟨gf, of + j * 4 + 3, none⟩ = some (.slice b_f m_f cp_f)) [] (by kernel_rfl) ?_ (fun hHeld => ?_)
      · exact HS1.out _ (HF.out.then (Fr.drew _))
      obtain ⟨w6, hwd⟩ : ∃ wZ, wZ = wL.drew := ⟨_, rfl⟩
      have HS : Hid (Fr No wL w6) := Lib.hid (by rw [hwd]; exact Fr.drew _)
      rw [← hwd] at hHeld ⊢
      clear hwd
      replace HF := Lib.hid (HF.out.then HS.out)
      clear HS
      refine take_op 0 (some 41) (Op.fieldAddr 97 ( .tmp 2) 3) 0 ?_ (by kernel_rfl) (by kernel_rfl) (by kernel_rfl) (fun _ _ _ h => h) ?_ (by assumption) ?_
      rotate_left
      · intro w hSw; (try dsimp only at hSw); go_simp; (try (with_reducible rfl))
      try simp only [Act.put, List.setIfInBounds_toArray, List.set_cons_zero, List.set_cons_succ]
      refine take_op 1 (some 42) (Op.load 95 ( .tmp 41)) 95 ?_ (by kernel_rfl) (by kernel_rfl) (by kernel_rfl) (fun _ _ _ h => h) ?_ (by assumption) ?_
      rotate_left
      · intro w hSw; (try dsimp only at hSw); go_simp; (try (with_reducible rfl))
      try simp only [Act.put, List.setIfInBounds_toArray, List.set_cons_zero, List.set_cons_succ]
      refine take_op 2 (some 43) (Op.move ( .tmp 5)) 3 ?_ (by kernel_rfl) (by kernel_rfl) (by kernel_rfl) (fun _ _ _ h => h) ?_ (by assumption) ?_
      rotate_left
      · intro w hSw; (try dsimp only at hSw); go_simp; (try (with_reducible rfl))
      try simp only [Act.put, List.setIfInBounds_toArray, List.set_cons_zero, List.set_cons_succ]
      refine take_op 3 (some 44) (Op.indexAddr 95 ( .tmp 42) ( .tmp 43)) 0 ?_ (by kernel_rfl) (by kernel_rfl) (by kernel_rfl) (fun _ _ _ h => h) ?_ (by assumption) ?_
      rotate_left
      · intro w hSw; (try dsimp only at hSw); go_simp; (try (with_reducible rfl))
      try simp only [Act.put, List.setIfInBounds_toArray, List.set_cons_zero, List.set_cons_succ]
      refine take_op 4 (some 45) (Op.load 97 ( .tmp 44)) 97 ?_ (by kernel_rfl) (by kernel_rfl) (by kernel_rfl) (fun _ _ _ h => h) ?_ (by assumption) ?_
      rotate_left
      · intro w hSw; (try dsimp only at hSw); go_simp; (try (with_reducible rfl))
      try simp only [Act.put, List.setIfInBounds_toArray, List.set_cons_zero, List.set_cons_succ]
      refine take_op 5 (some 46) (Op.fieldAddr 97 ( .tmp 3) 3) 0 ?_ (by kernel_rfl) (by kernel_rfl) (by kernel_rfl) (fun _ _ _ h => h) ?_ (by assumption) ?_
      rotate_left
      · intro w hSw; (try dsimp only at hSw); go_simp; (try (with_reducible rfl))
      try simp only [Act.put, List.setIfInBounds_toArray, List.set_cons_zero, List.set_cons_succ]
      refine take_op 6 (some 47) (Op.load 95 ( .tmp 46)) 95 ?_ (by kernel_rfl) (by kernel_rfl) (by kernel_rfl) (fun _ _ _ h => h) ?_ (by assumption) ?_
      rotate_left
      · intro w hSw; (try dsimp only at hSw); go_simp; (try (with_reducible rfl))
      try simp only [Act.put, List.setIfInBounds_toArray, List.set_cons_zero, List.set_cons_succ]
      refine take_op 7 (some 48) (Op.move ( .tmp 5)) 3 ?_ (by kernel_rfl) (by kernel_rfl) (by kernel_rfl) (fun _ _ _ h => h) ?_ (by assumption) ?_
      rotate_left
      · intro w hSw; (try dsimp only at hSw); go_simp; (try (with_reducible rfl))
      try simp only [Act.put, List.setIfInBounds_toArray, List.set_cons_zero, List.set_cons_succ]
      refine take_op 8 (some 49) (Op.indexAddr 95 ( .tmp 47) ( .tmp 48)) 0 ?_ (by kernel_rfl) (by kernel_rfl) (by kernel_rfl) (fun _ _ _ h => h) ?_ (by assumption) ?_
      rotate_left
      · intro w hSw; (try dsimp only at hSw); go_simp; (try (with_reducible rfl))
      try simp only [Act.put, List.setIfInBounds_toArray, List.set_cons_zero, List.set_cons_succ]
      refine take_op 9 (some 50) (Op.load 97 ( .tmp 49)) 97 ?_ (by kernel_rfl) (by kernel_rfl) (by kernel_rfl) (fun _ _ _ h => h) ?_ (by assumption) ?_
      rotate_left
      · intro w hSw; (try dsimp only at hSw); go_simp; (try (with_reducible rfl))
      try simp only [Act.put, List.setIfInBounds_toArray, List.set_cons_zero, List.set_cons_succ]
      refine ready_e (rs := [10]) (by kernel_rfl) (by simp) ?_
      refine (do_mid (o := _) rfl (fun K hK => ?_) none_e)
      go_simp
      go_at_call 64
      refine (HH.out t hmem ok ok' _ _ _ (HE.out.no HF.out) (HG.out.no HF.out)).mono ?_
      rintro e w7 ⟨rfl, hf⟩
      have HC := Lib.hid hf
      clear hf
      replace HF := Lib.hid (HF.out.then HC.out)
      clear HC
      refine hK.out _ _ ?_ (fun hHeld => ?_)
      · exact HS1.out _ HF.out
      clear hK K
      try dsimp only
      try simp only [Act.put, List.setIfInBounds_toArray, List.set_cons_zero, List.set_cons_succ]
      refine take_op 11 (some 52) (Op.unOp UnOp.not 4 ( .tmp 51)) 4 ?_ (by kernel_rfl) (by kernel_rfl) (by kernel_rfl) (fun _ _ _ h => h) ?_ (by assumption) ?_
      rotate_left
      · intro w hSw; (try dsimp only at hSw); go_simp; (try (with_reducible rfl))
      try simp only [Act.put, List.setIfInBounds_toArray, List.set_cons_zero, List.set_cons_succ]
      refine done_e (by kernel_rfl) ?_ _
      (try simp only [Exit.inBlock, Exit.then])
      go_wp2_with fail
      exact ⟨⟨j + 1, by omega, by go_num, HF⟩, by simp [intOf]; omega⟩
    · skip
      have hd0 : decide (j < N) = false := decide_eq_false hlt
      obtain ⟨d0, d1, d2, d3, d4, d5, d6, d7⟩ := HS0.out _ HF.out
      go_wp2_with fail
      go_ret
      exact ⟨rfl, HW.out.then HF.out⟩
end Go.Proofs.YtjabhmepafofmaaGreatDoor
