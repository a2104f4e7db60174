/- Xle, Xlv, Xdf -/
import Derived.Test.YtjabhmepafofmaaGreatDoorH09
import Derived.Test.YtjabhmepafofmaaGreatDoorH05
import Derived.Test.YtjabhmepafofmaaGreatDoorH04
set_option linter.unusedVariables false
set_option linter.unusedSimpArgs false
namespace Go.Proofs.YtjabhmepafofmaaGreatDoor
open Go.RowKit
set_option maxHeartbeats 4000000 in
set_option maxRecDepth 100000 in
theorem let_x {v : Vw} {g : Gr} {n : Nat} (h : QOks v g) : QC v.dn 10 111 [] (stE xE) (g.pLet n) := qc fun e he HX => by
 have HH := Lib.hid h
 have HE := Lib.hid he
 clear h he
 simp only [pLet_eq] at HX
 go_enter Tryz.func111, Tryz.ntmps111
 go_upto_region 1 with fail
 generalize hn : e.w.alloc _ = w1
 generalize hg : e.w.heap.size = g_r
 replace HX := alloc' HX hn hg
 clear hn hg
 go_upto_region 2 with fail
 generalize hn : w1.alloc _ = w2
 generalize hg : w1.heap.size = g_t
 replace HX := alloc' HX hn hg
 clear hn hg
 replace HX := let0 (nil' 46 16 HX)
 go_loopw [] (fun wx => ∃ (m q j : Nat) (bb : Bool) (acc : List D) (av : Option Addr) (cv : Nat), m ≤ q + 1 ∧ Hid (bb = false → m ≤ q) ∧ letM v.gp g_t v.l.length wx = 2 * (v.l.length - q) + bt bb + (if m = 0 then 1 else 0) ∧ Hid (Cx v e wx q bb [.out 46 16 (.slice av m cv) m (acc.map xD), .blk g_t [.int .u8 10, .string ⟨#[]⟩, .int .i64 0, .string ⟨#[]⟩, .slice none 0 0, .slice none 0 0, .slice av m cv] 44, .blk g_r [.int .u8 0, .string ⟨#[]⟩, .int .i64 0, .string ⟨#[]⟩, .slice none 0 0, .slice none 0 0, .slice none 0 0] 44] (letP g j acc (letK g)))) (fun wx => letM v.gp g_t v.l.length wx)
 case atStart => exact ⟨0, e.p, n, e.b, [], none, 0, by omega, Lib.hid (fun _ => Nat.zero_le _), letM_at HX.out.blk (bk 1 HX rfl), HX⟩
 case round =>
  clear HX
  obtain ⟨m, q, j, bb, acc, av, cv, hmq, HMQ, hpq, HX⟩ := hrel
  have hm := few HX hmq
  have HPQ := Lib.hid hpq
  clear hpq
  have HACC := Lib.hid (by have h := len' HX; rwa [List.length_map] at h : acc.length = m)
  obtain ⟨z, hz⟩ : ∃ z, (decide (m = 0) || (!bb && !wordB (rtok v.l q bb) ⟨#[105, 110]⟩)) = z := ⟨_, rfl⟩
  have HZ := Lib.hid hz
  clear hz
  go_upto_region 2 with fail
  go_cut [20] from 5 to 31 (fun u wx => u = .bool z ∧ Hid (Fr No wr wx))
  case first =>
   by_cases hm0 : m = 0
   ·
    have hq0 : ((m : Int) == 0) = true := by simp [hm0]
    have HZ2 : Hid (z = true) := Lib.hid (by rw [← HZ.out, decide_eq_true hm0]; rfl)
    clear hm0
    have D_t := d7 (bk 1 HX rfl)
    go_wp2_with fail
    go_meet
    exact ⟨by rw [HZ2.out], Lib.hid (Fr.refl _ _)⟩
   have hq0 : ((m : Int) == 0) = false := by simp only [beq_eq_false_iff_ne, ne_eq]; omega
   have HM := Lib.hid (decide_eq_false hm0)
   clear hm0
   have D_t := d7 (bk 1 HX rfl)
   cases bb with
   | true =>
    have D_gp := d3 (bg HX)
    have HZ2 : Hid (z = false) := Lib.hid (by rw [← HZ.out, HM.out]; rfl)
    go_wp2_with fail
    go_meet
    exact ⟨by rw [HZ2.out], Lib.hid (Fr.refl _ _)⟩
   | false =>
    have D_gp := d3 (bg HX)
    go_wp2_with fail
    refine (wordr HX.out.par ⟨#[105, 110]⟩).mono ?_
    rintro _ wS ⟨rfl, hf⟩
    have HFL := Lib.hid hf
    clear hf
    cases hz1 : wordB (rtok v.l q false) ⟨#[105, 110]⟩ with
    | true =>
     have HZ2 : Hid (z = false) := Lib.hid (by rw [← HZ.out, HM.out, hz1]; rfl)
     clear hz1
     go_wp2_with fail
     go_meet
     exact ⟨by rw [HZ2.out], HFL⟩
    | false =>
     have HZ2 : Hid (z = true) := Lib.hid (by rw [← HZ.out, HM.out, hz1]; rfl)
     clear hz1
     go_wp2_with fail
     go_meet
     exact ⟨by rw [HZ2.out], HFL⟩
  case rest =>
   obtain ⟨rfl, hf⟩ := hcut
   replace HX := no' HX hf.out
   clear hf
   cases z with
   | true =>
    have hin : m = 0 ∨ (bb = false ∧ wordB (rtok v.l q bb) ⟨#[105, 110]⟩ = false) := by
     have h := HZ.out
     by_cases hm : m = 0
     · exact .inl hm
     ·
      rw [decide_eq_false hm] at h
      cases bb with
      | true => cases h
      | false =>
       cases h1 : wordB (rtok v.l q false) ⟨#[105, 110]⟩ with
       | true => rw [h1] at h; cases h
       | false => exact .inr ⟨rfl, rfl⟩
    replace HX := leti HX (hin.imp (fun h => List.eq_nil_of_length_eq_zero (HACC.out.trans h)) id)
    obtain ⟨j2, hv⟩ := decs_head rfl (ne' HX)
    replace HX := as' HX hv
    have hmq2 : m ≤ q := by
     rcases hin with h | ⟨h, -⟩
     · omega
     · exact HMQ.out h
    have HIN : Hid (m = 0 ∨ bb = false) := Lib.hid (hin.imp id And.left)
    clear hv hin HZ
    go_upto_region 3 with fail
    refine reg' HX (cl 1 6 HX rfl rfl) [7] (by kernel_rfl) ?_; clear HX; intro w3 HX hHeld
    refine tk 0 rfl hHeld ?_ (by kernel_rfl) (by kernel_rfl) (by exact fun _ _ _ h => h) (by (intro w h; (try dsimp only at h); go_simp; (try (with_reducible rfl))))
    try simp only [SA]
    refine tk 1 rfl hHeld ?_ (by kernel_rfl) (by kernel_rfl) (by exact fun _ _ _ h => h) (by (intro w h; (try dsimp only at h); go_simp; (try (with_reducible rfl))))
    try simp only [SA]
    refine tk 2 rfl hHeld ?_ (by kernel_rfl) (by kernel_rfl) (by exact fun _ _ _ h => h) (by (intro w h; (try dsimp only at h); go_simp; (try (with_reducible rfl))))
    try simp only [SA]
    refine rdm 3 (by kernel_rfl) rfl fun K hK => ?_
    go_simp
    go_at_call 14
    refine callD HX (HH.out.dec false) (rk (by decide) HE) ?_; clear HX; intro w4 q5 b6 x_y _ _ _ _ _ _ _ _ _ _ _ _ _ _ _ _ _ _ _ _ _ _ _ _ _ _ _ _ _ _ h7 HX
    refine hK.out _ _ ((cl 2 6 HX rfl rfl) _ (Fr.refl _ _)) (fun hHeld => ?_)
    clear hK K
    try dsimp only
    try simp only [SA]
    refine rdm 4 (by kernel_rfl) rfl fun K hK => ?_
    go_simp
    generalize hn : w4.alloc _ = w8
    generalize hg : w4.heap.size = g_one
    replace HX := alloc' HX hn hg
    clear hn hg
    refine hK.out _ _ ((cl 3 6 HX rfl rfl) _ (Fr.refl _ _)) (fun hHeld => ?_)
    clear hK K
    try dsimp only
    try simp only [SA]
    refine rdm 5 (by kernel_rfl) rfl fun K hK => ?_
    refine spush' HX elemD (by decide) hm rfl _ _ 25 rfl Tryz.underlying25 rfl rfl (by simp [Value.oneCell']) rfl ?_; clear HX; intro a3 c3 w9 HX
    replace HX := snoc' HX
    refine hK.out _ _ ((cl 1 6 HX rfl rfl) _ (Fr.refl _ _)) (fun hHeld => ?_)
    clear hK K
    try dsimp only
    try simp only [SA]
    refine tk 6 rfl hHeld ?_ (by kernel_rfl) (by kernel_rfl) (by exact fun _ _ _ h => h) (by (intro w h; (try dsimp only at h); go_simp; (try (with_reducible rfl))))
    try simp only [SA]
    have D_t := cl' 1 6 HX rfl rfl
    have E_t := fz 1 6 HX rfl
    refine rdl 7 (by kernel_rfl) rfl (by kernel_rfl) fun K hK => ?_
    go_simp
    clear D_t E_t
    generalize hn : World.setCell _ ⟨g_t, 6, none⟩ _ = w10
    replace HX := put1 HX (pE6 hn)
    clear hn
    refine hK.out _ _ ?_
    clear hK K
    try dsimp only
    try simp only [SA]
    refine done_e (by kernel_rfl) ?_ _
    (try simp only [Exit.inBlock, Exit.then])
    go_wp2_with fail
    refine sign' HX ?_; clear HX; intro w11 HX
    go_wp2_with fail
    refine must' HX (sign_c (by kernel_rfl)) ?_; clear HX; intro w12 q13 b14 h15 I15 HX
    go_wp2_with fail
    replace HX := letn HX
    exact ⟨⟨m + 1, q13, j2, b14, acc ++ [x_y], a3, c3, by omega, Lib.hid (fun h => by have := I15.out h; omega), letM_at HX.out.blk (bk 1 HX rfl), HX⟩, by rw [letM_at HX.out.blk (bk 1 HX rfl), HPQ.out]; exact let_lt (by omega) (fun h => by have := I15.out h; omega) HX.out.le HIN.out⟩
   | false =>
    have hou : m ≠ 0 ∧ (bb = true ∨ wordB (rtok v.l q bb) ⟨#[105, 110]⟩ = true) := by
     have h := HZ.out
     by_cases hm : m = 0
     ·
      rw [decide_eq_true hm] at h
      cases h
     ·
      refine ⟨hm, ?_⟩
      rw [decide_eq_false hm] at h
      cases bb with
      | true => exact .inl rfl
      | false =>
       cases h1 : wordB (rtok v.l q false) ⟨#[105, 110]⟩ with
       | true => exact .inr rfl
       | false => rw [h1] at h; cases h
    replace HX := leto HX (fun h => hou.1 (by rw [← HACC.out, h]; rfl)) hou.2
    clear hou HZ HPQ HMQ
    go_wp2_with fail
    refine word' HX ?_; clear HX; intro w16 HX
    go_wp2_with fail
    refine must' HX (word_c (by kernel_rfl)) ?_; clear HX; intro w17 q18 b19 h20 I20 HX
    simp only [letK] at HX
    replace HX := row_ HX (by decide)
    go_wp2_with fail
    refine callE HX (HH.out.exp) (rk (by decide) HE) ?_; clear HX; intro w21 q22 b23 x_e _ _ _ _ _ _ _ _ _ _ _ _ _ h24 HX
    have D_t := d7 (bk 2 HX rfl)
    have hl := lt_of_block (bk 2 HX rfl)
    go_upto_region 7 with fail
    clear D_t
    clear hl
    generalize hg : w21.heap.size = g_arr
    generalize hn : World.setCell _ ⟨g_t, 4, none⟩ _ = w25
    generalize hm : w25.alloc _ = w26
    replace HX := late2 HX hg (pE4 hn) hm
    clear hg hn hm
    go_wp2_with fail
    refine word' HX ?_; clear HX; intro w27 HX
    go_wp2_with fail
    refine must' HX (word_c (by kernel_rfl)) ?_; clear HX; intro w28 q29 b30 h31 I31 HX
    have D_t := d7 (bk 3 HX rfl)
    have D_r := d7 (bk 4 HX rfl)
    go_wp2_with fail
    clear D_t D_r
    generalize hn : World.setCell _ ⟨g_r, 6, none⟩ _ = w32
    replace HX := put4 HX (pE hn)
    clear hn
    exact ret' 4 HX rfl Tryz.underlying44 (by kernel_rfl) rfl rfl rfl rfl (hcE_mk 10 nob 0 nob (one' 0 1 HX rfl rfl rfl (by decide)) (hx_nil _) (rw' 2 HX rfl))
end Go.Proofs.YtjabhmepafofmaaGreatDoor
namespace Go.Proofs.YtjabhmepafofmaaGreatDoor
open Go.RowKit
set_option maxHeartbeats 4000000 in
set_option maxRecDepth 100000 in
theorem level_x {v : Vw} {g : Gr} {n lv : Nat} (hlv : lv ≤ 5) (h : QOks v g) : QC v.dn (8 - lv) 60 [.int .i64 (lv : Nat)] (stE xE) (g.pLevel n lv) := qc fun e he HX => by
 have HH := Lib.hid h
 have HE := Lib.hid he
 clear h he
 simp only [Gr.pLevel] at HX
 go_enter Tryz.func60, Tryz.ntmps60
 go_upto_region 1 with fail
 generalize hn : e.w.alloc _ = w1
 generalize hg : e.w.heap.size = g_r
 replace HX := alloc' HX hn hg
 clear hn hg
 by_cases h5 : lv = 5
 ·
  subst h5
  replace HX := tail' (pos' HX rfl)
  go_wp2_with fail
  refine callE HX (HH.out.calls) (rk (by decide) HE) ?_; clear HX; intro w2 q3 b4 x_e _ _ _ _ _ _ _ _ _ _ _ _ _ h5 HX
  have D_r := d7 (bk 1 HX rfl)
  go_wp2_with fail
  clear D_r
  generalize hn : World.setCell _ ⟨g_r, 6, none⟩ _ = w6
  replace HX := put1 HX (pE hn)
  clear hn
  exact ret' 1 HX rfl Tryz.underlying44 (by kernel_rfl) rfl rfl rfl rfl ((vl 0 HX rfl))
 have hq5 := kn' (k := lv) (z := 5) (by omega)
 replace HX := neg' HX h5
 go_wp2_with fail
 refine callE HX (HH.out.level (lv + 1) (by omega)) (rk (by omega) HE) ?_; clear HX; intro w7 q8 b9 x_e _ _ _ _ _ _ _ _ _ _ _ _ _ h10 HX
 go_upto_region 4 with fail
 generalize hn : w7.alloc _ = w11
 generalize hg : w7.heap.size = g_t
 replace HX := alloc' HX hn hg
 clear hn hg
 go_wp2_with fail
 refine ops' HX (by omega) ?_; clear HX; intro w12 so j2 HX
 go_wp2_with fail
 replace HX := And.intro (mix0 HX.1) HX.2
 go_loopw [6] (fun u wx => ∃ (so : ByteArray) (q j : Nat) (bb : Bool) (x : E) (k : Nat) (sx : ByteArray) (nx : Int) (ux : ByteArray) (ax1 : Option Addr) (mx1 cx1 : Nat) (ax2 : Option Addr) (mx2 cx2 : Nat) (ax3 : Option Addr) (mx3 cx3 : Nat), u = .string so ∧ posR v.gp wx = q ∧ Hid (Cx v e wx q bb [.mix g_t g_r (xE x) [.int .u8 k, .string sx, .int .i64 nx, .string ux, .slice ax1 mx1 cx1, .slice ax2 mx2 cx2, .slice ax3 mx3 cx3], .blk g_t [.int .u8 k, .string sx, .int .i64 nx, .string ux, .slice ax1 mx1 cx1, .slice ax2 mx2 cx2, .slice ax3 mx3 cx3] 44, .blk g_r [.int .u8 0, .string ⟨#[]⟩, .int .i64 0, .string ⟨#[]⟩, .slice none 0 0, .slice none 0 0, .slice none 0 0] 44] (opP g lv j x so)) ∧ Hid (so ≠ ⟨#[]⟩ → bb = false ∧ q < v.l.length)) (fun _ wx => v.l.length - posR v.gp wx)
 case atStart => exact ⟨so, q8, j2, b9, x_e, _, _, _, _, _, _, _, _, _, _, _, _, _, rfl, posR_at HX.1.out.blk, HX⟩
 case round =>
  clear HX
  obtain ⟨sn, q, j, bb, x, kx, sx, nx, ux, ax1, mx1, cx1, ax2, mx2, cx2, ax3, mx3, cx3, rfl, hpq, HX, HSN⟩ := hrel
  unfold opP at HX
  by_cases hsn : sn = ⟨#[]⟩
  ·
   replace HX := pos' HX hsn
   subst hsn
   have D_t := d7 (bk 1 HX rfl)
   have D_r := d7 (bk 2 HX rfl)
   go_wp2_with fail
   clear D_t D_r
   generalize hn : World.setCell _ ⟨g_r, 6, none⟩ _ = w13
   replace HX := put2 HX (pE hn) ⟨.inr rfl, trivial⟩
   clear hn
   exact ret' 2 HX rfl Tryz.underlying44 (by kernel_rfl) rfl rfl rfl rfl (vm HX)
  replace HX := neg' HX hsn
  have hqs : (sn.toList == ([] : List UInt8)) = false := by rw [show ([] : List UInt8) = (⟨#[]⟩ : ByteArray).toList from by kernel_rfl, bytes_eq_iff]; exact decide_eq_false hsn
  obtain ⟨rfl, hql⟩ := HSN.out hsn
  clear hsn HSN
  have HG := good' HX
  by_cases h2 : lv = 2
  ·
   have hq2 := kq (k := lv) (z := 2) (by omega)
   have hr : Gr.rows lv = 1 := by rw [h2]; rfl
   simp only [hr, reduceIte, if_neg (show ¬ (1 = 2) by decide)] at HX
   clear hr
   have HL2 : Hid (QC v 6 60 [.int .i64 2] (stE xE) (g.level lv)) := Lib.hid (by have h := HH.out.level lv hlv; rw [h2] at h ⊢; exact h)
   clear h2
   have hk := few HX (Nat.le_succ q)
   have D_gp := d3 (bg HX)
   go_upto_region 7 with fail
   clear hk
   clear D_gp
   generalize hn : World.setCell _ ⟨v.gp, 1, none⟩ _ = w14
   replace HX := adv' HX hql hn
   clear hn
   go_upto_region 8 with fail
   refine reg' HX (e7 (bk 1 HX rfl)) [6] (by kernel_rfl) ?_; clear HX; intro w15 HX hHeld
   refine tk 0 rfl hHeld ?_ (by kernel_rfl) (by kernel_rfl) (by exact fun _ _ _ h => h) (by (intro w h; (try dsimp only at h); go_simp; (try (with_reducible rfl))))
   try simp only [SA]
   refine tk 1 rfl hHeld ?_ (by kernel_rfl) (by kernel_rfl) (by exact fun _ _ _ h => h) (by (intro w h; (try dsimp only at h); go_simp; (try (with_reducible rfl))))
   try simp only [SA]
   refine tk 2 rfl hHeld ?_ (by kernel_rfl) (by kernel_rfl) (by exact fun _ _ _ h => h) (by (intro w h; (try dsimp only at h); go_simp; (try (with_reducible rfl))))
   try simp only [SA]
   refine rdm 3 (by kernel_rfl) rfl fun K hK => ?_
   go_simp
   go_at_call 60
   refine callE HX (HL2.out) (.inr HG.out) ?_; clear HX; intro w16 q17 b18 x_y _ _ _ _ _ _ _ _ _ _ _ _ _ h19 HX
   refine hK.out _ _ ((e7 (bk 2 HX rfl)) _ (Fr.refl _ _)) (fun hHeld => ?_)
   clear hK K
   try dsimp only
   try simp only [SA]
   refine rdm 4 (by kernel_rfl) rfl fun K hK => ?_
   go_simp
   generalize hn : w16.alloc _ = w20
   generalize hg : w16.heap.size = g_arr
   replace HX := alloc' HX hn hg
   clear hn hg
   refine hK.out _ _ ((e7 (bk 3 HX rfl)) _ (Fr.refl _ _)) (fun hHeld => ?_)
   clear hK K
   try dsimp only
   try simp only [SA]
   refine tk 5 rfl hHeld ?_ (by kernel_rfl) (by kernel_rfl) (by exact fun _ _ _ h => h) (by (intro w h; (try dsimp only at h); go_simp; (try (with_reducible rfl))))
   try simp only [SA]
   have D_r := d7 (bk 4 HX rfl)
   refine rdl 6 (by kernel_rfl) rfl (by kernel_rfl) fun K hK => ?_
   go_simp
   clear D_r
   generalize hn : World.setCell _ ⟨g_r, 6, none⟩ _ = w21
   replace HX := put4 HX (pE hn) ⟨.inr rfl, trivial⟩
   clear hn
   refine hK.out _ _ ?_
   clear hK K
   try dsimp only
   try simp only [SA]
   refine done_e (by kernel_rfl) ?_ _
   (try simp only [Exit.inBlock, Exit.then])
   go_wp2_with fail
   exact ret' 4 HX rfl Tryz.underlying44 (by kernel_rfl) rfl rfl rfl rfl (hcE_kids 15 sn 0 nob (mtwo0 (k := 7) HX rfl rfl rfl (by decide)))
  have hq2 := kn' (k := lv) (z := 2) (by omega)
  have hr1 : ¬ Gr.rows lv = 1 := by
   by_cases h : 2 < lv
   ·
    rw [rows_two h (by omega)]
    decide
   ·
    rw [rows_nil h h2]
    decide
  simp only [if_neg hr1] at HX
  clear hr1
  have hk := few HX (Nat.le_succ q)
  have D_gp := d3 (bg HX)
  go_upto_region 7 with fail
  clear hk
  clear D_gp
  generalize hn : World.setCell _ ⟨v.gp, 1, none⟩ _ = w22
  replace HX := adv' HX hql hn
  clear hn
  go_upto_region 9 with fail
  refine reg' HX (e7 (bk 1 HX rfl)) [8] (by kernel_rfl) ?_; clear HX; intro w23 HX hHeld
  refine tk 0 rfl hHeld ?_ (by kernel_rfl) (by kernel_rfl) (by exact fun _ _ _ h => h) (by (intro w h; (try dsimp only at h); go_simp; (try (with_reducible rfl))))
  try simp only [SA]
  refine tk 1 rfl hHeld ?_ (by kernel_rfl) (by kernel_rfl) (by exact fun _ _ _ h => h) (by (intro w h; (try dsimp only at h); go_simp; (try (with_reducible rfl))))
  try simp only [SA]
  refine tk 2 rfl hHeld ?_ (by kernel_rfl) (by kernel_rfl) (by exact fun _ _ _ h => h) (by (intro w h; (try dsimp only at h); go_simp; (try (with_reducible rfl))))
  try simp only [SA]
  refine tk 3 rfl hHeld ?_ (by kernel_rfl) (by kernel_rfl) (by exact fun _ _ _ h => h) (by (intro w h; (try dsimp only at h); go_simp; (try (with_reducible rfl))))
  try simp only [SA]
  refine tk 4 rfl hHeld ?_ (by kernel_rfl) (by kernel_rfl) (by exact fun _ _ _ h => h) (by (intro w h; (try dsimp only at h); go_simp; (try (with_reducible rfl))))
  try simp only [SA]
  refine rdm 5 (by kernel_rfl) rfl fun K hK => ?_
  go_simp
  go_at_call 60
  rw [show IntKind.i64.wrap ((lv : Int) + 1) = ((lv + 1 : Nat) : Int) by rw [IntKind.wrap_i64]; omega]
  refine callE HX (HH.out.level (lv + 1) (by omega)) (.inr HG.out) ?_; clear HX; intro w24 q25 b26 x_y _ _ _ _ _ _ _ _ _ _ _ _ _ h27 HX
  refine hK.out _ _ ((e7 (bk 2 HX rfl)) _ (Fr.refl _ _)) (fun hHeld => ?_)
  clear hK K
  try dsimp only
  try simp only [SA]
  refine rdm 6 (by kernel_rfl) rfl fun K hK => ?_
  go_simp
  generalize hn : w24.alloc _ = w28
  generalize hg : w24.heap.size = g_arr
  replace HX := alloc' HX hn hg
  clear hn hg
  refine hK.out _ _ ((e7 (bk 3 HX rfl)) _ (Fr.refl _ _)) (fun hHeld => ?_)
  clear hK K
  try dsimp only
  try simp only [SA]
  refine tk 7 rfl hHeld ?_ (by kernel_rfl) (by kernel_rfl) (by exact fun _ _ _ h => h) (by (intro w h; (try dsimp only at h); go_simp; (try (with_reducible rfl))))
  try simp only [SA]
  have D_t := d7 (bk 3 HX rfl)
  refine rdl 8 (by kernel_rfl) rfl (by kernel_rfl) fun K hK => ?_
  go_simp
  clear D_t
  generalize hn : World.setCell _ ⟨g_t, 6, none⟩ _ = w29
  replace HX := put3 HX (pE hn) ⟨.inl rfl, trivial⟩
  clear hn
  refine hK.out _ _ ?_
  clear hK K
  try dsimp only
  try simp only [SA]
  refine done_e (by kernel_rfl) ?_ _
  (try simp only [Exit.inBlock, Exit.then])
  replace HX := mix2 (x' := xE (Gr.mkE 15 sn [x, x_y])) HX (hcE_kids 15 sn 0 nob (mtwo (k := 7) HX rfl rfl rfl (by decide)))
  by_cases h3 : 2 < lv
  ·
   have hq3 : decide ((lv : Int) > 2) = true := decide_eq_true (by omega)
   simp only [rows_two h3 (by omega), reduceIte] at HX
   go_wp2_with fail
   refine ops' HX (by omega) ?_; clear HX; intro w30 so j2 HX
   go_wp2_with fail
   exact ⟨⟨so, q25, j2, b26, Gr.mkE 15 sn [x, x_y], 15, sn, 0, nob, _, _, _, _, _, _, _, _, _, rfl, posR_at HX.1.out.blk, HX⟩, by rw [posR_at HX.1.out.blk, hpq]; have := HX.1.out.le; omega⟩
  have hq3 : decide ((lv : Int) > 2) = false := decide_eq_false (by omega)
  simp only [rows_nil h3 h2, if_neg (show ¬ (0 = 2) by decide)] at HX
  go_wp2_with fail
  replace HX := op0 (g := g) (lv := lv) HX
  exact ⟨⟨⟨#[]⟩, q25, 0, b26, Gr.mkE 15 sn [x, x_y], 15, sn, 0, nob, _, _, _, _, _, _, _, _, _, rfl, posR_at HX.1.out.blk, HX⟩, by rw [posR_at HX.1.out.blk, hpq]; have := HX.1.out.le; omega⟩
end Go.Proofs.YtjabhmepafofmaaGreatDoor
namespace Go.Proofs.YtjabhmepafofmaaGreatDoor
open Go.RowKit
set_option maxHeartbeats 4000000 in
set_option maxRecDepth 100000 in
theorem dec_c {v : Vw} {g : Gr} {n : Nat} {e : Ev D} (hda : ∀ n m, QC v 5 36 [] (stE xD) (dataP n m g)) (hva : g.vars = .out ∨ ∃ m, g.vars = Gr.pVars m) (h : QOks v g) (HX : Hid (Cx v e e.w e.p e.b [] (g.pDec n true))) (he : e.r = 0) (h0 : wordB (rtok v.l e.p e.b) ⟨#[118, 97, 108]⟩ = false) (h1 : wordB (rtok v.l e.p e.b) ⟨#[102, 117, 110]⟩ = false) (h2 : wordB (rtok v.l e.p e.b) ⟨#[100, 111]⟩ = false) : Calls Tryz.prog 14 (v.ptr :: [.bool true]).toArray e.w (QP v e (stE xD)) := by
 have HH := Lib.hid h
 have HE := Lib.hid he
 clear h he
 have H0 := Lib.hid h0
 clear h0
 have H1 := Lib.hid h1
 clear h1
 have H2 := Lib.hid h2
 clear h2
 have HVA := Lib.hid hva
 have HDA := Lib.hid hda
 clear hva hda
 simp only [pDec_eq] at HX
 go_enter Tryz.func14, Tryz.ntmps14
 go_upto_region 1 with fail
 generalize hn : e.w.alloc _ = w1
 generalize hg : e.w.heap.size = g_r
 replace HX := alloc' HX hn hg
 clear hn hg
 go_wp2_with fail
 refine word' HX ?_; clear HX; intro w2 HX
 go_wp2_with fail
 refine mayn' HX (word_c (by kernel_rfl)) H0 ?_; clear HX; intro w3 HX
 go_wp2_with fail
 refine word' HX ?_; clear HX; intro w4 HX
 go_wp2_with fail
 refine mayn' HX (word_c (by kernel_rfl)) H1 ?_; clear HX; intro w5 HX
 go_wp2_with fail
 refine word' HX ?_; clear HX; intro w6 HX
 go_wp2_with fail
 refine mayn' HX (word_c (by kernel_rfl)) H2 ?_; clear HX; intro w7 HX
 replace HX := neg' HX (by decide)
 simp only [decW] at HX
 go_wp2_with fail
 refine word' HX ?_; clear HX; intro w8 HX
 go_wp2_with fail
 refine may' HX (word_c (by kernel_rfl)) ?_ ?_
 ·
  clear HX; intro w9 h10 HX
  have HG := good' HX
  obtain ⟨m, hva⟩ : ∃ m, g.vars = Gr.pVars m := rndb' HX HVA
  rw [hva] at HX
  replace HX := as' (m' := dataP n m g) HX rfl
  clear hva
  go_wp2_with fail
  replace HX := tail' HX
  refine callD HX (HDA.out n m) (.inr HG.out) ?_; clear HX; intro w11 q12 b13 x_d _ _ _ _ _ _ _ _ _ _ _ _ _ _ _ _ _ _ _ _ _ _ _ _ _ _ _ _ _ _ h14 HX
  have D_r := d16 (bk 1 HX rfl)
  go_wp2_with fail
  clear D_r
  generalize hn : World.setCell _ ⟨g_r, 15, none⟩ _ = w15
  replace HX := put1 HX (pD hn)
  clear hn
  exact ret' 1 HX rfl Tryz.underlying46 (by kernel_rfl) rfl rfl rfl rfl ((vl 0 HX rfl))
 ·
  clear HX; intro w16 HX
  go_wp2_with fail
  refine word' HX ?_; clear HX; intro w17 HX
  go_wp2_with fail
  refine may' HX (word_c (by kernel_rfl)) ?_ ?_
  ·
   clear HX; intro w18 h19 HX
   have HG := good' HX
   simp only [decX] at HX
   go_wp2_with fail
   refine callC HX (HH.out.con) (.inr HG.out) ?_; clear HX; intro w20 q21 b22 x_e _ _ _ _ _ _ _ _ h23 HX
   have D_r := d16 (bk 1 HX rfl)
   have hl := lt_of_block (bk 1 HX rfl)
   go_wp2_with fail
   clear D_r
   clear hl
   generalize hg : w20.heap.size = g_arr
   generalize hn : World.setCell _ ⟨g_r, 15, none⟩ _ = w24
   generalize hm : w24.alloc _ = w25
   replace HX := late1 HX hg (pD hn) hm
   clear hg hn hm
   exact ret' 2 HX rfl Tryz.underlying46 (by kernel_rfl) rfl rfl rfl rfl (hcD_mk (cn := [x_e]) 2 nob (hx_nil _) (one' 0 1 HX rfl rfl rfl (by decide)) (hx_nil _) hc_zT hc_zE)
  ·
   clear HX; intro w26 HX
   go_wp2_with fail
   refine word' HX ?_; clear HX; intro w27 HX
   go_wp2_with fail
   refine may' HX (word_c (by kernel_rfl)) ?_ ?_
   ·
    clear HX; intro w28 h29 HX
    have HG := good' HX
    simp only [decR] at HX
    go_wp2_with fail
    refine take' HX (by decide) ?_; clear HX; intro w30 q31 b32 kt_s st_s mt_s qt_s h33 I33 HX
    go_wp2_with fail
    simp only [field49_1]
    go_upto_region 20 with fail
    generalize hn : w30.alloc _ = w34
    generalize hg : w30.heap.size = g_t
    replace HX := alloc' HX hn hg
    clear hn hg
    go_wp2_with fail
    refine sign' HX ?_; clear HX; intro w35 HX
    go_wp2_with fail
    refine must' HX (sign_c (by kernel_rfl)) ?_; clear HX; intro w36 q37 b38 h39 I39 HX
    go_wp2_with fail
    refine callT HX (HH.out.ty) (.inr HG.out) ?_; clear HX; intro w40 q41 b42 x_y _ _ _ _ _ _ h43 HX
    have D_t := d16 (bk 1 HX rfl)
    go_upto_region 22 with fail
    clear D_t
    generalize hn : World.setCell _ ⟨g_t, 8, none⟩ _ = w44
    replace HX := put1 HX (pD5 hn)
    clear hn
    go_wp2_with fail
    refine sign' HX ?_; clear HX; intro w45 HX
    go_wp2_with fail
    refine must' HX (sign_c (by kernel_rfl)) ?_; clear HX; intro w46 q47 b48 h49 I49 HX
    go_wp2_with fail
    refine callE HX (HH.out.exp) (.inr HG.out) ?_; clear HX; intro w50 q51 b52 x_e _ _ _ _ _ _ _ _ _ _ _ _ _ h53 HX
    have D_t := d16 (bk 2 HX rfl)
    go_upto_region 24 with fail
    clear D_t
    generalize hn : World.setCell _ ⟨g_t, 15, none⟩ _ = w54
    replace HX := put2 HX (pD9 hn)
    clear hn
    have D_t := d16 (bk 2 HX rfl)
    have D_r := d16 (bk 3 HX rfl)
    go_wp2_with fail
    clear D_t D_r
    generalize hn : World.setCell _ ⟨g_r, 15, none⟩ _ = w55
    replace HX := put3 HX (pD hn)
    clear hn
    exact ret' 3 HX rfl Tryz.underlying46 (by kernel_rfl) rfl rfl rfl rfl (hcD_mk 5 st_s (hx_nil _) (hx_nil _) (hx_nil _) (vl 1 HX rfl) (vl 0 HX rfl))
   ·
    clear HX; intro w56 HX
    have D_gp := d3 (bg HX)
    have D_r := d16 (bk 0 HX rfl)
    go_upto_region 26 with fail
    clear D_gp D_r
    generalize hn : World.setCell _ ⟨v.gp, 2, none⟩ _ = w57
    replace HX := fail' (m := .ret (.mk 0 nob [] [] [] zT zE)) HX hn
    clear hn
    have D_r := d16 (bk 0 HX rfl)
    go_wp2_with fail
    clear D_r
    generalize hn : World.setCell _ ⟨g_r, 15, none⟩ _ = w58
    replace HX := put0 HX (pD hn)
    clear hn
    exact ret' 0 HX rfl Tryz.underlying46 (by kernel_rfl) rfl rfl rfl rfl (hcD_mk 0 nob (v := []) (cn := []) (f := []) (hx_nil _) (hx_nil _) (hx_nil _) hc_zT hc_zE)
theorem dec_x {v : Vw} {g : Gr} {n : Nat} {whole : Bool} (hda : ∀ n m, QC v 5 36 [] (stE xD) (dataP n m g)) (hva : g.vars = .out ∨ ∃ m, g.vars = Gr.pVars m) (h : QOks v g) : QC v.dn 0 14 [.bool whole] (stE xD) (g.pDec n whole) := qc fun e he HX => by
 cases h0 : wordB (rtok v.l e.p e.b) ⟨#[118, 97, 108]⟩ with
 | true => exact dec_v h HX he h0
 | false =>
  cases h1 : wordB (rtok v.l e.p e.b) ⟨#[102, 117, 110]⟩ with
  | true => exact dec_f h HX he h0 h1
  | false =>
   cases h2 : wordB (rtok v.l e.p e.b) ⟨#[100, 111]⟩ with
   | true => exact dec_o h HX he h0 h1 h2
   | false =>
    cases whole with
    | false => exact dec_l h HX he h0 h1 h2
    | true => exact dec_c hda hva h HX he h0 h1 h2
end Go.Proofs.YtjabhmepafofmaaGreatDoor
