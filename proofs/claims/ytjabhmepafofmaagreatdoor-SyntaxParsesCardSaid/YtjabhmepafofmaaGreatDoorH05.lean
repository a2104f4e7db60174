/- Xde -/
import Derived.Test.YtjabhmepafofmaaGreatDoorH01
set_option linter.unusedVariables false
set_option linter.unusedSimpArgs false
namespace Go.Proofs.YtjabhmepafofmaaGreatDoor
open Go.RowKit
set_option maxHeartbeats 4000000 in
set_option maxRecDepth 100000 in
theorem dec_v {v : Vw} {g : Gr} {n : Nat} {whole : Bool} {e : Ev D} (h : QOks v g) (HX : Hid (Cx v e e.w e.p e.b [] (g.pDec n whole))) (he : e.r = 0) (h0 : wordB (rtok v.l e.p e.b) ⟨#[118, 97, 108]⟩ = true) : Calls Tryz.prog 14 (v.ptr :: [.bool whole]).toArray e.w (QP v e (stE xD)) := by
 have HH := Lib.hid h
 have HE := Lib.hid he
 clear h he
 have H0 := Lib.hid h0
 clear h0
 simp only [pDec_eq] at HX
 go_enter Tryz.func14, Tryz.ntmps14
 go_upto_region 1 with fail
 generalize hn : e.w.alloc _ = w1
 generalize hg : e.w.heap.size = g_r
 replace HX := alloc' HX hn hg
 clear hn hg
 go_wp2_with fail
 refine word' HX ?_; clear HX; intro w2 HX
 go_wp2_with fail
 refine mayy' HX (word_c (by kernel_rfl)) H0 word_lt ?_; clear HX; intro w3 HX
 have HG := good' HX
 simp only [decV] at HX
 go_wp2_with fail
 refine take' HX (by decide) ?_; clear HX; intro w4 q5 b6 kt_s st_s mt_s qt_s h7 I7 HX
 go_wp2_with fail
 simp only [field49_1]
 go_upto_region 3 with fail
 generalize hn : w4.alloc _ = w8
 generalize hg : w4.heap.size = g_t
 replace HX := alloc' HX hn hg
 clear hn hg
 go_wp2_with fail
 refine sign' HX ?_; clear HX; intro w9 HX
 go_wp2_with fail
 refine must' HX (sign_c (by kernel_rfl)) ?_; clear HX; intro w10 q11 b12 h13 I13 HX
 go_wp2_with fail
 refine callE HX (HH.out.exp) (.inr HG.out) ?_; clear HX; intro w14 q15 b16 x_e _ _ _ _ _ _ _ _ _ _ _ _ _ h17 HX
 have D_t := d16 (bk 1 HX rfl)
 go_upto_region 5 with fail
 clear D_t
 generalize hn : World.setCell _ ⟨g_t, 15, none⟩ _ = w18
 replace HX := put1 HX (pD9 hn)
 clear hn
 have D_t := d16 (bk 1 HX rfl)
 have D_r := d16 (bk 2 HX rfl)
 go_wp2_with fail
 clear D_t D_r
 generalize hn : World.setCell _ ⟨g_r, 15, none⟩ _ = w19
 replace HX := put2 HX (pD hn)
 clear hn
 exact ret' 2 HX rfl Tryz.underlying46 (by kernel_rfl) rfl rfl rfl rfl (hcD_mk 3 st_s (hx_nil _) (hx_nil _) (hx_nil _) hc_zT (vl 0 HX rfl))
set_option maxHeartbeats 4000000 in
set_option maxRecDepth 100000 in
theorem dec_f {v : Vw} {g : Gr} {n : Nat} {whole : Bool} {e : Ev D} (h : QOks v g) (HX : Hid (Cx v e e.w e.p e.b [] (g.pDec n whole))) (he : e.r = 0) (h0 : wordB (rtok v.l e.p e.b) ⟨#[118, 97, 108]⟩ = false) (h1 : wordB (rtok v.l e.p e.b) ⟨#[102, 117, 110]⟩ = true) : Calls Tryz.prog 14 (v.ptr :: [.bool whole]).toArray e.w (QP v e (stE xD)) := by
 have HH := Lib.hid h
 have HE := Lib.hid he
 clear h he
 have H0 := Lib.hid h0
 clear h0
 have H1 := Lib.hid h1
 clear h1
 simp only [pDec_eq] at HX
 go_enter Tryz.func14, Tryz.ntmps14
 go_upto_region 1 with fail
 generalize hn : e.w.alloc _ = w1
 generalize hg : e.w.heap.size = g_r
 replace HX := alloc' HX hn hg
 clear hn hg
 go_wp2_with fail
 refine word' HX ?_; clear HX; intro w2 HX
 go_wp2_with fail
 refine mayn' HX (word_c (by kernel_rfl)) H0 ?_; clear HX; intro w3 HX
 go_wp2_with fail
 refine word' HX ?_; clear HX; intro w4 HX
 go_wp2_with fail
 refine mayy' HX (word_c (by kernel_rfl)) H1 word_lt ?_; clear HX; intro w5 HX
 have HG := good' HX
 simp only [some_, bind_assoc'] at HX
 go_upto_region 8 with fail
 generalize hn : w5.alloc _ = w6
 generalize hg : w5.heap.size = g_t
 replace HX := alloc' HX hn hg
 clear hn hg
 replace HX := nil' 71 9 HX
 refine reg' HX (cl 1 4 HX rfl rfl) [7] (by kernel_rfl) ?_; clear HX; intro w7 HX hHeld
 refine tk 0 rfl hHeld ?_ (by kernel_rfl) (by kernel_rfl) (by exact fun _ _ _ h => h) (by (intro w h; (try dsimp only at h); go_simp; (try (with_reducible rfl))))
 try simp only [SA]
 refine tk 1 rfl hHeld ?_ (by kernel_rfl) (by kernel_rfl) (by exact fun _ _ _ h => h) (by (intro w h; (try dsimp only at h); go_simp; (try (with_reducible rfl))))
 try simp only [SA]
 refine tk 2 rfl hHeld ?_ (by kernel_rfl) (by kernel_rfl) (by exact fun _ _ _ h => h) (by (intro w h; (try dsimp only at h); go_simp; (try (with_reducible rfl))))
 try simp only [SA]
 refine rdm 3 (by kernel_rfl) rfl fun K hK => ?_
 go_simp
 go_at_call 35
 refine callF HX (HH.out.fun_) (.inr HG.out) ?_; clear HX; intro w8 q9 b10 x_y _ _ _ _ _ _ _ _ _ _ _ _ _ _ _ _ _ h11 HX
 refine hK.out _ _ ((cl 2 4 HX rfl rfl) _ (Fr.refl _ _)) (fun hHeld => ?_)
 clear hK K
 try dsimp only
 try simp only [SA]
 refine rdm 4 (by kernel_rfl) rfl fun K hK => ?_
 go_simp
 generalize hn : w8.alloc _ = w12
 generalize hg : w8.heap.size = g_one
 replace HX := alloc' HX hn hg
 clear hn hg
 refine hK.out _ _ ((cl 3 4 HX rfl rfl) _ (Fr.refl _ _)) (fun hHeld => ?_)
 clear hK K
 try dsimp only
 try simp only [SA]
 refine rdm 5 (by kernel_rfl) rfl fun K hK => ?_
 refine spush' HX elemF (by decide) (Nat.zero_le _) rfl _ _ 37 rfl Tryz.underlying37 rfl rfl (by simp [Value.oneCell']) rfl ?_; clear HX; intro a3 c3 w13 HX
 refine hK.out _ _ ((cl 1 4 HX rfl rfl) _ (Fr.refl _ _)) (fun hHeld => ?_)
 clear hK K
 try dsimp only
 try simp only [SA]
 refine tk 6 rfl hHeld ?_ (by kernel_rfl) (by kernel_rfl) (by exact fun _ _ _ h => h) (by (intro w h; (try dsimp only at h); go_simp; (try (with_reducible rfl))))
 try simp only [SA]
 have D_t := cl' 1 4 HX rfl rfl
 have E_t := fz 1 4 HX rfl
 refine rdl 7 (by kernel_rfl) rfl (by kernel_rfl) fun K hK => ?_
 go_simp
 clear D_t E_t
 generalize hn : World.setCell _ ⟨g_t, 4, none⟩ _ = w14
 replace HX := put1 HX (pD4 hn)
 clear hn
 refine hK.out _ _ ?_
 clear hK K
 try dsimp only
 try simp only [SA]
 refine done_e (by kernel_rfl) ?_ _
 (try simp only [Exit.inBlock, Exit.then])
 go_wp2_with fail
 go_loopw [] (fun wx => ∃ (m q j : Nat) (bb : Bool) (acc : List F) (av : Option Addr) (cv : Nat), m ≤ q + 1 ∧ posR v.gp wx = q ∧ Hid (Cx v e wx q bb [.out 71 9 (.slice av m cv) m (acc.map xF), .blk g_t [.int .u8 4, .string ⟨#[]⟩, .slice none 0 0, .slice none 0 0, .slice av m cv, .int .u8 0, .string ⟨#[]⟩, .int .i64 0, .slice none 0 0, .int .u8 0, .string ⟨#[]⟩, .int .i64 0, .string ⟨#[]⟩, .slice none 0 0, .slice none 0 0, .slice none 0 0] 46, .blk g_r [.int .u8 0, .string ⟨#[]⟩, .slice none 0 0, .slice none 0 0, .slice none 0 0, .int .u8 0, .string ⟨#[]⟩, .int .i64 0, .slice none 0 0, .int .u8 0, .string ⟨#[]⟩, .int .i64 0, .string ⟨#[]⟩, .slice none 0 0, .slice none 0 0, .slice none 0 0] 46] ((more ⟨#[97, 110, 100]⟩ g.fun_ j acc).bind decF))) (fun wx => v.l.length - posR v.gp wx)
 case atStart => exact ⟨1, q9, n, b10, [x_y], _, _, by omega, posR_at HX.out.blk, HX⟩
 case round =>
  clear HX
  obtain ⟨m, q, j, bb, acc, av, cv, hmq, hpq, HX⟩ := hrel
  have hm := few HX hmq
  have hq := HX.out.le
  obtain ⟨j2, hv⟩ := more_head rfl (ne' HX)
  replace HX := as' HX hv
  clear hv
  go_wp2_with fail
  refine word' HX ?_; clear HX; intro w15 HX
  go_wp2_with fail
  refine may' HX (word_c (by kernel_rfl)) ?_ ?_
  ·
   clear HX; intro w16 h17 HX
   have HG := good' HX
   go_upto_region 10 with fail
   refine reg' HX (cl 1 4 HX rfl rfl) [7] (by kernel_rfl) ?_; clear HX; intro w18 HX hHeld
   refine tk 0 rfl hHeld ?_ (by kernel_rfl) (by kernel_rfl) (by exact fun _ _ _ h => h) (by (intro w h; (try dsimp only at h); go_simp; (try (with_reducible rfl))))
   try simp only [SA]
   refine tk 1 rfl hHeld ?_ (by kernel_rfl) (by kernel_rfl) (by exact fun _ _ _ h => h) (by (intro w h; (try dsimp only at h); go_simp; (try (with_reducible rfl))))
   try simp only [SA]
   refine tk 2 rfl hHeld ?_ (by kernel_rfl) (by kernel_rfl) (by exact fun _ _ _ h => h) (by (intro w h; (try dsimp only at h); go_simp; (try (with_reducible rfl))))
   try simp only [SA]
   refine rdm 3 (by kernel_rfl) rfl fun K hK => ?_
   go_simp
   go_at_call 35
   refine callF HX (HH.out.fun_) (.inr HG.out) ?_; clear HX; intro w19 q20 b21 x_y _ _ _ _ _ _ _ _ _ _ _ _ _ _ _ _ _ h22 HX
   refine hK.out _ _ ((cl 2 4 HX rfl rfl) _ (Fr.refl _ _)) (fun hHeld => ?_)
   clear hK K
   try dsimp only
   try simp only [SA]
   refine rdm 4 (by kernel_rfl) rfl fun K hK => ?_
   go_simp
   generalize hn : w19.alloc _ = w23
   generalize hg : w19.heap.size = g_one
   replace HX := alloc' HX hn hg
   clear hn hg
   refine hK.out _ _ ((cl 3 4 HX rfl rfl) _ (Fr.refl _ _)) (fun hHeld => ?_)
   clear hK K
   try dsimp only
   try simp only [SA]
   refine rdm 5 (by kernel_rfl) rfl fun K hK => ?_
   refine spush' HX elemF (by decide) hm rfl _ _ 37 rfl Tryz.underlying37 rfl rfl (by simp [Value.oneCell']) rfl ?_; clear HX; intro a3 c3 w24 HX
   replace HX := snoc' HX
   refine hK.out _ _ ((cl 1 4 HX rfl rfl) _ (Fr.refl _ _)) (fun hHeld => ?_)
   clear hK K
   try dsimp only
   try simp only [SA]
   refine tk 6 rfl hHeld ?_ (by kernel_rfl) (by kernel_rfl) (by exact fun _ _ _ h => h) (by (intro w h; (try dsimp only at h); go_simp; (try (with_reducible rfl))))
   try simp only [SA]
   have D_t := cl' 1 4 HX rfl rfl
   have E_t := fz 1 4 HX rfl
   refine rdl 7 (by kernel_rfl) rfl (by kernel_rfl) fun K hK => ?_
   go_simp
   clear D_t E_t
   generalize hn : World.setCell _ ⟨g_t, 4, none⟩ _ = w25
   replace HX := put1 HX (pD4 hn)
   clear hn
   refine hK.out _ _ ?_
   clear hK K
   try dsimp only
   try simp only [SA]
   refine done_e (by kernel_rfl) ?_ _
   (try simp only [Exit.inBlock, Exit.then])
   go_wp2_with fail
   exact ⟨⟨m + 1, q20, j2, b21, acc ++ [x_y], a3, c3, by omega, posR_at HX.out.blk, HX⟩, by rw [posR_at HX.out.blk, hpq]; have := HX.out.le; omega⟩
  ·
   clear HX; intro w26 HX
   simp only [decF] at HX
   replace HX := row_ HX (by decide)
   have D_t := d16 (bk 1 HX rfl)
   have D_r := d16 (bk 2 HX rfl)
   go_wp2_with fail
   clear D_t D_r
   generalize hn : World.setCell _ ⟨g_r, 15, none⟩ _ = w27
   replace HX := put2 HX (pD hn)
   clear hn
   exact ret' 2 HX rfl Tryz.underlying46 (by kernel_rfl) rfl rfl rfl rfl (hcD_mk 4 nob (hx_nil _) (hx_nil _) (rw' 0 HX rfl) hc_zT hc_zE)
set_option maxHeartbeats 4000000 in
set_option maxRecDepth 100000 in
theorem dec_o {v : Vw} {g : Gr} {n : Nat} {whole : Bool} {e : Ev D} (h : QOks v g) (HX : Hid (Cx v e e.w e.p e.b [] (g.pDec n whole))) (he : e.r = 0) (h0 : wordB (rtok v.l e.p e.b) ⟨#[118, 97, 108]⟩ = false) (h1 : wordB (rtok v.l e.p e.b) ⟨#[102, 117, 110]⟩ = false) (h2 : wordB (rtok v.l e.p e.b) ⟨#[100, 111]⟩ = true) : Calls Tryz.prog 14 (v.ptr :: [.bool whole]).toArray e.w (QP v e (stE xD)) := by
 have HH := Lib.hid h
 have HE := Lib.hid he
 clear h he
 have H0 := Lib.hid h0
 clear h0
 have H1 := Lib.hid h1
 clear h1
 have H2 := Lib.hid h2
 clear h2
 simp only [pDec_eq] at HX
 go_enter Tryz.func14, Tryz.ntmps14
 go_upto_region 1 with fail
 generalize hn : e.w.alloc _ = w1
 generalize hg : e.w.heap.size = g_r
 replace HX := alloc' HX hn hg
 clear hn hg
 go_wp2_with fail
 refine word' HX ?_; clear HX; intro w2 HX
 go_wp2_with fail
 refine mayn' HX (word_c (by kernel_rfl)) H0 ?_; clear HX; intro w3 HX
 go_wp2_with fail
 refine word' HX ?_; clear HX; intro w4 HX
 go_wp2_with fail
 refine mayn' HX (word_c (by kernel_rfl)) H1 ?_; clear HX; intro w5 HX
 go_wp2_with fail
 refine word' HX ?_; clear HX; intro w6 HX
 go_wp2_with fail
 refine mayy' HX (word_c (by kernel_rfl)) H2 word_lt ?_; clear HX; intro w7 HX
 have HG := good' HX
 simp only [decO] at HX
 go_wp2_with fail
 refine callE HX (HH.out.exp) (.inr HG.out) ?_; clear HX; intro w8 q9 b10 x_e _ _ _ _ _ _ _ _ _ _ _ _ _ h11 HX
 have D_r := d16 (bk 1 HX rfl)
 go_wp2_with fail
 clear D_r
 generalize hn : World.setCell _ ⟨g_r, 15, none⟩ _ = w12
 replace HX := put1 HX (pD hn)
 clear hn
 exact ret' 1 HX rfl Tryz.underlying46 (by kernel_rfl) rfl rfl rfl rfl (hcD_mk 6 nob (hx_nil _) (hx_nil _) (hx_nil _) hc_zT (vl 0 HX rfl))
set_option maxHeartbeats 4000000 in
set_option maxRecDepth 100000 in
theorem dec_l {v : Vw} {g : Gr} {n : Nat} {e : Ev D} (h : QOks v g) (HX : Hid (Cx v e e.w e.p e.b [] (g.pDec n false))) (he : e.r = 0) (h0 : wordB (rtok v.l e.p e.b) ⟨#[118, 97, 108]⟩ = false) (h1 : wordB (rtok v.l e.p e.b) ⟨#[102, 117, 110]⟩ = false) (h2 : wordB (rtok v.l e.p e.b) ⟨#[100, 111]⟩ = false) : Calls Tryz.prog 14 (v.ptr :: [.bool false]).toArray e.w (QP v e (stE xD)) := by
 have HH := Lib.hid h
 have HE := Lib.hid he
 clear h he
 have H0 := Lib.hid h0
 clear h0
 have H1 := Lib.hid h1
 clear h1
 have H2 := Lib.hid h2
 clear h2
 simp only [pDec_eq] at HX
 go_enter Tryz.func14, Tryz.ntmps14
 go_upto_region 1 with fail
 generalize hn : e.w.alloc _ = w1
 generalize hg : e.w.heap.size = g_r
 replace HX := alloc' HX hn hg
 clear hn hg
 go_wp2_with fail
 refine word' HX ?_; clear HX; intro w2 HX
 go_wp2_with fail
 refine mayn' HX (word_c (by kernel_rfl)) H0 ?_; clear HX; intro w3 HX
 go_wp2_with fail
 refine word' HX ?_; clear HX; intro w4 HX
 go_wp2_with fail
 refine mayn' HX (word_c (by kernel_rfl)) H1 ?_; clear HX; intro w5 HX
 go_wp2_with fail
 refine word' HX ?_; clear HX; intro w6 HX
 go_wp2_with fail
 refine mayn' HX (word_c (by kernel_rfl)) H2 ?_; clear HX; intro w7 HX
 replace HX := pos' HX (by decide)
 have D_gp := d3 (bg HX)
 have D_r := d16 (bk 0 HX rfl)
 go_upto_region 26 with fail
 clear D_gp D_r
 generalize hn : World.setCell _ ⟨v.gp, 2, none⟩ _ = w8
 replace HX := fail' (m := .ret (.mk 0 nob [] [] [] zT zE)) HX hn
 clear hn
 have D_r := d16 (bk 0 HX rfl)
 go_wp2_with fail
 clear D_r
 generalize hn : World.setCell _ ⟨g_r, 15, none⟩ _ = w9
 replace HX := put0 HX (pD hn)
 clear hn
 exact ret' 0 HX rfl Tryz.underlying46 (by kernel_rfl) rfl rfl rfl rfl (hcD_mk 0 nob (v := []) (cn := []) (f := []) (hx_nil _) (hx_nil _) (hx_nil _) hc_zT hc_zE)
end Go.Proofs.YtjabhmepafofmaaGreatDoor
