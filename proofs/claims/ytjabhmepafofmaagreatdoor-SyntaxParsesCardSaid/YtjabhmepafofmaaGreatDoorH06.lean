/- Wda, Wde -/
import Derived.Test.YtjabhmepafofmaaGreatDoorH02
import Derived.Test.YtjabhmepafofmaaGreatDoorH01
import Derived.Test.YtjabhmepafofmaaGreatDoorH37
set_option linter.unusedVariables false
set_option linter.unusedSimpArgs false
namespace Go.Proofs.YtjabhmepafofmaaGreatDoor
open Go.RowKit
set_option maxHeartbeats 4000000 in
set_option maxRecDepth 100000 in
theorem dec_val {v : Vd} {g : Gr} {n : Nat} {whole : Bool} {e : Ed D} (h : Oks v.gp v.a v.c v.l g) (HX : Hid (Dx v e e.w e.p [] (g.pDec n whole))) (h0 : seesB (v.l.getD e.p zTok) [⟨#[118, 97, 108]⟩] = true) : Calls Tryz.prog 12 (v.ptr :: [.bool whole]).toArray e.w (DP v e (stE xD)) := by
 have HH := Lib.hid h
 clear h
 have H0 := Lib.hid h0
 clear h0
 simp only [pDec_eq] at HX
 go_enter Tryz.func12, Tryz.ntmps12
 go_upto_region 1 with fail
 generalize hn : e.w.alloc _ = w1
 generalize hg : e.w.heap.size = g_r
 replace HX := alloc' HX hn hg
 clear hn hg
 go_wp2_with fail
 generalize hn : w1.alloc _ = w2
 generalize hg : w1.heap.size = g_sk
 replace HX := alloc' HX hn hg
 clear hn hg
 refine skipy HX H0 ?_ (by rfl) (by rfl) (by decide); clear HX; intro w3 h4 HX
 simp only [decV] at HX
 go_wp2_with fail
 refine taked HX (by decide) (fun _ h => ⟨rfl, h⟩) ?_; clear HX; intro w5 st_s h6 HX
 go_wp2_with fail
 refine mustd HX (fun _ h => ⟨rfl, h⟩) ?_; clear HX; intro w7 h8 HX
 go_wp2_with fail
 refine callEd HX (HH.out.exp) (fun _ h => ⟨rfl, h⟩) ?_; clear HX; intro w9 q10 x_e _ _ _ _ _ _ _ _ _ _ _ _ _ h11 HX
 have D_r := d16 (bk 1 HX rfl)
 go_wp2_with fail
 clear D_r
 generalize hn : World.setCell _ ⟨g_r, 15, none⟩ _ = w12
 replace HX := put1 HX (pD hn)
 clear hn
 exact retd 1 HX rfl Tryz.underlying46 (by kernel_rfl) rfl rfl rfl rfl (hcD_mk 3 st_s (hx_nil _) (hx_nil _) (hx_nil _) hc_zT (vl 0 HX rfl))
set_option maxHeartbeats 4000000 in
set_option maxRecDepth 100000 in
theorem dec_fun {v : Vd} {g : Gr} {n : Nat} {whole : Bool} {e : Ed D} (h : Oks v.gp v.a v.c v.l g) (HX : Hid (Dx v e e.w e.p [] (g.pDec n whole))) (h0 : seesB (v.l.getD e.p zTok) [⟨#[118, 97, 108]⟩] = false) (h1 : seesB (v.l.getD e.p zTok) [⟨#[102, 117, 110]⟩] = true) : Calls Tryz.prog 12 (v.ptr :: [.bool whole]).toArray e.w (DP v e (stE xD)) := by
 have HH := Lib.hid h
 clear h
 have H0 := Lib.hid h0
 clear h0
 have H1 := Lib.hid h1
 clear h1
 simp only [pDec_eq] at HX
 go_enter Tryz.func12, Tryz.ntmps12
 go_upto_region 1 with fail
 generalize hn : e.w.alloc _ = w1
 generalize hg : e.w.heap.size = g_r
 replace HX := alloc' HX hn hg
 clear hn hg
 go_wp2_with fail
 generalize hn : w1.alloc _ = w2
 generalize hg : w1.heap.size = g_sk
 replace HX := alloc' HX hn hg
 clear hn hg
 refine skipn HX H0 ?_ (by rfl) (by rfl) (by decide); clear HX; intro w3 HX
 go_wp2_with fail
 generalize hn : w3.alloc _ = w4
 generalize hg : w3.heap.size = g_sk
 replace HX := alloc' HX hn hg
 clear hn hg
 refine skipy HX H1 ?_ (by rfl) (by rfl) (by decide); clear HX; intro w5 h6 HX
 go_wp2_with fail
 refine callrowd HX (some_fun enters26 HH.out.fun_ ⟨#[97, 110, 100]⟩ n) (fun _ h => ⟨rfl, h⟩) ?_; clear HX; intro w7 q8 x_q a_q c_q h9 HX
 simp only [decF] at HX
 have D_r := d16 (bk 1 HX rfl)
 go_wp2_with fail
 clear D_r
 generalize hn : World.setCell _ ⟨g_r, 15, none⟩ _ = w10
 replace HX := put1 HX (pD hn)
 clear hn
 exact retd 1 HX rfl Tryz.underlying46 (by kernel_rfl) rfl rfl rfl rfl (hcD_mk 4 nob (hx_nil _) (hx_nil _) (rw' 0 HX rfl) hc_zT hc_zE)
set_option maxHeartbeats 4000000 in
set_option maxRecDepth 100000 in
theorem dec_do {v : Vd} {g : Gr} {n : Nat} {whole : Bool} {e : Ed D} (h : Oks v.gp v.a v.c v.l g) (HX : Hid (Dx v e e.w e.p [] (g.pDec n whole))) (h0 : seesB (v.l.getD e.p zTok) [⟨#[118, 97, 108]⟩] = false) (h1 : seesB (v.l.getD e.p zTok) [⟨#[102, 117, 110]⟩] = false) (h2 : seesB (v.l.getD e.p zTok) [⟨#[100, 111]⟩] = true) : Calls Tryz.prog 12 (v.ptr :: [.bool whole]).toArray e.w (DP v e (stE xD)) := by
 have HH := Lib.hid h
 clear h
 have H0 := Lib.hid h0
 clear h0
 have H1 := Lib.hid h1
 clear h1
 have H2 := Lib.hid h2
 clear h2
 simp only [pDec_eq] at HX
 go_enter Tryz.func12, Tryz.ntmps12
 go_upto_region 1 with fail
 generalize hn : e.w.alloc _ = w1
 generalize hg : e.w.heap.size = g_r
 replace HX := alloc' HX hn hg
 clear hn hg
 go_wp2_with fail
 generalize hn : w1.alloc _ = w2
 generalize hg : w1.heap.size = g_sk
 replace HX := alloc' HX hn hg
 clear hn hg
 refine skipn HX H0 ?_ (by rfl) (by rfl) (by decide); clear HX; intro w3 HX
 go_wp2_with fail
 generalize hn : w3.alloc _ = w4
 generalize hg : w3.heap.size = g_sk
 replace HX := alloc' HX hn hg
 clear hn hg
 refine skipn HX H1 ?_ (by rfl) (by rfl) (by decide); clear HX; intro w5 HX
 go_wp2_with fail
 generalize hn : w5.alloc _ = w6
 generalize hg : w5.heap.size = g_sk
 replace HX := alloc' HX hn hg
 clear hn hg
 refine skipy HX H2 ?_ (by rfl) (by rfl) (by decide); clear HX; intro w7 h8 HX
 simp only [decO] at HX
 go_wp2_with fail
 refine callEd HX (HH.out.exp) (fun _ h => ⟨rfl, h⟩) ?_; clear HX; intro w9 q10 x_e _ _ _ _ _ _ _ _ _ _ _ _ _ h11 HX
 have D_r := d16 (bk 1 HX rfl)
 go_wp2_with fail
 clear D_r
 generalize hn : World.setCell _ ⟨g_r, 15, none⟩ _ = w12
 replace HX := put1 HX (pD hn)
 clear hn
 exact retd 1 HX rfl Tryz.underlying46 (by kernel_rfl) rfl rfl rfl rfl (hcD_mk 6 nob (hx_nil _) (hx_nil _) (hx_nil _) hc_zT (vl 0 HX rfl))
set_option maxHeartbeats 4000000 in
set_option maxRecDepth 100000 in
theorem dec_nolet {v : Vd} {g : Gr} {n : Nat} {e : Ed D} (h : Oks v.gp v.a v.c v.l g) (HX : Hid (Dx v e e.w e.p [] (g.pDec n false))) (h0 : seesB (v.l.getD e.p zTok) [⟨#[118, 97, 108]⟩] = false) (h1 : seesB (v.l.getD e.p zTok) [⟨#[102, 117, 110]⟩] = false) (h2 : seesB (v.l.getD e.p zTok) [⟨#[100, 111]⟩] = false) : Calls Tryz.prog 12 (v.ptr :: [.bool false]).toArray e.w (DP v e (stE xD)) := by
 have HH := Lib.hid h
 clear h
 have H0 := Lib.hid h0
 clear h0
 have H1 := Lib.hid h1
 clear h1
 have H2 := Lib.hid h2
 clear h2
 simp only [pDec_eq] at HX
 go_enter Tryz.func12, Tryz.ntmps12
 go_upto_region 1 with fail
 generalize hn : e.w.alloc _ = w1
 generalize hg : e.w.heap.size = g_r
 replace HX := alloc' HX hn hg
 clear hn hg
 go_wp2_with fail
 generalize hn : w1.alloc _ = w2
 generalize hg : w1.heap.size = g_sk
 replace HX := alloc' HX hn hg
 clear hn hg
 refine skipn HX H0 ?_ (by rfl) (by rfl) (by decide); clear HX; intro w3 HX
 go_wp2_with fail
 generalize hn : w3.alloc _ = w4
 generalize hg : w3.heap.size = g_sk
 replace HX := alloc' HX hn hg
 clear hn hg
 refine skipn HX H1 ?_ (by rfl) (by rfl) (by decide); clear HX; intro w5 HX
 go_wp2_with fail
 generalize hn : w5.alloc _ = w6
 generalize hg : w5.heap.size = g_sk
 replace HX := alloc' HX hn hg
 clear hn hg
 refine skipn HX H2 ?_ (by rfl) (by rfl) (by decide); clear HX; intro w7 HX
 replace HX := posd HX (by decide)
 go_wp2_with fail
 exact ⟨rfl, faild HX⟩
end Go.Proofs.YtjabhmepafofmaaGreatDoor
namespace Go.Proofs.YtjabhmepafofmaaGreatDoor
open Go.RowKit
set_option maxHeartbeats 4000000 in
set_option maxRecDepth 100000 in
theorem dec_more {v : Vd} {g : Gr} {n : Nat} {e : Ed D} (h : Oks v.gp v.a v.c v.l g) (HX : Hid (Dx v e e.w e.p [] (g.pDec n true))) (h0 : seesB (v.l.getD e.p zTok) [⟨#[118, 97, 108]⟩] = false) (h1 : seesB (v.l.getD e.p zTok) [⟨#[102, 117, 110]⟩] = false) (h2 : seesB (v.l.getD e.p zTok) [⟨#[100, 111]⟩] = false) : Calls Tryz.prog 12 (v.ptr :: [.bool true]).toArray e.w (DP v e (stE xD)) := by
 have HH := Lib.hid h
 clear h
 have H0 := Lib.hid h0
 clear h0
 have H1 := Lib.hid h1
 clear h1
 have H2 := Lib.hid h2
 clear h2
 simp only [pDec_eq] at HX
 go_enter Tryz.func12, Tryz.ntmps12
 go_upto_region 1 with fail
 generalize hn : e.w.alloc _ = w1
 generalize hg : e.w.heap.size = g_r
 replace HX := alloc' HX hn hg
 clear hn hg
 go_wp2_with fail
 generalize hn : w1.alloc _ = w2
 generalize hg : w1.heap.size = g_sk
 replace HX := alloc' HX hn hg
 clear hn hg
 refine skipn HX H0 ?_ (by rfl) (by rfl) (by decide); clear HX; intro w3 HX
 go_wp2_with fail
 generalize hn : w3.alloc _ = w4
 generalize hg : w3.heap.size = g_sk
 replace HX := alloc' HX hn hg
 clear hn hg
 refine skipn HX H1 ?_ (by rfl) (by rfl) (by decide); clear HX; intro w5 HX
 go_wp2_with fail
 generalize hn : w5.alloc _ = w6
 generalize hg : w5.heap.size = g_sk
 replace HX := alloc' HX hn hg
 clear hn hg
 refine skipn HX H2 ?_ (by rfl) (by rfl) (by decide); clear HX; intro w7 HX
 replace HX := negd HX (by decide)
 simp only [decW] at HX
 go_wp2_with fail
 generalize hn : w7.alloc _ = w8
 generalize hg : w7.heap.size = g_sk
 replace HX := alloc' HX hn hg
 clear hn hg
 refine skipd HX ?_ ?_ (by rfl) (by rfl) (by decide)
 ·
  clear HX; intro w9 h10 HX
  go_wp2_with fail
  refine callrowd HX (HH.out.vars) (fun _ h => ⟨rfl, h⟩) ?_; clear HX; intro w11 q12 x_v a_v c_v h13 HX
  simp only [dataK] at HX
  go_wp2_with fail
  refine taked HX (by decide) (fun _ h => ⟨rfl, h⟩) ?_; clear HX; intro w14 st_n h15 HX
  go_wp2_with fail
  refine mustd HX (fun _ h => ⟨rfl, h⟩) ?_; clear HX; intro w16 h17 HX
  go_wp2_with fail
  refine callrowd HX (some_con enters29 HH.out.con ⟨#[124]⟩ n) (fun _ h => ⟨rfl, h⟩) ?_; clear HX; intro w18 q19 x_q a_q c_q h20 HX
  have D_r := d16 (bk 2 HX rfl)
  go_wp2_with fail
  clear D_r
  generalize hn : World.setCell _ ⟨g_r, 15, none⟩ _ = w21
  replace HX := put2 HX (pD hn)
  clear hn
  exact retd 2 HX rfl Tryz.underlying46 (by kernel_rfl) rfl rfl rfl rfl (hcD_mk 1 st_n (rw' 1 HX rfl) (rw' 0 HX rfl) (hx_nil _) hc_zT hc_zE)
 ·
  clear HX; intro w22 HX
  go_wp2_with fail
  generalize hn : w22.alloc _ = w23
  generalize hg : w22.heap.size = g_sk
  replace HX := alloc' HX hn hg
  clear hn hg
  refine skipd HX ?_ ?_ (by rfl) (by rfl) (by decide)
  ·
   clear HX; intro w24 h25 HX
   simp only [decX] at HX
   go_wp2_with fail
   refine callCd HX (HH.out.con) (fun _ h => ⟨rfl, h⟩) ?_; clear HX; intro w26 q27 x_e _ _ _ _ _ _ _ _ h28 HX
   have D_r := d16 (bk 1 HX rfl)
   have hl := lt_of_block (bk 1 HX rfl)
   go_wp2_with fail
   clear D_r
   clear hl
   generalize hg : w26.heap.size = g_arr
   generalize hn : World.setCell _ ⟨g_r, 15, none⟩ _ = w29
   generalize hm : w29.alloc _ = w30
   replace HX := late1 HX hg (pD hn) hm
   clear hg hn hm
   exact retd 2 HX rfl Tryz.underlying46 (by kernel_rfl) rfl rfl rfl rfl (hcD_mk (cn := [x_e]) 2 nob (hx_nil _) (one' 0 1 HX rfl rfl rfl (by decide)) (hx_nil _) hc_zT hc_zE)
  ·
   clear HX; intro w31 HX
   go_wp2_with fail
   generalize hn : w31.alloc _ = w32
   generalize hg : w31.heap.size = g_sk
   replace HX := alloc' HX hn hg
   clear hn hg
   refine skipd HX ?_ ?_ (by rfl) (by rfl) (by decide)
   ·
    clear HX; intro w33 h34 HX
    simp only [decR] at HX
    go_wp2_with fail
    refine taked HX (by decide) (fun _ h => ⟨rfl, h⟩) ?_; clear HX; intro w35 st_s h36 HX
    go_upto_region 19 with fail
    generalize hn : w35.alloc _ = w37
    generalize hg : w35.heap.size = g_t
    replace HX := alloc' HX hn hg
    clear hn hg
    go_wp2_with fail
    refine mustd HX (fun _ h => ⟨rfl, h⟩) ?_; clear HX; intro w38 h39 HX
    go_wp2_with fail
    refine callTd HX (HH.out.ty) (fun _ h => ⟨rfl, h⟩) ?_; clear HX; intro w40 q41 x_y _ _ _ _ _ _ h42 HX
    have D_t := d16 (bk 1 HX rfl)
    go_upto_region 21 with fail
    clear D_t
    generalize hn : World.setCell _ ⟨g_t, 8, none⟩ _ = w43
    replace HX := put1 HX (pD5 hn)
    clear hn
    go_wp2_with fail
    refine mustd HX (fun _ h => ⟨rfl, h⟩) ?_; clear HX; intro w44 h45 HX
    go_wp2_with fail
    refine callEd HX (HH.out.exp) (fun _ h => ⟨rfl, h⟩) ?_; clear HX; intro w46 q47 x_e _ _ _ _ _ _ _ _ _ _ _ _ _ h48 HX
    have D_t := d16 (bk 2 HX rfl)
    go_upto_region 23 with fail
    clear D_t
    generalize hn : World.setCell _ ⟨g_t, 15, none⟩ _ = w49
    replace HX := put2 HX (pD9 hn)
    clear hn
    have D_t := d16 (bk 2 HX rfl)
    have D_r := d16 (bk 3 HX rfl)
    go_wp2_with fail
    clear D_t D_r
    generalize hn : World.setCell _ ⟨g_r, 15, none⟩ _ = w50
    replace HX := put3 HX (pD hn)
    clear hn
    exact retd 3 HX rfl Tryz.underlying46 (by kernel_rfl) rfl rfl rfl rfl (hcD_mk 5 st_s (hx_nil _) (hx_nil _) (hx_nil _) (vl 1 HX rfl) (vl 0 HX rfl))
   ·
    clear HX; intro w51 HX
    go_wp2_with fail
    exact ⟨rfl, faild HX⟩
theorem dec_step {gp : Nat} {a : Option Addr} {c : Nat} {l : List Tok} {g : Gr} {n : Nat} (wh : Bool) (h : Oks gp a c l g) : CT gp a c l 12 [.bool wh] (stE xD) (g.pDec n wh) := dc (v := ⟨gp, a, c, l⟩) fun e HX => by
 cases h0 : seesB (l.getD e.p zTok) [⟨#[118, 97, 108]⟩] with
 | true => exact dec_val h HX h0
 | false =>
  cases h1 : seesB (l.getD e.p zTok) [⟨#[102, 117, 110]⟩] with
  | true => exact dec_fun h HX h0 h1
  | false =>
   cases h2 : seesB (l.getD e.p zTok) [⟨#[100, 111]⟩] with
   | true => exact dec_do h HX h0 h1 h2
   | false =>
    cases wh with
    | false => exact dec_nolet h HX h0 h1 h2
    | true => exact dec_more h HX h0 h1 h2
end Go.Proofs.YtjabhmepafofmaaGreatDoor
