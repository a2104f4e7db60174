/- Wca, Wco, Wat -/
import Derived.Test.YtjabhmepafofmaaGreatDoorH02
set_option linter.unusedVariables false
set_option linter.unusedSimpArgs false
namespace Go.Proofs.YtjabhmepafofmaaGreatDoor
open Go.RowKit
theorem startsd {β : Type} {v : Vd} {e : Ed β} {w : World} {q : Nat} {L : List It} {m : Pr β} {P0 : Ending → World → Prop} {B : Bool} (h : Hid (Dx v e w q L m)) (hB : Gr.startsB (v.l.getD q zTok) = B) (k : ∀ w', Hid (Dx v e w' q L m) → P0 (.returned (.bool B)) w') : Calls Tryz.prog 96 #[.pointer (some ⟨v.gp, 0, none⟩)] w P0 := by
 refine (starts_any (dpar h.out) hB).mono ?_
 rintro _ w' ⟨rfl, hf⟩
 exact k w' (dno h hf)
set_option maxHeartbeats 4000000 in
set_option maxRecDepth 100000 in
theorem calls_step' {v : Vd} {g : Gr} {n : Nat} (hpr : ∀ (p q : Nat) (x : E), Pr.run v.l g.prefix_ p = .ok x q → p < q) (h : Oks v.gp v.a v.c v.l g) : CT v.gp v.a v.c v.l 82 [] (stE xE) (g.pCalls n) := dc fun e HX => by
 have HH := Lib.hid h
 clear h
 simp only [Gr.pCalls] at HX
 have HPR := Lib.hid hpr
 clear hpr
 go_enter Tryz.func82, Tryz.ntmps82
 go_upto_region 1 with fail
 generalize hn : e.w.alloc _ = w1
 generalize hg : e.w.heap.size = g_r
 replace HX := alloc' HX hn hg
 clear hn hg
 go_wp2_with fail
 refine callEd HX (HH.out.prefix_) (fun _ h => ⟨rfl, h⟩) ?_; clear HX; intro w2 q3 x_a _ _ _ _ _ _ _ _ _ _ _ _ _ h4 HX
 go_upto_region 2 with fail
 generalize hn : w2.alloc _ = w5
 generalize hg : w2.heap.size = g_t
 replace HX := alloc' HX hn hg
 clear hn hg
 replace HX := mix0 HX
 go_loopw [] (fun wx => ∃ (q j : Nat) (x : E) (k : Nat) (sx : ByteArray) (nx : Int) (ux : ByteArray) (ax1 : Option Addr) (mx1 cx1 : Nat) (ax2 : Option Addr) (mx2 cx2 : Nat) (ax3 : Option Addr) (mx3 cx3 : Nat), posOf v.gp wx = q ∧ Hid (Dx v e wx q [.mix g_t g_r (xE x) [.int .u8 k, .string sx, .int .i64 nx, .string ux, .slice ax1 mx1 cx1, .slice ax2 mx2 cx2, .slice ax3 mx3 cx3], .blk g_t [.int .u8 k, .string sx, .int .i64 nx, .string ux, .slice ax1 mx1 cx1, .slice ax2 mx2 cx2, .slice ax3 mx3 cx3] 44, .blk g_r [.int .u8 0, .string ⟨#[]⟩, .int .i64 0, .string ⟨#[]⟩, .slice none 0 0, .slice none 0 0, .slice none 0 0] 44] (g.callsL j x))) (fun wx => v.l.length - posOf v.gp wx)
 case atStart => exact ⟨q3, n, x_a, _, _, _, _, _, _, _, _, _, _, _, _, _, posOf_at HX.out.st.blk, HX⟩
 case round =>
  clear HX
  obtain ⟨q, j, x, kx, sx, nx, ux, ax1, mx1, cx1, ax2, mx2, cx2, ax3, mx3, cx3, hpq, HX⟩ := hrel
  have hq := HX.out.dle
  obtain ⟨j2, HX⟩ := headd HX (fun h ho => calls_head h ho)
  go_wp2_with fail
  replace HX := dlook HX
  cases hz : Gr.startsB (v.l.getD q zTok) with
  | true =>
   refine startsd HX hz ?_; clear HX; intro w6 HX
   replace HX := posd HX (by rw [hz])
   clear hz
   go_upto_region 3 with fail
   refine reg' HX (e7 (bk 1 HX rfl)) [5] (by kernel_rfl) ?_; clear HX; intro w7 HX hHeld
   refine tk 0 rfl hHeld ?_ (by kernel_rfl) (by kernel_rfl) (by exact fun _ _ _ h => h) (by (intro w h; (try dsimp only at h); go_simp; (try (with_reducible rfl))))
   try simp only [SA]
   refine tk 1 rfl hHeld ?_ (by kernel_rfl) (by kernel_rfl) (by exact fun _ _ _ h => h) (by (intro w h; (try dsimp only at h); go_simp; (try (with_reducible rfl))))
   try simp only [SA]
   refine rdm 2 (by kernel_rfl) rfl fun K hK => ?_
   go_simp
   go_at_call 95
   refine callEpd HX HH.out.prefix_ HPR.out (fun _ h => ⟨rfl, h⟩) ?_; clear HX; intro w8 q9 x_e _ _ _ _ _ _ _ _ _ _ _ _ _ h10 HX
   refine hK.out _ _ ((e7 (bk 2 HX rfl)) _ (Fr.refl _ _)) (fun hHeld => ?_)
   clear hK K
   try dsimp only
   try simp only [SA]
   refine rdm 3 (by kernel_rfl) rfl fun K hK => ?_
   go_simp
   generalize hn : w8.alloc _ = w11
   generalize hg : w8.heap.size = g_arr
   replace HX := alloc' HX hn hg
   clear hn hg
   refine hK.out _ _ ((e7 (bk 3 HX rfl)) _ (Fr.refl _ _)) (fun hHeld => ?_)
   clear hK K
   try dsimp only
   try simp only [SA]
   refine tk 4 rfl hHeld ?_ (by kernel_rfl) (by kernel_rfl) (by exact fun _ _ _ h => h) (by (intro w h; (try dsimp only at h); go_simp; (try (with_reducible rfl))))
   try simp only [SA]
   have D_t := d7 (bk 3 HX rfl)
   refine rdl 5 (by kernel_rfl) rfl (by kernel_rfl) fun K hK => ?_
   go_simp
   clear D_t
   generalize hn : World.setCell _ ⟨g_t, 6, none⟩ _ = w12
   replace HX := put3 HX (pE hn) ⟨.inl rfl, trivial⟩
   clear hn
   refine hK.out _ _ ?_
   clear hK K
   try dsimp only
   try simp only [SA]
   refine done_e (by kernel_rfl) ?_ _
   (try simp only [Exit.inBlock, Exit.then])
   go_wp2_with fail
   replace HX := mix2 (x' := xE (Gr.mkE 8 nob [x, x_e])) HX (hcE_kids 8 nob 0 nob (mtwo (k := 7) HX rfl rfl rfl (by decide)))
   exact ⟨⟨q9, j2, Gr.mkE 8 nob [x, x_e], 8, nob, 0, nob, _, _, _, _, _, _, _, _, _, posOf_at HX.out.st.blk, HX⟩, by rw [posOf_at HX.out.st.blk, hpq]; have := HX.out.dle; omega⟩
  | false =>
   refine startsd HX hz ?_; clear HX; intro w13 HX
   replace HX := negd HX (by rw [hz]; decide)
   clear hz
   have D_t := d7 (bk 1 HX rfl)
   have D_r := d7 (bk 2 HX rfl)
   go_wp2_with fail
   clear D_t D_r
   generalize hn : World.setCell _ ⟨g_r, 6, none⟩ _ = w14
   replace HX := put2 HX (pE hn) ⟨.inr rfl, trivial⟩
   clear hn
   exact retd 2 HX rfl Tryz.underlying44 (by kernel_rfl) rfl rfl rfl rfl (vm HX)
theorem calls_step {gp : Nat} {a : Option Addr} {c : Nat} {l : List Tok} {g : Gr} {n : Nat} (hpr : ∀ (p q : Nat) (x : E), Pr.run l g.prefix_ p = .ok x q → p < q) (h : Oks gp a c l g) : CT gp a c l 82 [] (stE xE) (g.pCalls n) := calls_step' (v := ⟨gp, a, c, l⟩) hpr h
end Go.Proofs.YtjabhmepafofmaaGreatDoor
namespace Go.Proofs.YtjabhmepafofmaaGreatDoor
open Go.RowKit
theorem pC15 {w w' : World} {g : Nat} {c0 c1 c2 c3 c4 c5 v1 v2 v3 v4 v5 : Value} (h : ((((w.setCell ⟨g, 1, none⟩ v1).setCell ⟨g, 2, none⟩ v2).setCell ⟨g, 3, none⟩ v3).setCell ⟨g, 4, none⟩ v4).setCell ⟨g, 5, none⟩ v5 = w') : Wq w w' g [c0, c1, c2, c3, c4, c5] [c0, v1, v2, v3, v4, v5] := Wr.qq (((((Wr.nil.snoc 1 v1).snoc 2 v2).snoc 3 v3).snoc 4 v4).snoc 5 v5) h rfl
set_option maxHeartbeats 4000000 in
set_option maxRecDepth 100000 in
theorem con_step' {v : Vd} {g : Gr} (h : Oks v.gp v.a v.c v.l g) : CT v.gp v.a v.c v.l 29 [] (stE xC) g.pCon := dc fun e HX => by
 have HH := Lib.hid h
 clear h
 simp only [Gr.pCon] at HX
 go_enter Tryz.func29, Tryz.ntmps29
 go_upto_region 1 with fail
 generalize hn : e.w.alloc _ = w1
 generalize hg : e.w.heap.size = g_r
 replace HX := alloc' HX hn hg
 clear hn hg
 go_wp2_with fail
 refine taked HX (by decide) (fun _ h => ⟨rfl, h⟩) ?_; clear HX; intro w2 st_s h3 HX
 go_upto_region 2 with fail
 generalize hn : w2.alloc _ = w4
 generalize hg : w2.heap.size = g_t
 replace HX := alloc' HX hn hg
 clear hn hg
 go_wp2_with fail
 generalize hn : w4.alloc _ = w5
 generalize hg : w4.heap.size = g_sk
 replace HX := alloc' HX hn hg
 clear hn hg
 refine skipd HX ?_ ?_ (by rfl) (by rfl) (by decide)
 ·
  clear HX; intro w6 h7 HX
  go_wp2_with fail
  refine callTd HX (HH.out.ty) (fun _ h => ⟨rfl, h⟩) ?_; clear HX; intro w8 q9 x_y _ _ _ _ _ _ h10 HX
  have D_t := d6 (bk 1 HX rfl)
  go_upto_region 4 with fail
  clear D_t
  generalize hn : World.setCell _ ⟨g_t, 5, none⟩ _ = w11
  replace HX := put1 HX (pC15 hn)
  clear hn
  have D_t := d6 (bk 1 HX rfl)
  have D_r := d6 (bk 2 HX rfl)
  go_wp2_with fail
  clear D_t D_r
  generalize hn : World.setCell _ ⟨g_r, 5, none⟩ _ = w12
  replace HX := put2 HX (pC hn)
  clear hn
  exact retd 2 HX rfl Tryz.underlying76 (by kernel_rfl) rfl rfl rfl rfl (hcC_mk st_s true (vl 0 HX rfl))
 ·
  clear HX; intro w13 HX
  have D_t := d6 (bk 0 HX rfl)
  have D_r := d6 (bk 1 HX rfl)
  go_wp2_with fail
  clear D_t D_r
  generalize hn : World.setCell _ ⟨g_r, 5, none⟩ _ = w14
  replace HX := put1 HX (pC hn)
  clear hn
  exact retd 1 HX rfl Tryz.underlying76 (by kernel_rfl) rfl rfl rfl rfl (hcC_mk st_s false hc_zT)
theorem con_step {gp : Nat} {a : Option Addr} {c : Nat} {l : List Tok} {g : Gr} (h : Oks gp a c l g) : CT gp a c l 29 [] (stE xC) g.pCon := con_step' (v := ⟨gp, a, c, l⟩) h
end Go.Proofs.YtjabhmepafofmaaGreatDoor
namespace Go.Proofs.YtjabhmepafofmaaGreatDoor
open Go.RowKit
set_option maxHeartbeats 4000000 in
set_option maxRecDepth 100000 in
theorem atom_step' {v : Vd} {g : Gr} (h : Oks v.gp v.a v.c v.l g) : CT v.gp v.a v.c v.l 105 [] (stE xE) g.pAtom := dc fun e HX => by
 have HH := Lib.hid h
 clear h
 simp only [Gr.pAtom] at HX
 go_enter Tryz.func105, Tryz.ntmps105
 go_upto_region 1 with fail
 generalize hn : e.w.alloc _ = w1
 generalize hg : e.w.heap.size = g_r
 replace HX := alloc' HX hn hg
 clear hn hg
 go_wp2_with fail
 refine nextd HX ?_; clear HX; intro w2 kt_t st_t mt_t qt_t HT_t HX
 go_upto_region 2 with fail
 generalize hn : w2.alloc _ = w3
 generalize hg : w2.heap.size = g_t
 replace HX := alloc' HX hn hg
 clear hn hg
 go_upto_region 5 with fail
 generalize hn : w3.alloc _ = w4
 generalize hg : w3.heap.size = g_x
 replace HX := alloc' HX hn hg
 clear hn hg
 by_cases hk1_t : kt_t = 1
 ·
  replace HX := posd HX hk1_t
  have D1_t := kq (k := kt_t) (z := 1) (by omega)
  have D_x := d7 (bk 0 HX rfl)
  have D_t := d4 (bk 1 HX rfl)
  go_upto_region 15 with fail
  clear D_x D_t
  generalize hn : World.setCell _ ⟨g_x, 6, none⟩ _ = w5
  replace HX := put0 HX (pE hn)
  clear hn
  have hk := fewd HX (Nat.le_succ e.p)
  have D_gp := d2 (gd HX)
  go_upto_region 16 with fail
  clear D_gp
  clear hk
  generalize hn : World.setCell _ ⟨v.gp, 1, none⟩ _ = w6
  replace HX := advd HX (kind_lt (k := 1) (by rw [HT_t.out]; exact hk1_t) (by decide)) hn
  clear hn
  have D_x := d7 (bk 0 HX rfl)
  have D_r := d7 (bk 2 HX rfl)
  go_wp2_with fail
  clear D_x D_r
  generalize hn : World.setCell _ ⟨g_r, 6, none⟩ _ = w7
  replace HX := put2 HX (pE hn)
  clear hn
  exact retd 2 HX rfl Tryz.underlying44 (by kernel_rfl) rfl rfl rfl rfl (hcE_kids 1 st_t 0 nob (hx_nil _))
 ·
  replace HX := negd HX hk1_t
  have D1_t := kn' (k := kt_t) (z := 1) (by omega)
  by_cases hk2_t : kt_t = 2
  ·
   have D2_t := kq (k := kt_t) (z := 2) (by omega)
   replace HX := posd HX (.inl hk2_t)
   have D_x := d7 (bk 0 HX rfl)
   have D_t := d4 (bk 1 HX rfl)
   go_upto_region 15 with fail
   clear D_x D_t
   generalize hn : World.setCell _ ⟨g_x, 6, none⟩ _ = w8
   replace HX := put0 HX (pE hn)
   clear hn
   have hk := fewd HX (Nat.le_succ e.p)
   have D_gp := d2 (gd HX)
   go_upto_region 16 with fail
   clear D_gp
   clear hk
   generalize hn : World.setCell _ ⟨v.gp, 1, none⟩ _ = w9
   replace HX := advd HX (kind_lt (k := 2) (by rw [HT_t.out]; exact hk2_t) (by decide)) hn
   clear hn
   have D_x := d7 (bk 0 HX rfl)
   have D_r := d7 (bk 2 HX rfl)
   go_wp2_with fail
   clear D_x D_r
   generalize hn : World.setCell _ ⟨g_r, 6, none⟩ _ = w10
   replace HX := put2 HX (pE hn)
   clear hn
   exact retd 2 HX rfl Tryz.underlying44 (by kernel_rfl) rfl rfl rfl rfl (hcE_kids 2 st_t 0 nob (hx_nil _))
  ·
   have D2_t := kn' (k := kt_t) (z := 2) (by omega)
   have D_t := d4 (bk 1 HX rfl)
   go_wp2_with fail
   clear D_t
   generalize hn : w4.alloc _ = w11
   generalize hg : w4.heap.size = g_sk
   replace HX := alloc' HX hn hg
   clear hn hg
   refine seesd (ts := [⟨#[116, 114, 117, 101]⟩, ⟨#[102, 97, 108, 115, 101]⟩]) HX HT_t ?_ ?_ (by rfl) (by rfl) (by decide)
   ·
    clear HX; intro w12 hs hlt HX
    replace HX := posd HX (.inr hs)
    clear hs
    have D_x := d7 (bk 0 HX rfl)
    have D_t := d4 (bk 1 HX rfl)
    go_upto_region 15 with fail
    clear D_x D_t
    generalize hn : World.setCell _ ⟨g_x, 6, none⟩ _ = w13
    replace HX := put0 HX (pE hn)
    clear hn
    have hk := fewd HX (Nat.le_succ e.p)
    have D_gp := d2 (gd HX)
    go_upto_region 16 with fail
    clear D_gp
    clear hk
    generalize hn : World.setCell _ ⟨v.gp, 1, none⟩ _ = w14
    replace HX := advd HX hlt hn
    clear hn
    have D_x := d7 (bk 0 HX rfl)
    have D_r := d7 (bk 2 HX rfl)
    go_wp2_with fail
    clear D_x D_r
    generalize hn : World.setCell _ ⟨g_r, 6, none⟩ _ = w15
    replace HX := put2 HX (pE hn)
    clear hn
    exact retd 2 HX rfl Tryz.underlying44 (by kernel_rfl) rfl rfl rfl rfl (hcE_kids 2 st_t 0 nob (hx_nil _))
   ·
    clear HX; intro w16 hs HX
    replace HX := negd HX (fun h => h.elim (fun h => hk2_t h) (fun h => Bool.false_ne_true (hs.symm.trans h)))
    clear hs
    by_cases hk4_t : kt_t = 4
    ·
     replace HX := posd HX hk4_t
     have D4_t := kq (k := kt_t) (z := 4) (by omega)
     have D_x := d7 (bk 0 HX rfl)
     have D_t := d4 (bk 1 HX rfl)
     go_upto_region 15 with fail
     clear D_x D_t
     generalize hn : World.setCell _ ⟨g_x, 6, none⟩ _ = w17
     replace HX := put0 HX (pE hn)
     clear hn
     have hk := fewd HX (Nat.le_succ e.p)
     have D_gp := d2 (gd HX)
     go_upto_region 16 with fail
     clear D_gp
     clear hk
     generalize hn : World.setCell _ ⟨v.gp, 1, none⟩ _ = w18
     replace HX := advd HX (kind_lt (k := 4) (by rw [HT_t.out]; exact hk4_t) (by decide)) hn
     clear hn
     have D_x := d7 (bk 0 HX rfl)
     have D_r := d7 (bk 2 HX rfl)
     go_wp2_with fail
     clear D_x D_r
     generalize hn : World.setCell _ ⟨g_r, 6, none⟩ _ = w19
     replace HX := put2 HX (pE hn)
     clear hn
     exact retd 2 HX rfl Tryz.underlying44 (by kernel_rfl) rfl rfl rfl rfl (hcE_kids 3 nob mt_t nob (hx_nil _))
    ·
     replace HX := negd HX hk4_t
     have D4_t := kn' (k := kt_t) (z := 4) (by omega)
     by_cases hk5_t : kt_t = 5
     ·
      replace HX := posd HX hk5_t
      have D5_t := kq (k := kt_t) (z := 5) (by omega)
      have D_x := d7 (bk 0 HX rfl)
      have D_t := d4 (bk 1 HX rfl)
      go_upto_region 15 with fail
      clear D_x D_t
      generalize hn : World.setCell _ ⟨g_x, 6, none⟩ _ = w20
      replace HX := put0 HX (pE hn)
      clear hn
      have hk := fewd HX (Nat.le_succ e.p)
      have D_gp := d2 (gd HX)
      go_upto_region 16 with fail
      clear D_gp
      clear hk
      generalize hn : World.setCell _ ⟨v.gp, 1, none⟩ _ = w21
      replace HX := advd HX (kind_lt (k := 5) (by rw [HT_t.out]; exact hk5_t) (by decide)) hn
      clear hn
      have D_x := d7 (bk 0 HX rfl)
      have D_r := d7 (bk 2 HX rfl)
      go_wp2_with fail
      clear D_x D_r
      generalize hn : World.setCell _ ⟨g_r, 6, none⟩ _ = w22
      replace HX := put2 HX (pE hn)
      clear hn
      exact retd 2 HX rfl Tryz.underlying44 (by kernel_rfl) rfl rfl rfl rfl (hcE_kids 4 nob 0 st_t (hx_nil _))
     ·
      replace HX := negd HX hk5_t
      have D5_t := kn' (k := kt_t) (z := 5) (by omega)
      have D_t := d4 (bk 1 HX rfl)
      go_wp2_with fail
      clear D_t
      generalize hn : w16.alloc _ = w23
      generalize hg : w16.heap.size = g_sk
      replace HX := alloc' HX hn hg
      clear hn hg
      refine skipd HX ?_ ?_ (by rfl) (by rfl) (by decide)
      ·
       clear HX; intro w24 h25 HX
       go_wp2_with fail
       replace HX := taild HX
       refine callEd HX (HH.out.let_) (fun _ h => ⟨rfl, h⟩) ?_; clear HX; intro w26 q27 x_e _ _ _ _ _ _ _ _ _ _ _ _ _ h28 HX
       have D_r := d7 (bk 3 HX rfl)
       go_wp2_with fail
       clear D_r
       generalize hn : World.setCell _ ⟨g_r, 6, none⟩ _ = w29
       replace HX := put3 HX (pE hn)
       clear hn
       exact retd 3 HX rfl Tryz.underlying44 (by kernel_rfl) rfl rfl rfl rfl ((vl 0 HX rfl))
      ·
       clear HX; intro w30 HX
       go_wp2_with fail
       refine mustd HX (fun _ h => ⟨rfl, h⟩) ?_; clear HX; intro w31 h32 HX
       go_wp2_with fail
       replace HX := taild HX
       refine callEd HX (HH.out.round) (fun _ h => ⟨rfl, h⟩) ?_; clear HX; intro w33 q34 x_e _ _ _ _ _ _ _ _ _ _ _ _ _ h35 HX
       have D_r := d7 (bk 3 HX rfl)
       go_wp2_with fail
       clear D_r
       generalize hn : World.setCell _ ⟨g_r, 6, none⟩ _ = w36
       replace HX := put3 HX (pE hn)
       clear hn
       exact retd 3 HX rfl Tryz.underlying44 (by kernel_rfl) rfl rfl rfl rfl ((vl 0 HX rfl))
theorem atom_step {gp : Nat} {a : Option Addr} {c : Nat} {l : List Tok} {g : Gr} (h : Oks gp a c l g) : CT gp a c l 105 [] (stE xE) g.pAtom := atom_step' (v := ⟨gp, a, c, l⟩) h
end Go.Proofs.YtjabhmepafofmaaGreatDoor
