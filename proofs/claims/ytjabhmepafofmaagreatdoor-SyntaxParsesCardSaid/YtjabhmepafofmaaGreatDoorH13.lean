/- Wpa, Wpat, Wpo, Wpr -/
import Derived.Test.YtjabhmepafofmaaGreatDoorH02
set_option linter.unusedVariables false
set_option linter.unusedSimpArgs false
namespace Go.Proofs.YtjabhmepafofmaaGreatDoor
open Go.RowKit
set_option maxHeartbeats 4000000 in
set_option maxRecDepth 100000 in
theorem patAtom_step' {v : Vd} {g : Gr} (h : Oks v.gp v.a v.c v.l g) : CT v.gp v.a v.c v.l 94 [] (stE xT) g.pPatAtom := dc fun e HX => by
 have HH := Lib.hid h
 clear h
 simp only [Gr.pPatAtom] at HX
 go_enter Tryz.func94, Tryz.ntmps94
 go_upto_region 1 with fail
 generalize hn : e.w.alloc _ = w1
 generalize hg : e.w.heap.size = g_r
 replace HX := alloc' HX hn hg
 clear hn hg
 go_wp2_with fail
 refine nextd HX ?_; clear HX; intro w2 kt_t st_t mt_t qt_t HT_t HX
 go_upto_region 2 with fail
 generalize hn : w2.alloc _ = w3
 generalize hg : w2.heap.size = g_t
 replace HX := alloc' HX hn hg
 clear hn hg
 go_upto_region 5 with fail
 generalize hn : w3.alloc _ = w4
 generalize hg : w3.heap.size = g_x
 replace HX := alloc' HX hn hg
 clear hn hg
 go_wp2_with fail
 generalize hn : w4.alloc _ = w5
 generalize hg : w4.heap.size = g_sk
 replace HX := alloc' HX hn hg
 clear hn hg
 refine seesd (ts := [⟨#[95]⟩]) HX HT_t ?_ ?_ (by rfl) (by rfl) (by decide)
 ·
  clear HX; intro w6 hs hlt HX
  replace HX := posd HX hs
  clear hs
  have D_x := d4 (bk 0 HX rfl)
  have D_t := d4 (bk 1 HX rfl)
  go_upto_region 17 with fail
  clear D_x D_t
  generalize hn : World.setCell _ ⟨g_x, 3, none⟩ _ = w7
  replace HX := put0 HX (pT hn)
  clear hn
  have hk := fewd HX (Nat.le_succ e.p)
  have D_gp := d2 (gd HX)
  go_upto_region 18 with fail
  clear D_gp
  clear hk
  generalize hn : World.setCell _ ⟨v.gp, 1, none⟩ _ = w8
  replace HX := advd HX hlt hn
  clear hn
  have D_x := d4 (bk 0 HX rfl)
  have D_r := d4 (bk 2 HX rfl)
  go_wp2_with fail
  clear D_x D_r
  generalize hn : World.setCell _ ⟨g_r, 3, none⟩ _ = w9
  replace HX := put2 HX (pT hn)
  clear hn
  exact retd 2 HX rfl Tryz.underlying97 (by kernel_rfl) rfl rfl rfl rfl (hcT_none 1 nob 0)
 ·
  clear HX; intro w10 hs HX
  replace HX := negd HX (by rw [hs]; decide)
  clear hs
  by_cases hk1_t : kt_t = 1
  ·
   replace HX := posd HX hk1_t
   have D1_t := kq (k := kt_t) (z := 1) (by omega)
   have D_x := d4 (bk 0 HX rfl)
   have D_t := d4 (bk 1 HX rfl)
   go_upto_region 17 with fail
   clear D_x D_t
   generalize hn : World.setCell _ ⟨g_x, 3, none⟩ _ = w11
   replace HX := put0 HX (pT hn)
   clear hn
   have hk := fewd HX (Nat.le_succ e.p)
   have D_gp := d2 (gd HX)
   go_upto_region 18 with fail
   clear D_gp
   clear hk
   generalize hn : World.setCell _ ⟨v.gp, 1, none⟩ _ = w12
   replace HX := advd HX (kind_lt (k := 1) (by rw [HT_t.out]; exact hk1_t) (by decide)) hn
   clear hn
   have D_x := d4 (bk 0 HX rfl)
   have D_r := d4 (bk 2 HX rfl)
   go_wp2_with fail
   clear D_x D_r
   generalize hn : World.setCell _ ⟨g_r, 3, none⟩ _ = w13
   replace HX := put2 HX (pT hn)
   clear hn
   exact retd 2 HX rfl Tryz.underlying97 (by kernel_rfl) rfl rfl rfl rfl (hcT_none 2 st_t 0)
  ·
   replace HX := negd HX hk1_t
   have D1_t := kn' (k := kt_t) (z := 1) (by omega)
   by_cases hk4_t : kt_t = 4
   ·
    replace HX := posd HX hk4_t
    have D4_t := kq (k := kt_t) (z := 4) (by omega)
    have D_x := d4 (bk 0 HX rfl)
    have D_t := d4 (bk 1 HX rfl)
    go_upto_region 17 with fail
    clear D_x D_t
    generalize hn : World.setCell _ ⟨g_x, 3, none⟩ _ = w14
    replace HX := put0 HX (pT hn)
    clear hn
    have hk := fewd HX (Nat.le_succ e.p)
    have D_gp := d2 (gd HX)
    go_upto_region 18 with fail
    clear D_gp
    clear hk
    generalize hn : World.setCell _ ⟨v.gp, 1, none⟩ _ = w15
    replace HX := advd HX (kind_lt (k := 4) (by rw [HT_t.out]; exact hk4_t) (by decide)) hn
    clear hn
    have D_x := d4 (bk 0 HX rfl)
    have D_r := d4 (bk 2 HX rfl)
    go_wp2_with fail
    clear D_x D_r
    generalize hn : World.setCell _ ⟨g_r, 3, none⟩ _ = w16
    replace HX := put2 HX (pT hn)
    clear hn
    exact retd 2 HX rfl Tryz.underlying97 (by kernel_rfl) rfl rfl rfl rfl (hcT_none 3 nob mt_t)
   ·
    replace HX := negd HX hk4_t
    have D4_t := kn' (k := kt_t) (z := 4) (by omega)
    by_cases hk2_t : kt_t = 2
    ·
     have D2_t := kq (k := kt_t) (z := 2) (by omega)
     replace HX := posd HX (.inl hk2_t)
     have D_x := d4 (bk 0 HX rfl)
     have D_t := d4 (bk 1 HX rfl)
     go_upto_region 17 with fail
     clear D_x D_t
     generalize hn : World.setCell _ ⟨g_x, 3, none⟩ _ = w17
     replace HX := put0 HX (pT hn)
     clear hn
     have hk := fewd HX (Nat.le_succ e.p)
     have D_gp := d2 (gd HX)
     go_upto_region 18 with fail
     clear D_gp
     clear hk
     generalize hn : World.setCell _ ⟨v.gp, 1, none⟩ _ = w18
     replace HX := advd HX (kind_lt (k := 2) (by rw [HT_t.out]; exact hk2_t) (by decide)) hn
     clear hn
     have D_x := d4 (bk 0 HX rfl)
     have D_r := d4 (bk 2 HX rfl)
     go_wp2_with fail
     clear D_x D_r
     generalize hn : World.setCell _ ⟨g_r, 3, none⟩ _ = w19
     replace HX := put2 HX (pT hn)
     clear hn
     exact retd 2 HX rfl Tryz.underlying97 (by kernel_rfl) rfl rfl rfl rfl (hcT_none 6 st_t 0)
    ·
     have D2_t := kn' (k := kt_t) (z := 2) (by omega)
     have D_t := d4 (bk 1 HX rfl)
     go_wp2_with fail
     clear D_t
     generalize hn : w10.alloc _ = w20
     generalize hg : w10.heap.size = g_sk
     replace HX := alloc' HX hn hg
     clear hn hg
     refine seesd (ts := [⟨#[116, 114, 117, 101]⟩, ⟨#[102, 97, 108, 115, 101]⟩]) HX HT_t ?_ ?_ (by rfl) (by rfl) (by decide)
     ·
      clear HX; intro w21 hs hlt HX
      replace HX := posd HX (.inr hs)
      clear hs
      have D_x := d4 (bk 0 HX rfl)
      have D_t := d4 (bk 1 HX rfl)
      go_upto_region 17 with fail
      clear D_x D_t
      generalize hn : World.setCell _ ⟨g_x, 3, none⟩ _ = w22
      replace HX := put0 HX (pT hn)
      clear hn
      have hk := fewd HX (Nat.le_succ e.p)
      have D_gp := d2 (gd HX)
      go_upto_region 18 with fail
      clear D_gp
      clear hk
      generalize hn : World.setCell _ ⟨v.gp, 1, none⟩ _ = w23
      replace HX := advd HX hlt hn
      clear hn
      have D_x := d4 (bk 0 HX rfl)
      have D_r := d4 (bk 2 HX rfl)
      go_wp2_with fail
      clear D_x D_r
      generalize hn : World.setCell _ ⟨g_r, 3, none⟩ _ = w24
      replace HX := put2 HX (pT hn)
      clear hn
      exact retd 2 HX rfl Tryz.underlying97 (by kernel_rfl) rfl rfl rfl rfl (hcT_none 6 st_t 0)
     ·
      clear HX; intro w25 hs HX
      replace HX := negd HX (fun h => h.elim (fun h => hk2_t h) (fun h => Bool.false_ne_true (hs.symm.trans h)))
      clear hs
      go_wp2_with fail
      generalize hn : w25.alloc _ = w26
      generalize hg : w25.heap.size = g_sk
      replace HX := alloc' HX hn hg
      clear hn hg
      refine skipd HX ?_ ?_ (by rfl) (by rfl) (by decide)
      ·
       clear HX; intro w27 h28 HX
       go_wp2_with fail
       refine nextd HX ?_; clear HX; intro w29 kt_u st_u mt_u qt_u HT_u HX
       go_wp2_with fail
       simp only [field49_2]
       go_wp2_with fail
       refine taked HX (by decide) (fun _ h => ⟨rfl, h⟩) ?_; clear HX; intro w30 st_m h31 HX
       replace HX := dre HX (m' := .ret (T.mk 3 nob (wrap64 (-mt_u)) [])) (by rw [IntWalk.i64_left])
       have D_r := d4 (bk 2 HX rfl)
       go_wp2_with fail
       clear D_r
       generalize hn : World.setCell _ ⟨g_r, 3, none⟩ _ = w32
       replace HX := put2 HX (pT hn)
       clear hn
       exact retd 2 HX rfl Tryz.underlying97 (by kernel_rfl) rfl rfl rfl rfl (hcT_none 3 nob (wrap64 (-mt_u)))
      ·
       clear HX; intro w33 HX
       go_wp2_with fail
       refine mustd HX (fun _ h => ⟨rfl, h⟩) ?_; clear HX; intro w34 h35 HX
       go_wp2_with fail
       replace HX := taild HX
       refine callTd HX (HH.out.patRound) (fun _ h => ⟨rfl, h⟩) ?_; clear HX; intro w36 q37 x_e _ _ _ _ _ _ h38 HX
       have D_r := d4 (bk 3 HX rfl)
       go_wp2_with fail
       clear D_r
       generalize hn : World.setCell _ ⟨g_r, 3, none⟩ _ = w39
       replace HX := put3 HX (pT hn)
       clear hn
       exact retd 3 HX rfl Tryz.underlying97 (by kernel_rfl) rfl rfl rfl rfl ((vl 0 HX rfl))
theorem patAtom_step {gp : Nat} {a : Option Addr} {c : Nat} {l : List Tok} {g : Gr} (h : Oks gp a c l g) : CT gp a c l 94 [] (stE xT) g.pPatAtom := patAtom_step' (v := ⟨gp, a, c, l⟩) h
end Go.Proofs.YtjabhmepafofmaaGreatDoor
namespace Go.Proofs.YtjabhmepafofmaaGreatDoor
open Go.RowKit
set_option maxHeartbeats 4000000 in
set_option maxRecDepth 100000 in
theorem pat_step' {v : Vd} {g : Gr} (h : Oks v.gp v.a v.c v.l g) : CT v.gp v.a v.c v.l 81 [] (stE xT) g.pPat := dc fun e HX => by
 have HH := Lib.hid h
 clear h
 simp only [Gr.pPat] at HX
 go_enter Tryz.func81, Tryz.ntmps81
 go_upto_region 1 with fail
 generalize hn : e.w.alloc _ = w1
 generalize hg : e.w.heap.size = g_r
 replace HX := alloc' HX hn hg
 clear hn hg
 go_wp2_with fail
 refine nextd HX ?_; clear HX; intro w2 kt_t st_t mt_t qt_t HT_t HX
 go_wp2_with fail
 simp only [field49_0]
 by_cases hk2_t : kt_t = 2
 ·
  replace HX := posd HX hk2_t
  have D2_t := kq (k := kt_t) (z := 2) (by omega)
  go_wp2_with fail
  refine takekd HX HT_t hk2_t (by decide) ?_; clear HX; intro w3 h4 HX
  go_upto_region 4 with fail
  generalize hn : w3.alloc _ = w5
  generalize hg : w3.heap.size = g_t
  replace HX := alloc' HX hn hg
  clear hn hg
  go_wp2_with fail
  refine nextd HX ?_; clear HX; intro w6 kt_k st_k mt_k qt_k HT_k HX
  go_wp2_with fail
  simp only [field49_0]
  by_cases hor : kt_k = 1 ∨ kt_k = 4 ∨ kt_k = 2
  ·
   replace HX := posd HX (by simp only [Gr.patB]; rcases hor with h | h | h <;> subst h <;> simp)
   rcases hor with hk | hk | hk <;> subst hk
   all_goals
    go_wp2_with fail
    refine callTd HX (HH.out.patAtom) (fun _ h => ⟨rfl, h⟩) ?_; clear HX; intro w7 q8 x_x _ _ _ _ _ _ h9 HX
    have D_t := d4 (bk 1 HX rfl)
    have hl := lt_of_block (bk 1 HX rfl)
    go_upto_region 7 with fail
    clear D_t
    clear hl
    generalize hg : w7.heap.size = g_arr
    generalize hn : World.setCell _ ⟨g_t, 3, none⟩ _ = w10
    generalize hm : w10.alloc _ = w11
    replace HX := late1 HX hg (pT3 hn) hm
    clear hg hn hm
    have D_t := d4 (bk 2 HX rfl)
    have D_r := d4 (bk 3 HX rfl)
    go_wp2_with fail
    clear D_t D_r
    generalize hn : World.setCell _ ⟨g_r, 3, none⟩ _ = w12
    replace HX := put3 HX (pT hn)
    clear hn
    exact retd 3 HX rfl Tryz.underlying97 (by kernel_rfl) rfl rfl rfl rfl (hcT_mk 6 st_t 0 (one' 0 1 HX rfl rfl rfl (by decide)))
  have D1 := kn' (k := kt_k) (z := 1) (by omega)
  have D2 := kn' (k := kt_k) (z := 2) (by omega)
  have D4 := kn' (k := kt_k) (z := 4) (by omega)
  have hpb : ∀ {z}, seesB ⟨kt_k, st_k, mt_k, qt_k⟩ [⟨#[95]⟩, ⟨#[126]⟩, ⟨#[40]⟩, ⟨#[116, 114, 117, 101]⟩, ⟨#[102, 97, 108, 115, 101]⟩] = z → Gr.patB ⟨kt_k, st_k, mt_k, qt_k⟩ = z := fun h => by
   have h1 : ¬ kt_k = 1 := fun h => hor (.inl h)
   have h2 : ¬ kt_k = 4 := fun h => hor (.inr (.inl h))
   have h3 : ¬ kt_k = 2 := fun h => hor (.inr (.inr h))
   simp [Gr.patB, h1, h2, h3, h]
  clear hor
  go_wp2_with fail
  generalize hn : w6.alloc _ = w13
  generalize hg : w6.heap.size = g_sk
  replace HX := alloc' HX hn hg
  clear hn hg
  refine seesd (ts := [⟨#[95]⟩, ⟨#[126]⟩, ⟨#[40]⟩, ⟨#[116, 114, 117, 101]⟩, ⟨#[102, 97, 108, 115, 101]⟩]) HX HT_k ?_ ?_ (by rfl) (by rfl) (by decide)
  ·
   clear HX; intro w14 hs hlt HX
   replace HX := posd HX (hpb hs)
   clear hpb hs
   go_wp2_with fail
   refine callTd HX (HH.out.patAtom) (fun _ h => ⟨rfl, h⟩) ?_; clear HX; intro w15 q16 x_x _ _ _ _ _ _ h17 HX
   have D_t := d4 (bk 1 HX rfl)
   have hl := lt_of_block (bk 1 HX rfl)
   go_upto_region 7 with fail
   clear D_t
   clear hl
   generalize hg : w15.heap.size = g_arr
   generalize hn : World.setCell _ ⟨g_t, 3, none⟩ _ = w18
   generalize hm : w18.alloc _ = w19
   replace HX := late1 HX hg (pT3 hn) hm
   clear hg hn hm
   have D_t := d4 (bk 2 HX rfl)
   have D_r := d4 (bk 3 HX rfl)
   go_wp2_with fail
   clear D_t D_r
   generalize hn : World.setCell _ ⟨g_r, 3, none⟩ _ = w20
   replace HX := put3 HX (pT hn)
   clear hn
   exact retd 3 HX rfl Tryz.underlying97 (by kernel_rfl) rfl rfl rfl rfl (hcT_mk 6 st_t 0 (one' 0 1 HX rfl rfl rfl (by decide)))
  ·
   clear HX; intro w21 hs HX
   replace HX := negd HX (by rw [hpb hs]; decide)
   clear hpb hs
   have D_t := d4 (bk 0 HX rfl)
   have D_r := d4 (bk 1 HX rfl)
   go_wp2_with fail
   clear D_t D_r
   generalize hn : World.setCell _ ⟨g_r, 3, none⟩ _ = w22
   replace HX := put1 HX (pT hn)
   clear hn
   exact retd 1 HX rfl Tryz.underlying97 (by kernel_rfl) rfl rfl rfl rfl (hcT_none 6 st_t 0)
 ·
  replace HX := negd HX hk2_t
  have D2_t := kn' (k := kt_t) (z := 2) (by omega)
  go_wp2_with fail
  replace HX := taild HX
  refine callTd HX (HH.out.patAtom) (fun _ h => ⟨rfl, h⟩) ?_; clear HX; intro w23 q24 x_x _ _ _ _ _ _ h25 HX
  have D_r := d4 (bk 1 HX rfl)
  go_wp2_with fail
  clear D_r
  generalize hn : World.setCell _ ⟨g_r, 3, none⟩ _ = w26
  replace HX := put1 HX (pT hn)
  clear hn
  exact retd 1 HX rfl Tryz.underlying97 (by kernel_rfl) rfl rfl rfl rfl ((vl 0 HX rfl))
theorem pat_step {gp : Nat} {a : Option Addr} {c : Nat} {l : List Tok} {g : Gr} (h : Oks gp a c l g) : CT gp a c l 81 [] (stE xT) g.pPat := pat_step' (v := ⟨gp, a, c, l⟩) h
end Go.Proofs.YtjabhmepafofmaaGreatDoor
namespace Go.Proofs.YtjabhmepafofmaaGreatDoor
open Go.RowKit
set_option maxHeartbeats 4000000 in
set_option maxRecDepth 100000 in
theorem post_step' {v : Vd} {g : Gr} {n : Nat} (h : Oks v.gp v.a v.c v.l g) : CT v.gp v.a v.c v.l 84 [] (stE xT) (g.pPost n) := dc fun e HX => by
 have HH := Lib.hid h
 clear h
 simp only [Gr.pPost] at HX
 go_enter Tryz.func84, Tryz.ntmps84
 go_upto_region 1 with fail
 generalize hn : e.w.alloc _ = w1
 generalize hg : e.w.heap.size = g_r
 replace HX := alloc' HX hn hg
 clear hn hg
 go_wp2_with fail
 refine callTd HX (HH.out.tyAtom) (fun _ h => ⟨rfl, h⟩) ?_; clear HX; intro w2 q3 x_a _ _ _ _ _ _ h4 HX
 go_upto_region 2 with fail
 generalize hn : w2.alloc _ = w5
 generalize hg : w2.heap.size = g_t
 replace HX := alloc' HX hn hg
 clear hn hg
 replace HX := mix0 HX
 go_loopw [] (fun wx => ∃ (q j : Nat) (x : T) (k : Nat) (sx : ByteArray) (nx : Int) (ax : Option Addr) (mx cx : Nat), posOf v.gp wx = q ∧ Hid (Dx v e wx q [.mix g_t g_r (xT x) [.int .u8 k, .string sx, .int .i64 nx, .slice ax mx cx], .blk g_t [.int .u8 k, .string sx, .int .i64 nx, .slice ax mx cx] 40, .blk g_r [.int .u8 0, .string ⟨#[]⟩, .int .i64 0, .slice none 0 0] 40] (Gr.names j x))) (fun wx => v.l.length - posOf v.gp wx)
 case atStart => exact ⟨q3, n, x_a, _, _, _, _, _, _, posOf_at HX.out.st.blk, HX⟩
 case round =>
  clear HX
  obtain ⟨q, j, x, kx, sx, nx, ax, mx, cx, hpq, HX⟩ := hrel
  have hq := HX.out.dle
  obtain ⟨j2, HX⟩ := headd HX (fun h ho => names_head h ho)
  go_wp2_with fail
  refine nextd HX ?_; clear HX; intro w6 kt_t st_t mt_t qt_t HT_t HX
  go_wp2_with fail
  simp only [field49_0]
  by_cases hk1_t : kt_t = 1
  ·
   replace HX := posd HX hk1_t
   have D1_t := kq (k := kt_t) (z := 1) (by omega)
   go_upto_region 3 with fail
   refine reg' HX (e4 (bk 1 HX rfl)) [5] (by kernel_rfl) ?_; clear HX; intro w7 HX hHeld
   refine tk 0 rfl hHeld ?_ (by kernel_rfl) (by kernel_rfl) (by exact fun _ _ _ h => h) (by (intro w h; (try dsimp only at h); go_simp; (try (with_reducible rfl))))
   try simp only [SA]
   refine tk 2 rfl hHeld ?_ (by kernel_rfl) (by kernel_rfl) (by exact fun _ _ _ h => h) (by (intro w h; (try dsimp only at h); go_simp; (try (with_reducible rfl))))
   try simp only [SA]
   refine ready_e (rs := [1, 3]) (by kernel_rfl) (by simp) ?_
   refine (do_mid (o := _) rfl (fun K hK => ?_) (do_mid (o := _) rfl (fun K hK => ?_) none_e))
   ·
    go_simp
    go_at_call 23
    refine takekd HX HT_t hk1_t (by decide) ?_; clear HX; intro w8 h9 HX
    refine hK.out _ _ ((e4 (bk 1 HX rfl)) _ (Fr.refl _ _)) (fun hHeld => ?_)
    clear hK K
    try dsimp only
    try simp only [SA]
    refine rdm 3 (by kernel_rfl) rfl fun K hK => ?_
    go_simp
    generalize hn : w8.alloc _ = w10
    generalize hg : w8.heap.size = g_arr
    replace HX := alloc' HX hn hg
    clear hn hg
    refine hK.out _ _ ((e4 (bk 2 HX rfl)) _ (Fr.refl _ _)) (fun hHeld => ?_)
    clear hK K
    try dsimp only
    try simp only [SA]
    refine tk 4 rfl hHeld ?_ (by kernel_rfl) (by kernel_rfl) (by exact fun _ _ _ h => h) (by (intro w h; (try dsimp only at h); go_simp; (try (with_reducible rfl))))
    try simp only [SA]
    have D_t := d4 (bk 2 HX rfl)
    refine rdl 5 (by kernel_rfl) rfl (by kernel_rfl) fun K hK => ?_
    go_simp
    clear D_t
    generalize hn : World.setCell _ ⟨g_t, 3, none⟩ _ = w11
    replace HX := put2 HX (pT hn) ⟨.inl rfl, trivial⟩
    clear hn
    refine hK.out _ _ ?_
    clear hK K
    try dsimp only
    try simp only [SA]
    refine done_e (by kernel_rfl) ?_ _
    (try simp only [Exit.inBlock, Exit.then])
    go_wp2_with fail
    replace HX := mix1 (x' := xT (.mk 2 st_t 0 [x])) HX (hcT_mk 2 st_t 0 (mone (k := 4) HX rfl (by decide)))
    exact ⟨⟨(q + 1), j2, .mk 2 st_t 0 [x], 2, st_t, 0, _, _, _, posOf_at HX.out.st.blk, HX⟩, by rw [posOf_at HX.out.st.blk, hpq]; have := HX.out.dle; omega⟩
   ·
    go_simp
    generalize hn : w7.alloc _ = w12
    generalize hg : w7.heap.size = g_arr
    replace HX := alloc' HX hn hg
    clear hn hg
    refine hK.out _ _ ((e4 (bk 2 HX rfl)) _ (Fr.refl _ _)) (fun hHeld => ?_)
    clear hK K
    try dsimp only
    try simp only [SA]
    refine rdm 1 (by kernel_rfl) rfl fun K hK => ?_
    go_simp
    go_at_call 23
    refine takekd HX HT_t hk1_t (by decide) ?_; clear HX; intro w13 h14 HX
    refine hK.out _ _ ((e4 (bk 2 HX rfl)) _ (Fr.refl _ _)) (fun hHeld => ?_)
    clear hK K
    try dsimp only
    try simp only [SA]
    refine tk 4 rfl hHeld ?_ (by kernel_rfl) (by kernel_rfl) (by exact fun _ _ _ h => h) (by (intro w h; (try dsimp only at h); go_simp; (try (with_reducible rfl))))
    try simp only [SA]
    have D_t := d4 (bk 2 HX rfl)
    refine rdl 5 (by kernel_rfl) rfl (by kernel_rfl) fun K hK => ?_
    go_simp
    clear D_t
    generalize hn : World.setCell _ ⟨g_t, 3, none⟩ _ = w15
    replace HX := put2 HX (pT hn) ⟨.inl rfl, trivial⟩
    clear hn
    refine hK.out _ _ ?_
    clear hK K
    try dsimp only
    try simp only [SA]
    refine done_e (by kernel_rfl) ?_ _
    (try simp only [Exit.inBlock, Exit.then])
    go_wp2_with fail
    replace HX := mix1 (x' := xT (.mk 2 st_t 0 [x])) HX (hcT_mk 2 st_t 0 (mone (k := 4) HX rfl (by decide)))
    exact ⟨⟨(q + 1), j2, .mk 2 st_t 0 [x], 2, st_t, 0, _, _, _, posOf_at HX.out.st.blk, HX⟩, by rw [posOf_at HX.out.st.blk, hpq]; have := HX.out.dle; omega⟩
  ·
   replace HX := negd HX hk1_t
   have D1_t := kn' (k := kt_t) (z := 1) (by omega)
   have D_t := d4 (bk 1 HX rfl)
   have D_r := d4 (bk 2 HX rfl)
   go_wp2_with fail
   clear D_t D_r
   generalize hn : World.setCell _ ⟨g_r, 3, none⟩ _ = w16
   replace HX := put2 HX (pT hn) ⟨.inr rfl, trivial⟩
   clear hn
   exact retd 2 HX rfl Tryz.underlying40 (by kernel_rfl) rfl rfl rfl rfl (vm HX)
theorem post_step {gp : Nat} {a : Option Addr} {c : Nat} {l : List Tok} {g : Gr} {n : Nat} (h : Oks gp a c l g) : CT gp a c l 84 [] (stE xT) (g.pPost n) := post_step' (v := ⟨gp, a, c, l⟩) h
end Go.Proofs.YtjabhmepafofmaaGreatDoor
namespace Go.Proofs.YtjabhmepafofmaaGreatDoor
open Go.RowKit
set_option maxHeartbeats 4000000 in
set_option maxRecDepth 100000 in
theorem prefix_step' {v : Vd} {g : Gr} (h : Oks v.gp v.a v.c v.l g) : CT v.gp v.a v.c v.l 95 [] (stE xE) g.pPrefix := dc fun e HX => by
 have HH := Lib.hid h
 clear h
 simp only [Gr.pPrefix] at HX
 go_enter Tryz.func95, Tryz.ntmps95
 go_upto_region 1 with fail
 generalize hn : e.w.alloc _ = w1
 generalize hg : e.w.heap.size = g_r
 replace HX := alloc' HX hn hg
 clear hn hg
 go_wp2_with fail
 refine nextd HX ?_; clear HX; intro w2 kt_t st_t mt_t qt_t HT_t HX
 go_upto_region 2 with fail
 generalize hn : w2.alloc _ = w3
 generalize hg : w2.heap.size = g_t
 replace HX := alloc' HX hn hg
 clear hn hg
 go_wp2_with fail
 generalize hn : w3.alloc _ = w4
 generalize hg : w3.heap.size = g_sk
 replace HX := alloc' HX hn hg
 clear hn hg
 refine skipd HX ?_ ?_ (by rfl) (by rfl) (by decide)
 ·
  clear HX; intro w5 h6 HX
  go_upto_region 3 with fail
  refine reg' HX (e4 (bk 0 HX rfl)) [6] (by kernel_rfl) ?_; clear HX; intro w7 HX hHeld
  refine tk 0 rfl hHeld ?_ (by kernel_rfl) (by kernel_rfl) (by exact fun _ _ _ h => h) (by (intro w h; (try dsimp only at h); go_simp; (try (with_reducible rfl))))
  try simp only [SA]
  refine tk 1 rfl hHeld ?_ (by kernel_rfl) (by kernel_rfl) (by exact fun _ _ _ h => h) (by (intro w h; (try dsimp only at h); go_simp; (try (with_reducible rfl))))
  try simp only [SA]
  refine tk 2 rfl hHeld ?_ (by kernel_rfl) (by kernel_rfl) (by exact fun _ _ _ h => h) (by (intro w h; (try dsimp only at h); go_simp; (try (with_reducible rfl))))
  try simp only [SA]
  refine rdm 3 (by kernel_rfl) rfl fun K hK => ?_
  go_simp
  go_at_call 95
  refine callEd HX (HH.out.prefix_) (fun _ h => ⟨rfl, h⟩) ?_; clear HX; intro w8 q9 x_e _ _ _ _ _ _ _ _ _ _ _ _ _ h10 HX
  refine hK.out _ _ ((e4 (bk 1 HX rfl)) _ (Fr.refl _ _)) (fun hHeld => ?_)
  clear hK K
  try dsimp only
  try simp only [SA]
  refine rdm 4 (by kernel_rfl) rfl fun K hK => ?_
  go_simp
  generalize hn : w8.alloc _ = w11
  generalize hg : w8.heap.size = g_arr
  replace HX := alloc' HX hn hg
  clear hn hg
  refine hK.out _ _ ((e4 (bk 2 HX rfl)) _ (Fr.refl _ _)) (fun hHeld => ?_)
  clear hK K
  try dsimp only
  try simp only [SA]
  refine tk 5 rfl hHeld ?_ (by kernel_rfl) (by kernel_rfl) (by exact fun _ _ _ h => h) (by (intro w h; (try dsimp only at h); go_simp; (try (with_reducible rfl))))
  try simp only [SA]
  have D_r := d7 (bk 3 HX rfl)
  refine rdl 6 (by kernel_rfl) rfl (by kernel_rfl) fun K hK => ?_
  go_simp
  clear D_r
  generalize hn : World.setCell _ ⟨g_r, 6, none⟩ _ = w12
  replace HX := put3 HX (pE hn)
  clear hn
  refine hK.out _ _ ?_
  clear hK K
  try dsimp only
  try simp only [SA]
  refine done_e (by kernel_rfl) ?_ _
  (try simp only [Exit.inBlock, Exit.then])
  go_wp2_with fail
  exact retd 3 HX rfl Tryz.underlying44 (by kernel_rfl) rfl rfl rfl rfl (hcE_kids 15 st_t 0 nob (one' 0 1 HX rfl rfl rfl (by decide)))
 ·
  clear HX; intro w13 HX
  go_wp2_with fail
  replace HX := taild HX
  refine callEd HX (HH.out.atom) (fun _ h => ⟨rfl, h⟩) ?_; clear HX; intro w14 q15 x_e _ _ _ _ _ _ _ _ _ _ _ _ _ h16 HX
  have D_r := d7 (bk 2 HX rfl)
  go_wp2_with fail
  clear D_r
  generalize hn : World.setCell _ ⟨g_r, 6, none⟩ _ = w17
  replace HX := put2 HX (pE hn)
  clear hn
  exact retd 2 HX rfl Tryz.underlying44 (by kernel_rfl) rfl rfl rfl rfl ((vl 0 HX rfl))
theorem prefix_step {gp : Nat} {a : Option Addr} {c : Nat} {l : List Tok} {g : Gr} (h : Oks gp a c l g) : CT gp a c l 95 [] (stE xE) g.pPrefix := prefix_step' (v := ⟨gp, a, c, l⟩) h
end Go.Proofs.YtjabhmepafofmaaGreatDoor
