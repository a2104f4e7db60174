/- Wpa, Wpat, Wpo, Wpr, Wpro, Bw, Ro, Kc -/
import Derived.Test.YtjabhmepafofmaaGreatDoorG09
import Derived.RangeFuncNested
import Derived.RangeFuncBound
import Derived.RangeFuncCalls
import Derived.RangeFuncLeaves
import Derived.Shelf.Abstract
import Derived.Shelf.RegionOpen
import Derived.OwnWalkIn
import Derived.TacticsInMore
import Derived.LoopNIn
import Derived.LoopIn
set_option linter.unusedVariables false
set_option linter.unusedSimpArgs false
namespace Go.Proofs.YtjabhmepafofmaaGreatDoor
open Go.RowKit
set_option maxHeartbeats 4000000 in
set_option maxRecDepth 100000 in
theorem patAtom_step' {v : Vd} {g : Gr} (h : Oks v.gp v.a v.c v.l g) : CT v.gp v.a v.c v.l 94 [] (stE xT) g.pPatAtom := dc fun e HX => by
 have HH := Lib.hid h
 clear h
 simp only [Gr.pPatAtom] at HX
 go_enter Tryz.func94, Tryz.ntmps94
 go_upto_region 1 with fail
 generalize hn : e.w.alloc _ = w1
 generalize hg : e.w.heap.size = g_r
 replace HX := alloc' HX hn hg
 clear hn hg
 go_wp2_with fail
 refine nextd HX ?_; clear HX; intro w2 kt_t st_t mt_t qt_t HT_t HX
 go_upto_region 2 with fail
 generalize hn : w2.alloc _ = w3
 generalize hg : w2.heap.size = g_t
 replace HX := alloc' HX hn hg
 clear hn hg
 go_upto_region 5 with fail
 generalize hn : w3.alloc _ = w4
 generalize hg : w3.heap.size = g_x
 replace HX := alloc' HX hn hg
 clear hn hg
 go_wp2_with fail
 generalize hn : w4.alloc _ = w5
 generalize hg : w4.heap.size = g_sk
 replace HX := alloc' HX hn hg
 clear hn hg
 refine seesd (ts := [⟨#[95]⟩]) HX HT_t ?_ ?_
 ·
  clear HX; intro w6 hs hlt HX
  replace HX := posd HX hs
  clear hs
  have D_x := d4 (bk 0 HX rfl)
  have D_t := d4 (bk 1 HX rfl)
  go_upto_region 17 with fail
  clear D_x D_t
  generalize hn : World.setCell _ ⟨g_x, 3, none⟩ _ = w7
  replace HX := put0 HX (pT hn)
  clear hn
  have hk := fewd HX (Nat.le_succ e.p)
  have D_gp := d2 (gd HX)
  go_upto_region 18 with fail
  clear D_gp
  clear hk
  generalize hn : World.setCell _ ⟨v.gp, 1, none⟩ _ = w8
  replace HX := advd HX hlt hn
  clear hn
  have D_x := d4 (bk 0 HX rfl)
  have D_r := d4 (bk 2 HX rfl)
  go_wp2_with fail
  clear D_x D_r
  generalize hn : World.setCell _ ⟨g_r, 3, none⟩ _ = w9
  replace HX := put2 HX (pT hn)
  clear hn
  exact retd 2 HX rfl Tryz.underlying97 (by kernel_rfl) rfl rfl rfl rfl (hcT_none 1 nob 0)
 ·
  clear HX; intro w10 hs HX
  replace HX := negd HX (by rw [hs]; decide)
  clear hs
  by_cases hk1_t : kt_t = 1
  ·
   replace HX := posd HX hk1_t
   have D1_t := kq (k := kt_t) (z := 1) (by omega)
   have D_x := d4 (bk 0 HX rfl)
   have D_t := d4 (bk 1 HX rfl)
   go_upto_region 17 with fail
   clear D_x D_t
   generalize hn : World.setCell _ ⟨g_x, 3, none⟩ _ = w11
   replace HX := put0 HX (pT hn)
   clear hn
   have hk := fewd HX (Nat.le_succ e.p)
   have D_gp := d2 (gd HX)
   go_upto_region 18 with fail
   clear D_gp
   clear hk
   generalize hn : World.setCell _ ⟨v.gp, 1, none⟩ _ = w12
   replace HX := advd HX (kind_lt (k := 1) (by rw [HT_t.out]; exact hk1_t) (by decide)) hn
   clear hn
   have D_x := d4 (bk 0 HX rfl)
   have D_r := d4 (bk 2 HX rfl)
   go_wp2_with fail
   clear D_x D_r
   generalize hn : World.setCell _ ⟨g_r, 3, none⟩ _ = w13
   replace HX := put2 HX (pT hn)
   clear hn
   exact retd 2 HX rfl Tryz.underlying97 (by kernel_rfl) rfl rfl rfl rfl (hcT_none 2 st_t 0)
  ·
   replace HX := negd HX hk1_t
   have D1_t := kn' (k := kt_t) (z := 1) (by omega)
   by_cases hk4_t : kt_t = 4
   ·
    replace HX := posd HX hk4_t
    have D4_t := kq (k := kt_t) (z := 4) (by omega)
    have D_x := d4 (bk 0 HX rfl)
    have D_t := d4 (bk 1 HX rfl)
    go_upto_region 17 with fail
    clear D_x D_t
    generalize hn : World.setCell _ ⟨g_x, 3, none⟩ _ = w14
    replace HX := put0 HX (pT hn)
    clear hn
    have hk := fewd HX (Nat.le_succ e.p)
    have D_gp := d2 (gd HX)
    go_upto_region 18 with fail
    clear D_gp
    clear hk
    generalize hn : World.setCell _ ⟨v.gp, 1, none⟩ _ = w15
    replace HX := advd HX (kind_lt (k := 4) (by rw [HT_t.out]; exact hk4_t) (by decide)) hn
    clear hn
    have D_x := d4 (bk 0 HX rfl)
    have D_r := d4 (bk 2 HX rfl)
    go_wp2_with fail
    clear D_x D_r
    generalize hn : World.setCell _ ⟨g_r, 3, none⟩ _ = w16
    replace HX := put2 HX (pT hn)
    clear hn
    exact retd 2 HX rfl Tryz.underlying97 (by kernel_rfl) rfl rfl rfl rfl (hcT_none 3 nob mt_t)
   ·
    replace HX := negd HX hk4_t
    have D4_t := kn' (k := kt_t) (z := 4) (by omega)
    by_cases hk2_t : kt_t = 2
    ·
     have D2_t := kq (k := kt_t) (z := 2) (by omega)
     replace HX := posd HX (.inl hk2_t)
     have D_x := d4 (bk 0 HX rfl)
     have D_t := d4 (bk 1 HX rfl)
     go_upto_region 17 with fail
     clear D_x D_t
     generalize hn : World.setCell _ ⟨g_x, 3, none⟩ _ = w17
     replace HX := put0 HX (pT hn)
     clear hn
     have hk := fewd HX (Nat.le_succ e.p)
     have D_gp := d2 (gd HX)
     go_upto_region 18 with fail
     clear D_gp
     clear hk
     generalize hn : World.setCell _ ⟨v.gp, 1, none⟩ _ = w18
     replace HX := advd HX (kind_lt (k := 2) (by rw [HT_t.out]; exact hk2_t) (by decide)) hn
     clear hn
     have D_x := d4 (bk 0 HX rfl)
     have D_r := d4 (bk 2 HX rfl)
     go_wp2_with fail
     clear D_x D_r
     generalize hn : World.setCell _ ⟨g_r, 3, none⟩ _ = w19
     replace HX := put2 HX (pT hn)
     clear hn
     exact retd 2 HX rfl Tryz.underlying97 (by kernel_rfl) rfl rfl rfl rfl (hcT_none 6 st_t 0)
    ·
     have D2_t := kn' (k := kt_t) (z := 2) (by omega)
     have D_t := d4 (bk 1 HX rfl)
     go_wp2_with fail
     clear D_t
     generalize hn : w10.alloc _ = w20
     generalize hg : w10.heap.size = g_sk
     replace HX := alloc' HX hn hg
     clear hn hg
     refine seesd (ts := [⟨#[116, 114, 117, 101]⟩, ⟨#[102, 97, 108, 115, 101]⟩]) HX HT_t ?_ ?_
     ·
      clear HX; intro w21 hs hlt HX
      replace HX := posd HX (.inr hs)
      clear hs
      have D_x := d4 (bk 0 HX rfl)
      have D_t := d4 (bk 1 HX rfl)
      go_upto_region 17 with fail
      clear D_x D_t
      generalize hn : World.setCell _ ⟨g_x, 3, none⟩ _ = w22
      replace HX := put0 HX (pT hn)
      clear hn
      have hk := fewd HX (Nat.le_succ e.p)
      have D_gp := d2 (gd HX)
      go_upto_region 18 with fail
      clear D_gp
      clear hk
      generalize hn : World.setCell _ ⟨v.gp, 1, none⟩ _ = w23
      replace HX := advd HX hlt hn
      clear hn
      have D_x := d4 (bk 0 HX rfl)
      have D_r := d4 (bk 2 HX rfl)
      go_wp2_with fail
      clear D_x D_r
      generalize hn : World.setCell _ ⟨g_r, 3, none⟩ _ = w24
      replace HX := put2 HX (pT hn)
      clear hn
      exact retd 2 HX rfl Tryz.underlying97 (by kernel_rfl) rfl rfl rfl rfl (hcT_none 6 st_t 0)
     ·
      clear HX; intro w25 hs HX
      replace HX := negd HX (fun h => h.elim (fun h => hk2_t h) (fun h => Bool.false_ne_true (hs.symm.trans h)))
      clear hs
      go_wp2_with fail
      generalize hn : w25.alloc _ = w26
      generalize hg : w25.heap.size = g_sk
      replace HX := alloc' HX hn hg
      clear hn hg
      refine skipd HX ?_ ?_
      ·
       clear HX; intro w27 h28 HX
       go_wp2_with fail
       refine nextd HX ?_; clear HX; intro w29 kt_u st_u mt_u qt_u HT_u HX
       go_wp2_with fail
       simp only [field49_2]
       go_wp2_with fail
       refine taked HX (by decide) (fun _ h => ⟨rfl, h⟩) ?_; clear HX; intro w30 st_m h31 HX
       replace HX := dre HX (m' := .ret (T.mk 3 nob (wrap64 (-mt_u)) [])) (by rw [IntWalk.i64_left])
       have D_r := d4 (bk 2 HX rfl)
       go_wp2_with fail
       clear D_r
       generalize hn : World.setCell _ ⟨g_r, 3, none⟩ _ = w32
       replace HX := put2 HX (pT hn)
       clear hn
       exact retd 2 HX rfl Tryz.underlying97 (by kernel_rfl) rfl rfl rfl rfl (hcT_none 3 nob (wrap64 (-mt_u)))
      ·
       clear HX; intro w33 HX
       go_wp2_with fail
       refine mustd HX (fun _ h => ⟨rfl, h⟩) ?_; clear HX; intro w34 h35 HX
       go_wp2_with fail
       replace HX := taild HX
       refine callTd HX (HH.out.patRound) (fun _ h => ⟨rfl, h⟩) ?_; clear HX; intro w36 q37 x_e _ _ _ _ _ _ h38 HX
       have D_r := d4 (bk 3 HX rfl)
       go_wp2_with fail
       clear D_r
       generalize hn : World.setCell _ ⟨g_r, 3, none⟩ _ = w39
       replace HX := put3 HX (pT hn)
       clear hn
       exact retd 3 HX rfl Tryz.underlying97 (by kernel_rfl) rfl rfl rfl rfl ((vl 0 HX rfl))
theorem patAtom_step {gp : Nat} {a : Option Addr} {c : Nat} {l : List Tok} {g : Gr} (h : Oks gp a c l g) : CT gp a c l 94 [] (stE xT) g.pPatAtom := patAtom_step' (v := ⟨gp, a, c, l⟩) h
end Go.Proofs.YtjabhmepafofmaaGreatDoor
namespace Go.Proofs.YtjabhmepafofmaaGreatDoor
open Go.RowKit
set_option maxHeartbeats 4000000 in
set_option maxRecDepth 100000 in
theorem pat_step' {v : Vd} {g : Gr} (h : Oks v.gp v.a v.c v.l g) : CT v.gp v.a v.c v.l 81 [] (stE xT) g.pPat := dc fun e HX => by
 have HH := Lib.hid h
 clear h
 simp only [Gr.pPat] at HX
 go_enter Tryz.func81, Tryz.ntmps81
 go_upto_region 1 with fail
 generalize hn : e.w.alloc _ = w1
 generalize hg : e.w.heap.size = g_r
 replace HX := alloc' HX hn hg
 clear hn hg
 go_wp2_with fail
 refine nextd HX ?_; clear HX; intro w2 kt_t st_t mt_t qt_t HT_t HX
 go_wp2_with fail
 simp only [field49_0]
 by_cases hk2_t : kt_t = 2
 ·
  replace HX := posd HX hk2_t
  have D2_t := kq (k := kt_t) (z := 2) (by omega)
  go_wp2_with fail
  refine takekd HX HT_t hk2_t (by decide) ?_; clear HX; intro w3 h4 HX
  go_upto_region 4 with fail
  generalize hn : w3.alloc _ = w5
  generalize hg : w3.heap.size = g_t
  replace HX := alloc' HX hn hg
  clear hn hg
  go_wp2_with fail
  refine nextd HX ?_; clear HX; intro w6 kt_k st_k mt_k qt_k HT_k HX
  go_wp2_with fail
  simp only [field49_0]
  by_cases hor : kt_k = 1 ∨ kt_k = 4 ∨ kt_k = 2
  ·
   replace HX := posd HX (by simp only [Gr.patB]; rcases hor with h | h | h <;> subst h <;> simp)
   rcases hor with hk | hk | hk <;> subst hk
   all_goals
    go_wp2_with fail
    refine callTd HX (HH.out.patAtom) (fun _ h => ⟨rfl, h⟩) ?_; clear HX; intro w7 q8 x_x _ _ _ _ _ _ h9 HX
    have D_t := d4 (bk 1 HX rfl)
    have hl := lt_of_block (bk 1 HX rfl)
    go_upto_region 7 with fail
    clear D_t
    clear hl
    generalize hg : w7.heap.size = g_arr
    generalize hn : World.setCell _ ⟨g_t, 3, none⟩ _ = w10
    generalize hm : w10.alloc _ = w11
    replace HX := late1 HX hg (pT3 hn) hm
    clear hg hn hm
    have D_t := d4 (bk 2 HX rfl)
    have D_r := d4 (bk 3 HX rfl)
    go_wp2_with fail
    clear D_t D_r
    generalize hn : World.setCell _ ⟨g_r, 3, none⟩ _ = w12
    replace HX := put3 HX (pT hn)
    clear hn
    exact retd 3 HX rfl Tryz.underlying97 (by kernel_rfl) rfl rfl rfl rfl (hcT_mk 6 st_t 0 (one' 0 1 HX rfl rfl rfl (by decide)))
  have D1 := kn' (k := kt_k) (z := 1) (by omega)
  have D2 := kn' (k := kt_k) (z := 2) (by omega)
  have D4 := kn' (k := kt_k) (z := 4) (by omega)
  have hpb : ∀ {z}, seesB ⟨kt_k, st_k, mt_k, qt_k⟩ [⟨#[95]⟩, ⟨#[126]⟩, ⟨#[40]⟩, ⟨#[116, 114, 117, 101]⟩, ⟨#[102, 97, 108, 115, 101]⟩] = z → Gr.patB ⟨kt_k, st_k, mt_k, qt_k⟩ = z := fun h => by
   have h1 : ¬ kt_k = 1 := fun h => hor (.inl h)
   have h2 : ¬ kt_k = 4 := fun h => hor (.inr (.inl h))
   have h3 : ¬ kt_k = 2 := fun h => hor (.inr (.inr h))
   simp [Gr.patB, h1, h2, h3, h]
  clear hor
  go_wp2_with fail
  generalize hn : w6.alloc _ = w13
  generalize hg : w6.heap.size = g_sk
  replace HX := alloc' HX hn hg
  clear hn hg
  refine seesd (ts := [⟨#[95]⟩, ⟨#[126]⟩, ⟨#[40]⟩, ⟨#[116, 114, 117, 101]⟩, ⟨#[102, 97, 108, 115, 101]⟩]) HX HT_k ?_ ?_
  ·
   clear HX; intro w14 hs hlt HX
   replace HX := posd HX (hpb hs)
   clear hpb hs
   go_wp2_with fail
   refine callTd HX (HH.out.patAtom) (fun _ h => ⟨rfl, h⟩) ?_; clear HX; intro w15 q16 x_x _ _ _ _ _ _ h17 HX
   have D_t := d4 (bk 1 HX rfl)
   have hl := lt_of_block (bk 1 HX rfl)
   go_upto_region 7 with fail
   clear D_t
   clear hl
   generalize hg : w15.heap.size = g_arr
   generalize hn : World.setCell _ ⟨g_t, 3, none⟩ _ = w18
   generalize hm : w18.alloc _ = w19
   replace HX := late1 HX hg (pT3 hn) hm
   clear hg hn hm
   have D_t := d4 (bk 2 HX rfl)
   have D_r := d4 (bk 3 HX rfl)
   go_wp2_with fail
   clear D_t D_r
   generalize hn : World.setCell _ ⟨g_r, 3, none⟩ _ = w20
   replace HX := put3 HX (pT hn)
   clear hn
   exact retd 3 HX rfl Tryz.underlying97 (by kernel_rfl) rfl rfl rfl rfl (hcT_mk 6 st_t 0 (one' 0 1 HX rfl rfl rfl (by decide)))
  ·
   clear HX; intro w21 hs HX
   replace HX := negd HX (by rw [hpb hs]; decide)
   clear hpb hs
   have D_t := d4 (bk 0 HX rfl)
   have D_r := d4 (bk 1 HX rfl)
   go_wp2_with fail
   clear D_t D_r
   generalize hn : World.setCell _ ⟨g_r, 3, none⟩ _ = w22
   replace HX := put1 HX (pT hn)
   clear hn
   exact retd 1 HX rfl Tryz.underlying97 (by kernel_rfl) rfl rfl rfl rfl (hcT_none 6 st_t 0)
 ·
  replace HX := negd HX hk2_t
  have D2_t := kn' (k := kt_t) (z := 2) (by omega)
  go_wp2_with fail
  replace HX := taild HX
  refine callTd HX (HH.out.patAtom) (fun _ h => ⟨rfl, h⟩) ?_; clear HX; intro w23 q24 x_x _ _ _ _ _ _ h25 HX
  have D_r := d4 (bk 1 HX rfl)
  go_wp2_with fail
  clear D_r
  generalize hn : World.setCell _ ⟨g_r, 3, none⟩ _ = w26
  replace HX := put1 HX (pT hn)
  clear hn
  exact retd 1 HX rfl Tryz.underlying97 (by kernel_rfl) rfl rfl rfl rfl ((vl 0 HX rfl))
theorem pat_step {gp : Nat} {a : Option Addr} {c : Nat} {l : List Tok} {g : Gr} (h : Oks gp a c l g) : CT gp a c l 81 [] (stE xT) g.pPat := pat_step' (v := ⟨gp, a, c, l⟩) h
end Go.Proofs.YtjabhmepafofmaaGreatDoor
namespace Go.Proofs.YtjabhmepafofmaaGreatDoor
open Go.RowKit
set_option maxHeartbeats 4000000 in
set_option maxRecDepth 100000 in
theorem post_step' {v : Vd} {g : Gr} {n : Nat} (h : Oks v.gp v.a v.c v.l g) : CT v.gp v.a v.c v.l 84 [] (stE xT) (g.pPost n) := dc fun e HX => by
 have HH := Lib.hid h
 clear h
 simp only [Gr.pPost] at HX
 go_enter Tryz.func84, Tryz.ntmps84
 go_upto_region 1 with fail
 generalize hn : e.w.alloc _ = w1
 generalize hg : e.w.heap.size = g_r
 replace HX := alloc' HX hn hg
 clear hn hg
 go_wp2_with fail
 refine callTd HX (HH.out.tyAtom) (fun _ h => ⟨rfl, h⟩) ?_; clear HX; intro w2 q3 x_a _ _ _ _ _ _ h4 HX
 go_upto_region 2 with fail
 generalize hn : w2.alloc _ = w5
 generalize hg : w2.heap.size = g_t
 replace HX := alloc' HX hn hg
 clear hn hg
 replace HX := mix0 HX
 go_loopw [] (fun wx => ∃ (q j : Nat) (x : T) (k : Nat) (sx : ByteArray) (nx : Int) (ax : Option Addr) (mx cx : Nat), posOf v.gp wx = q ∧ Hid (Dx v e wx q [.mix g_t g_r (xT x) [.int .u8 k, .string sx, .int .i64 nx, .slice ax mx cx], .blk g_t [.int .u8 k, .string sx, .int .i64 nx, .slice ax mx cx] 40, .blk g_r [.int .u8 0, .string ⟨#[]⟩, .int .i64 0, .slice none 0 0] 40] (Gr.names j x))) (fun wx => v.l.length - posOf v.gp wx)
 case atStart => exact ⟨q3, n, x_a, _, _, _, _, _, _, posOf_at HX.out.st.blk, HX⟩
 case round =>
  clear HX
  obtain ⟨q, j, x, kx, sx, nx, ax, mx, cx, hpq, HX⟩ := hrel
  have hq := HX.out.dle
  obtain ⟨j2, HX⟩ := headd HX (fun h ho => names_head h ho)
  go_wp2_with fail
  refine nextd HX ?_; clear HX; intro w6 kt_t st_t mt_t qt_t HT_t HX
  go_wp2_with fail
  simp only [field49_0]
  by_cases hk1_t : kt_t = 1
  ·
   replace HX := posd HX hk1_t
   have D1_t := kq (k := kt_t) (z := 1) (by omega)
   go_upto_region 3 with fail
   refine reg' HX (e4 (bk 1 HX rfl)) [5] (by kernel_rfl) ?_; clear HX; intro w7 HX hHeld
   refine tk 0 rfl hHeld ?_
   try simp only [SA]
   refine tk 2 rfl hHeld ?_
   try simp only [SA]
   refine ready_e (rs := [1, 3]) (by kernel_rfl) (by simp) ?_
   refine (do_mid (o := _) rfl (fun K hK => ?_) (do_mid (o := _) rfl (fun K hK => ?_) none_e))
   ·
    go_simp
    go_at_call 23
    refine takekd HX HT_t hk1_t (by decide) ?_; clear HX; intro w8 h9 HX
    refine hK.out _ _ ((e4 (bk 1 HX rfl)) _ (Fr.refl _ _)) (fun hHeld => ?_)
    clear hK K
    try dsimp only
    try simp only [SA]
    refine rdm 3 (by kernel_rfl) rfl fun K hK => ?_
    go_simp
    generalize hn : w8.alloc _ = w10
    generalize hg : w8.heap.size = g_arr
    replace HX := alloc' HX hn hg
    clear hn hg
    refine hK.out _ _ ((e4 (bk 2 HX rfl)) _ (Fr.refl _ _)) (fun hHeld => ?_)
    clear hK K
    try dsimp only
    try simp only [SA]
    refine tk 4 rfl hHeld ?_
    try simp only [SA]
    have D_t := d4 (bk 2 HX rfl)
    refine rdl 5 (by kernel_rfl) rfl (by kernel_rfl) fun K hK => ?_
    go_simp
    clear D_t
    generalize hn : World.setCell _ ⟨g_t, 3, none⟩ _ = w11
    replace HX := put2 HX (pT hn) ⟨.inl rfl, trivial⟩
    clear hn
    refine hK.out _ _ ?_
    clear hK K
    try dsimp only
    try simp only [SA]
    refine done_e (by kernel_rfl) ?_ _
    (try simp only [Exit.inBlock, Exit.then])
    go_wp2_with fail
    replace HX := mix1 (x' := xT (.mk 2 st_t 0 [x])) HX (hcT_mk 2 st_t 0 (mone (k := 4) HX rfl (by decide)))
    exact ⟨⟨(q + 1), j2, .mk 2 st_t 0 [x], 2, st_t, 0, _, _, _, posOf_at HX.out.st.blk, HX⟩, by rw [posOf_at HX.out.st.blk, hpq]; have := HX.out.dle; omega⟩
   ·
    go_simp
    generalize hn : w7.alloc _ = w12
    generalize hg : w7.heap.size = g_arr
    replace HX := alloc' HX hn hg
    clear hn hg
    refine hK.out _ _ ((e4 (bk 2 HX rfl)) _ (Fr.refl _ _)) (fun hHeld => ?_)
    clear hK K
    try dsimp only
    try simp only [SA]
    refine rdm 1 (by kernel_rfl) rfl fun K hK => ?_
    go_simp
    go_at_call 23
    refine takekd HX HT_t hk1_t (by decide) ?_; clear HX; intro w13 h14 HX
    refine hK.out _ _ ((e4 (bk 2 HX rfl)) _ (Fr.refl _ _)) (fun hHeld => ?_)
    clear hK K
    try dsimp only
    try simp only [SA]
    refine tk 4 rfl hHeld ?_
    try simp only [SA]
    have D_t := d4 (bk 2 HX rfl)
    refine rdl 5 (by kernel_rfl) rfl (by kernel_rfl) fun K hK => ?_
    go_simp
    clear D_t
    generalize hn : World.setCell _ ⟨g_t, 3, none⟩ _ = w15
    replace HX := put2 HX (pT hn) ⟨.inl rfl, trivial⟩
    clear hn
    refine hK.out _ _ ?_
    clear hK K
    try dsimp only
    try simp only [SA]
    refine done_e (by kernel_rfl) ?_ _
    (try simp only [Exit.inBlock, Exit.then])
    go_wp2_with fail
    replace HX := mix1 (x' := xT (.mk 2 st_t 0 [x])) HX (hcT_mk 2 st_t 0 (mone (k := 4) HX rfl (by decide)))
    exact ⟨⟨(q + 1), j2, .mk 2 st_t 0 [x], 2, st_t, 0, _, _, _, posOf_at HX.out.st.blk, HX⟩, by rw [posOf_at HX.out.st.blk, hpq]; have := HX.out.dle; omega⟩
  ·
   replace HX := negd HX hk1_t
   have D1_t := kn' (k := kt_t) (z := 1) (by omega)
   have D_t := d4 (bk 1 HX rfl)
   have D_r := d4 (bk 2 HX rfl)
   go_wp2_with fail
   clear D_t D_r
   generalize hn : World.setCell _ ⟨g_r, 3, none⟩ _ = w16
   replace HX := put2 HX (pT hn) ⟨.inr rfl, trivial⟩
   clear hn
   exact retd 2 HX rfl Tryz.underlying40 (by kernel_rfl) rfl rfl rfl rfl (vm HX)
theorem post_step {gp : Nat} {a : Option Addr} {c : Nat} {l : List Tok} {g : Gr} {n : Nat} (h : Oks gp a c l g) : CT gp a c l 84 [] (stE xT) (g.pPost n) := post_step' (v := ⟨gp, a, c, l⟩) h
end Go.Proofs.YtjabhmepafofmaaGreatDoor
namespace Go.Proofs.YtjabhmepafofmaaGreatDoor
open Go.RowKit
set_option maxHeartbeats 4000000 in
set_option maxRecDepth 100000 in
theorem prefix_step' {v : Vd} {g : Gr} (h : Oks v.gp v.a v.c v.l g) : CT v.gp v.a v.c v.l 95 [] (stE xE) g.pPrefix := dc fun e HX => by
 have HH := Lib.hid h
 clear h
 simp only [Gr.pPrefix] at HX
 go_enter Tryz.func95, Tryz.ntmps95
 go_upto_region 1 with fail
 generalize hn : e.w.alloc _ = w1
 generalize hg : e.w.heap.size = g_r
 replace HX := alloc' HX hn hg
 clear hn hg
 go_wp2_with fail
 refine nextd HX ?_; clear HX; intro w2 kt_t st_t mt_t qt_t HT_t HX
 go_upto_region 2 with fail
 generalize hn : w2.alloc _ = w3
 generalize hg : w2.heap.size = g_t
 replace HX := alloc' HX hn hg
 clear hn hg
 go_wp2_with fail
 generalize hn : w3.alloc _ = w4
 generalize hg : w3.heap.size = g_sk
 replace HX := alloc' HX hn hg
 clear hn hg
 refine skipd HX ?_ ?_
 ·
  clear HX; intro w5 h6 HX
  go_upto_region 3 with fail
  refine reg' HX (e4 (bk 0 HX rfl)) [6] (by kernel_rfl) ?_; clear HX; intro w7 HX hHeld
  refine tk 0 rfl hHeld ?_
  try simp only [SA]
  refine tk 1 rfl hHeld ?_
  try simp only [SA]
  refine tk 2 rfl hHeld ?_
  try simp only [SA]
  refine rdm 3 (by kernel_rfl) rfl fun K hK => ?_
  go_simp
  go_at_call 95
  refine callEd HX (HH.out.prefix_) (fun _ h => ⟨rfl, h⟩) ?_; clear HX; intro w8 q9 x_e _ _ _ _ _ _ _ _ _ _ _ _ _ h10 HX
  refine hK.out _ _ ((e4 (bk 1 HX rfl)) _ (Fr.refl _ _)) (fun hHeld => ?_)
  clear hK K
  try dsimp only
  try simp only [SA]
  refine rdm 4 (by kernel_rfl) rfl fun K hK => ?_
  go_simp
  generalize hn : w8.alloc _ = w11
  generalize hg : w8.heap.size = g_arr
  replace HX := alloc' HX hn hg
  clear hn hg
  refine hK.out _ _ ((e4 (bk 2 HX rfl)) _ (Fr.refl _ _)) (fun hHeld => ?_)
  clear hK K
  try dsimp only
  try simp only [SA]
  refine tk 5 rfl hHeld ?_
  try simp only [SA]
  have D_r := d7 (bk 3 HX rfl)
  refine rdl 6 (by kernel_rfl) rfl (by kernel_rfl) fun K hK => ?_
  go_simp
  clear D_r
  generalize hn : World.setCell _ ⟨g_r, 6, none⟩ _ = w12
  replace HX := put3 HX (pE hn)
  clear hn
  refine hK.out _ _ ?_
  clear hK K
  try dsimp only
  try simp only [SA]
  refine done_e (by kernel_rfl) ?_ _
  (try simp only [Exit.inBlock, Exit.then])
  go_wp2_with fail
  exact retd 3 HX rfl Tryz.underlying44 (by kernel_rfl) rfl rfl rfl rfl (hcE_kids 15 st_t 0 nob (one' 0 1 HX rfl rfl rfl (by decide)))
 ·
  clear HX; intro w13 HX
  go_wp2_with fail
  replace HX := taild HX
  refine callEd HX (HH.out.atom) (fun _ h => ⟨rfl, h⟩) ?_; clear HX; intro w14 q15 x_e _ _ _ _ _ _ _ _ _ _ _ _ _ h16 HX
  have D_r := d7 (bk 2 HX rfl)
  go_wp2_with fail
  clear D_r
  generalize hn : World.setCell _ ⟨g_r, 6, none⟩ _ = w17
  replace HX := put2 HX (pE hn)
  clear hn
  exact retd 2 HX rfl Tryz.underlying44 (by kernel_rfl) rfl rfl rfl rfl ((vl 0 HX rfl))
theorem prefix_step {gp : Nat} {a : Option Addr} {c : Nat} {l : List Tok} {g : Gr} (h : Oks gp a c l g) : CT gp a c l 95 [] (stE xE) g.pPrefix := prefix_step' (v := ⟨gp, a, c, l⟩) h
end Go.Proofs.YtjabhmepafofmaaGreatDoor
namespace Go.Proofs.YtjabhmepafofmaaGreatDoor
open Go.RowKit
set_option maxHeartbeats 4000000 in
set_option maxRecDepth 100000 in
theorem patRound_step' {v : Vd} {g : Gr} {n : Nat} (h : Oks v.gp v.a v.c v.l g) : CT v.gp v.a v.c v.l 104 [] (stE xT) (g.pPatRound n) := dc fun e HX => by
 have HH := Lib.hid h
 clear h
 simp only [pPatRound_eq] at HX
 go_enter Tryz.func104, Tryz.ntmps104
 go_upto_region 1 with fail
 generalize hn : e.w.alloc _ = w1
 generalize hg : e.w.heap.size = g_r
 replace HX := alloc' HX hn hg
 clear hn hg
 go_wp2_with fail
 generalize hn : w1.alloc _ = w2
 generalize hg : w1.heap.size = g_sk
 replace HX := alloc' HX hn hg
 clear hn hg
 refine skipd HX ?_ ?_
 ·
  clear HX; intro w3 h4 HX
  have D_r := d4 (bk 0 HX rfl)
  go_wp2_with fail
  clear D_r
  generalize hn : World.setCell _ ⟨g_r, 3, none⟩ _ = w5
  replace HX := put0 HX (pT hn)
  clear hn
  exact retd 0 HX rfl Tryz.underlying97 (by kernel_rfl) rfl rfl rfl rfl (hcT_none 4 nob 0)
 ·
  clear HX; intro w6 HX
  go_wp2_with fail
  refine callrowd HX (some_pat enters81 HH.out.pat ⟨#[44]⟩ n) (fun _ h => ⟨rfl, h⟩) ?_; clear HX; intro w7 q8 x_l a_l c_l h9 HX
  obtain ⟨m, hacc⟩ : ∃ m, x_l.length = m := ⟨_, rfl⟩
  rw [hacc] at HX ⊢
  simp only [patK] at HX
  go_wp2_with fail
  refine mustd HX (fun _ h => ⟨rfl, h⟩) ?_; clear HX; intro w10 h11 HX
  rcases x_l with _ | ⟨y1, _ | ⟨y2, yr⟩⟩
  ·
   obtain rfl : m = 0 := hacc.symm
   simp only [patK2] at HX
   have D_r := d4 (bk 1 HX rfl)
   go_wp2_with fail
   clear D_r
   generalize hn : World.setCell _ ⟨g_r, 3, none⟩ _ = w12
   replace HX := put1 HX (pT hn)
   clear hn
   exact retd 1 HX rfl Tryz.underlying97 (by kernel_rfl) rfl rfl rfl rfl (hcT_mk 5 nob 0 (rw' 0 HX rfl))
  ·
   obtain rfl : m = 1 := hacc.symm
   simp only [patK2] at HX
   obtain ⟨g_l, o_l, _, _, _, _, _, _, rfl, D_l, HX⟩ := elT HX
   have D_r := d4 (bk 1 HX rfl)
   go_wp2_with fail
   clear D_r D_l
   generalize hn : World.setCell _ ⟨g_r, 3, none⟩ _ = w13
   replace HX := put1 HX (pT hn)
   clear hn
   exact retd 1 HX rfl Tryz.underlying97 (by kernel_rfl) rfl rfl rfl rfl ((vl 0 HX rfl))
  ·
   have hbl : ((m : Int) == 1) = false := by
    simp only [beq_eq_false_iff_ne, ne_eq]
    simp only [List.length_cons] at hacc
    omega
   simp only [patK2] at HX
   have D_r := d4 (bk 1 HX rfl)
   go_wp2_with fail
   clear D_r
   generalize hn : World.setCell _ ⟨g_r, 3, none⟩ _ = w14
   replace HX := put1 HX (pT hn)
   clear hn
   exact retd 1 HX rfl Tryz.underlying97 (by kernel_rfl) rfl rfl rfl rfl (hcT_mk 5 nob 0 (rw' 0 HX rfl))
theorem patRound_step {gp : Nat} {a : Option Addr} {c : Nat} {l : List Tok} {g : Gr} {n : Nat} (h : Oks gp a c l g) : CT gp a c l 104 [] (stE xT) (g.pPatRound n) := patRound_step' (v := ⟨gp, a, c, l⟩) h
end Go.Proofs.YtjabhmepafofmaaGreatDoor
namespace Go.Proofs.YtjabhmepafofmaaGreatDoor
open Go.RowKit Go.Shelf
attribute [local go_sem] Oper.semAt_some
/-- an element as it is handed over: its place, its cells -/
structure El where
 i : Nat
 c0 : Value
 c1 : Value
 c2 : Value
 c3 : Value
 c4 : Value
 c5 : Value
 c6 : Value
def intZ : Value → Int
 | .int _ p => p
 | _ => 0
def El.v (x : El) : Value := .agg #[x.c0, x.c1, x.c2, x.c3, x.c4, x.c5, x.c6]
/-- so many elements, the last one first -/
def downTo {α : Type} (f : Nat → α) (len k : Nat) : List α := (List.range k).map fun j => f (len - 1 - j)
theorem downTo_succ {α : Type} (f : Nat → α) (len k : Nat) : downTo f len (k + 1) = downTo f len k ++ [f (len - 1 - k)] := by simp [downTo, List.range_succ]
theorem downTo_length {α : Type} (f : Nat → α) (len k : Nat) : (downTo f len k).length = k := by simp [downTo]
theorem Fr.cellS {S : Nat → Prop} {w w' : World} (h : Fr S w w') {a : Addr} (hn : ¬ S a.block) {v : Value} (hc : w.cell? a = some v) : w'.cell? a = some v :=
 (World.cell?_of_block (h.block _ (World.block_lt_of_cell? w _ hc) hn)).trans hc
set_option maxRecDepth 100000 in
set_option maxHeartbeats 4000000 in
theorem back1_in {Ok : El → Prop} (F : Fence) (n : Nat) (h95 : F.fn 114) (hro : F.round = none) (hn : 1 ≤ n) (l Bs b off len cap : Nat) (S : Nat → Prop) (hlen : len ≤ 1152921504606846976) (hb : ¬ S b) (el : Nat → { x : El // Ok x }) (J Jx : List { x : El // Ok x } → World → Prop)
  (hi : ∀ j, j < len → (el j).1.i = j)
  (hY : ∀ pre (x : { x : El // Ok x }) W, J pre W → pre.length < len → YieldAt F (n - 1) Tryz.prog l #[.int .i64 (x.1.i : Int), .agg #[x.1.c0, x.1.c1, x.1.c2, x.1.c3, x.1.c4, x.1.c5, x.1.c6]] W fun e W' =>
   (e = .returned (.bool true) ∧ J (pre ++ [x]) W' ∧ Fr S W W') ∨ (e = .returned (.bool false) ∧ Jx (pre ++ [x]) W'))
  (W : World) (hBs : W.cell? ⟨Bs, 0, none⟩ = some (.slice (some ⟨b, off, none⟩) len cap)) (hBn : ¬ S Bs)
  (hc : ∀ j, j < len → W.cell? ⟨b, off + j * 7, none⟩ = some (el j).1.c0 ∧ W.cell? ⟨b, off + j * 7 + 1, none⟩ = some (el j).1.c1 ∧ W.cell? ⟨b, off + j * 7 + 2, none⟩ = some (el j).1.c2 ∧ W.cell? ⟨b, off + j * 7 + 3, none⟩ = some (el j).1.c3 ∧ W.cell? ⟨b, off + j * 7 + 4, none⟩ = some (el j).1.c4 ∧ W.cell? ⟨b, off + j * 7 + 5, none⟩ = some (el j).1.c5 ∧ W.cell? ⟨b, off + j * 7 + 6, none⟩ = some (el j).1.c6) (h0 : J [] W) :
  CallsIn F n Tryz.prog 114 #[.func (.yield l) #[] #[], .pointer (some ⟨Bs, 0, none⟩)] W fun e W' => (∃ v, e = .returned v) ∧
   ((∃ ys, ys = downTo el len len ∧ J ys W') ∨ (∃ pre, (∃ k, k ≤ len ∧ pre = downTo el len k) ∧ Jx pre W')) := by
 refine callsIn_of_wp Tryz.func114 rfl h95 ?_ hro
 simp only [Tryz.ntmps114, List.size_toArray, List.length_cons, List.length_nil, Nat.reduceAdd, Nat.reduceSub, Array.replicate_succ, Array.replicate_zero, List.push_toArray, List.append_toArray, List.nil_append, List.cons_append]
 gi_wp2
 gi_loopw [3] (fun i wr => ∃ k : Nat, k ≤ len ∧ i = .int .i64 ((len : Int) - 1 - k) ∧ J (downTo el len k) wr ∧ Fr S W wr)
  (fun i _ => (intZ i + 1).toNat)
 case atStart => exact ⟨0, Nat.zero_le _, by simp, h0, Fr.refl _ _⟩
 case round =>
  obtain ⟨k, hk, rfl, hJs, hnx⟩ := hrel
  have hcx := fun j (h : j < len) => (⟨hnx.cellS hb (hc j h).1, hnx.cellS hb (hc j h).2.1, hnx.cellS hb (hc j h).2.2.1, hnx.cellS hb (hc j h).2.2.2.1, hnx.cellS hb (hc j h).2.2.2.2.1, hnx.cellS hb (hc j h).2.2.2.2.2.1, hnx.cellS hb (hc j h).2.2.2.2.2.2⟩ : _ ∧ _ ∧ _ ∧ _ ∧ _ ∧ _ ∧ _)
  have hbx := hnx.cellS hBn hBs
  by_cases hlt : k < len
  ·
   obtain ⟨j, hj⟩ : ∃ j, len - 1 - k = j := ⟨_, rfl⟩
   have hjl : j < len := by omega
   have hji : (len : Int) - 1 - k = j := by omega
   obtain ⟨fn, tmps, assign, body, hy, hR⟩ := hY _ (el j) wr hJs (by rw [downTo_length]; exact hlt)
   rw [hi j hjl] at hy
   obtain ⟨d0, d1, d2, d3, d4, d5, d6⟩ := hcx j hjl
   rw [hji]
   have k0 : (0 : Int) ≤ (j : Int) := by omega
   have k1 : (j : Int) < (len : Int) := by omega
   gi_wp2
   refine hR.mono ?_
   rintro e W3 (⟨rfl, hJ3, hk3⟩ | ⟨rfl, hJx3⟩)
   ·
    gi_wp2
    go_roundw
    case rel => exact ⟨k + 1, by omega, by first | (simp; done) | (simp; omega), by rw [downTo_succ, hj]; exact hJ3, hnx.trans hk3 (fun _ _ h => h)⟩
    case measure => first | (simp [intZ]; done) | (simp [intZ]; omega)
   ·
    gi_wp2
    refine bodyPost_ret (results_none rfl _ _ _) rfl ?_
    exact ⟨⟨_, rfl⟩, .inr ⟨_, ⟨k + 1, by omega, by rw [downTo_succ, hj]⟩, hJx3⟩⟩
  ·
   obtain rfl : k = len := by omega
   have hneg : ¬ (0 : Int) ≤ (k : Int) - 1 - k := by omega
   gi_wp2
   go_end0
   first | exact ⟨⟨_, rfl⟩, .inl ⟨_, rfl, hJs⟩⟩ | exact ⟨⟨_, rfl⟩, .inl hJs⟩
set_option maxRecDepth 100000 in
set_option maxHeartbeats 2000000 in
theorem back0_in {Ok : El → Prop} (F : Fence) (n : Nat) (h95 : F.fn 114) (hro : F.round = none) (l Bs cap : Nat) (a : Option Addr) (J : List { x : El // Ok x } → World → Prop) (W : World) (hBs : W.cell? ⟨Bs, 0, none⟩ = some (.slice a 0 cap)) (h0 : J [] W) :
  CallsIn F n Tryz.prog 114 #[.func (.yield l) #[] #[], .pointer (some ⟨Bs, 0, none⟩)] W fun e W' => (∃ v, e = .returned v) ∧ J [] W' := by
 refine callsIn_of_wp Tryz.func114 rfl h95 ?_ hro
 simp only [Tryz.ntmps114, List.size_toArray, List.length_cons, List.length_nil, Nat.reduceAdd, Nat.reduceSub, Array.replicate_succ, Array.replicate_zero, List.push_toArray, List.append_toArray, List.nil_append, List.cons_append]
 gi_wp2
 gi_loopw [3] (fun i wr => i = .int .i64 (-1) ∧ J [] wr) (fun _ _ => 0)
 case atStart => exact ⟨rfl, h0⟩
 case round =>
  obtain ⟨rfl, hJs⟩ := hrel
  gi_wp2
  go_end0
  first | exact ⟨⟨_, rfl⟩, hJs⟩ | exact hJs
/-- the function value that slices.Backward hands back -/
theorem back_stops {Ok : El → Prop} (F : Fence) (n : Nat) (h95 : F.fn 114) (hro : F.round = none) (hn : 1 ≤ n) (Bs len cap : Nat) (a : Option Addr) (S : Nat → Prop) (hlen : len ≤ 1152921504606846976) (el : Nat → { x : El // Ok x }) (hi : ∀ j, j < len → (el j).1.i = j) (w : World)
  (hBs : w.cell? ⟨Bs, 0, none⟩ = some (.slice a len cap)) (hBn : ¬ S Bs) (hS : 0 < len → ∀ b, S b → ∀ off, a ≠ some ⟨b, off, none⟩)
  (hc : ∀ j, j < len → ∃ b off, a = some ⟨b, off, none⟩ ∧ w.cell? ⟨b, off + j * 7, none⟩ = some (el j).1.c0 ∧ w.cell? ⟨b, off + j * 7 + 1, none⟩ = some (el j).1.c1 ∧ w.cell? ⟨b, off + j * 7 + 2, none⟩ = some (el j).1.c2 ∧ w.cell? ⟨b, off + j * 7 + 3, none⟩ = some (el j).1.c3 ∧ w.cell? ⟨b, off + j * 7 + 4, none⟩ = some (el j).1.c4 ∧ w.cell? ⟨b, off + j * 7 + 5, none⟩ = some (el j).1.c5 ∧ w.cell? ⟨b, off + j * 7 + 6, none⟩ = some (el j).1.c6) :
  SeqStopsK F n Tryz.prog 114 #[.pointer (some ⟨Bs, 0, none⟩)] (fun x : { x : El // Ok x } => #[.int .i64 (x.1.i : Int), .agg #[x.1.c0, x.1.c1, x.1.c2, x.1.c3, x.1.c4, x.1.c5, x.1.c6]]) (Fr S) (fun ys => ys = downTo el len len) (fun _ => True) len w := fun l J Jx W hW _ _ hY h0 => by
 have hBs' := (Fr.ofBelow hW).cell hBs
 by_cases hz : len = 0
 ·
  subst hz
  exact (back0_in F n h95 hro l Bs cap a J W hBs' h0).mono fun e W' ⟨he, hj⟩ => ⟨he, .inl ⟨[], rfl, hj⟩⟩
 ·
  obtain ⟨b, off, rfl, _⟩ := hc 0 (by omega)
  have hcells : ∀ j, j < len → W.cell? ⟨b, off + j * 7, none⟩ = some (el j).1.c0 ∧ W.cell? ⟨b, off + j * 7 + 1, none⟩ = some (el j).1.c1 ∧ W.cell? ⟨b, off + j * 7 + 2, none⟩ = some (el j).1.c2 ∧ W.cell? ⟨b, off + j * 7 + 3, none⟩ = some (el j).1.c3 ∧ W.cell? ⟨b, off + j * 7 + 4, none⟩ = some (el j).1.c4 ∧ W.cell? ⟨b, off + j * 7 + 5, none⟩ = some (el j).1.c5 ∧ W.cell? ⟨b, off + j * 7 + 6, none⟩ = some (el j).1.c6 := by
   intro j hj
   obtain ⟨b1, o1, e1, k0, k1, k2, k3, k4, k5, k6⟩ := hc j hj
   simp only [Option.some.injEq, Addr.mk.injEq, and_true] at e1
   obtain ⟨rfl, rfl⟩ := e1
   exact ⟨(Fr.ofBelow hW).cell k0, (Fr.ofBelow hW).cell k1, (Fr.ofBelow hW).cell k2, (Fr.ofBelow hW).cell k3, (Fr.ofBelow hW).cell k4, (Fr.ofBelow hW).cell k5, (Fr.ofBelow hW).cell k6⟩
  refine (back1_in F n h95 hro hn l Bs b off len cap S hlen (fun h => hS (by omega) b h off rfl) el J Jx hi hY W hBs' hBn hcells h0).mono ?_
  rintro e W' ⟨he, ⟨ys, rfl, hj⟩ | ⟨pre, _, hj⟩⟩
  ·
   exact ⟨he, .inl ⟨_, rfl, hj⟩⟩
  ·
   exact ⟨he, .inr ⟨_, trivial, hj⟩⟩
set_option maxHeartbeats 1000000 in
theorem backward_any (a : Option Addr) (len cap : Nat) (w : World) : Calls Tryz.prog 113 #[.slice a len cap] w fun e w' => e = .returned (.func (.func 114) #[] #[.pointer (some ⟨w.heap.size, 0, none⟩)]) ∧ w' = w.alloc (.cells #[.slice a len cap] 41) := by
 go_enter Tryz.func113, Tryz.ntmps113
 go_wp2_with fail
 go_ret
 exact ⟨rfl, rfl⟩
end Go.Proofs.YtjabhmepafofmaaGreatDoor
namespace Go.Proofs.YtjabhmepafofmaaGreatDoor
open Go.RowKit
theorem list_of {α : Type} {P : Nat → α → Prop} : ∀ n : Nat, (∀ j, j < n → ∃ c, P j c) → ∃ cs : List α, cs.length = n ∧ ∀ (j : Nat) (c : α), cs[j]? = some c → P j c
 | 0, _ => ⟨[], rfl, fun j c h => by simp at h⟩
 | n + 1, h => by
  obtain ⟨cs, h1, h2⟩ := list_of n fun j hj => h j (by omega)
  obtain ⟨c, hc⟩ := h n (Nat.lt_succ_self n)
  refine ⟨cs ++ [c], by simp [h1], fun j d hd => ?_⟩
  rcases Nat.lt_or_ge j n with hj | hj
  ·
   rw [List.getElem?_append_left (by omega)] at hd
   exact h2 j d hd
  ·
   have hl := (List.getElem?_eq_some_iff.1 hd).1
   simp only [List.length_append, List.length_singleton] at hl
   obtain rfl : j = n := by omega
   rw [List.getElem?_append_right (by omega), h1, Nat.sub_self] at hd
   cases hd
   exact hc
/-- somebody's row as lists of cells -/
theorem hx_rows {ok : Nat → Prop} {w : World} {k n cp : Nat} {a : Option Addr} {ls : List (List X)} (hk : 0 < k) (h : Hx ok w (.row k ls) (.slice a n cp)) (hn : 0 < n) :
  ∃ g off, ∃ cs : List (List Value), a = some ⟨g, off, none⟩ ∧ ls.length = n ∧ cs.length = n ∧ (∀ c ∈ cs, c.length = k) ∧ (∀ (j : Nat) (u : Value), cs.flatten[j]? = some u → w.cell? ⟨g, off + j, none⟩ = some u) ∧
   ∀ (j : Nat) (x : List X) (c : List Value), ls[j]? = some x → cs[j]? = some c → Hc ok w x c := by
 have hl : ls.length = n := by
  obtain ⟨a', c', e⟩ := hx_slice h
  cases e
  rfl
 obtain ⟨x0, hx0⟩ : ∃ x, ls[0]? = some x := ⟨_, List.getElem?_eq_getElem (by omega)⟩
 obtain ⟨g, off, _, rfl, _⟩ := hx_at h hx0
 obtain ⟨cs, h1, h2⟩ := list_of (P := fun j c => c.length = k ∧ (∀ (m : Nat) (u : Value), c[m]? = some u → w.cell? ⟨g, off + j * k + m, none⟩ = some u) ∧ ∀ x, ls[j]? = some x → Hc ok w x c) n fun j hj => by
  obtain ⟨x, hx⟩ : ∃ x, ls[j]? = some x := ⟨_, List.getElem?_eq_getElem (by omega)⟩
  obtain ⟨g', off', c, e, _, hc, hcell, hxc⟩ := hx_at h hx
  cases e
  exact ⟨c, hc, hcell, fun y hy => by
   rw [hx] at hy
   cases hy
   exact hxc⟩
 have hlen : ∀ c ∈ cs, c.length = k := fun c hc => by
  obtain ⟨j, hj⟩ := List.getElem?_of_mem hc
  exact (h2 j c hj).1
 refine ⟨g, off, cs, rfl, hl, h1, hlen, fun j u hu => ?_, fun j x c hx hc => (h2 j c hc).2.2 x hx⟩
 have hjl : j < cs.flatten.length := (List.getElem?_eq_some_iff.1 hu).1
 rw [flatten_len cs hlen, h1] at hjl
 have hdm : j / k * k + j % k = j := by
  have := Nat.div_add_mod j k
  rw [Nat.mul_comm] at this
  exact this
 have hq : j / k < n := (Nat.div_lt_iff_lt_mul hk).2 hjl
 obtain ⟨c, hc⟩ : ∃ c, cs[j / k]? = some c := ⟨_, List.getElem?_eq_getElem (by omega)⟩
 have hf := flatten_at cs (j / k) (j % k) c hlen hc (Nat.mod_lt _ hk)
 rw [hdm, hu] at hf
 have := (h2 _ c hc).2.1 (j % k) u hf.symm
 rw [Nat.add_assoc, hdm] at this
 exact this
section
variable {α : Type} {R : (Nat → Prop) → World → α → List Value → Prop} {e k : Nat} {P : Program}
theorem OutG.pushes (hR : Kept R) {ok : Nat → Prop} {B m : Nat} {w w' : World} {v : Value} {n : Nat} {l l2 : List α} (h1 : l.length = n) {cs : List (List Value)} (h2 : cs.length = n) (h3 : ∀ c ∈ cs, c.length = k) (h4 : ∀ (j : Nat) (t : α) (c : List Value), l[j]? = some t → cs[j]? = some c → R (fun b => ok b ∧ Av v b) w t c)
  {ds : List (List Value)} (hd : ds.length = m) (hl2 : l2.length = m) (hk : ∀ c ∈ ds, c.length = k) (ht : ∀ (j : Nat) (t : α) (c : List Value), l2[j]? = some t → ds[j]? = some c → R (fun b => ok b ∧ Av v b) w t c) {v' : Value} (hown : w'.ownsRow B e k v' (n + m) (cs.flatten ++ ds.flatten)) (hg : Grows B w w' v v') :
  OutG R e k ok B w' v' (n + m) (l ++ l2) := by
 refine ⟨by simp [h1, hl2], cs ++ ds, by simp [h2, hd], fun x hx => ?_, by rw [List.flatten_append]; exact hown, fun j t' c' hj hc' => hR.keep (ok := fun b => ok b ∧ Av v b) (w := w) (fun b hb hk => ⟨(hg.av b hb hk.2).1, hk.1, (hg.av b hb hk.2).2⟩) t' c' ?_⟩
 ·
  rcases List.mem_append.1 hx with hx | hx
  ·
   exact h3 x hx
  ·
   exact hk x hx
 ·
  rcases Nat.lt_or_ge j n with hlt | hge
  ·
   rw [List.getElem?_append_left (by omega)] at hj hc'
   exact h4 j t' c' hj hc'
  ·
   rw [List.getElem?_append_right (by omega)] at hj hc'
   rw [show j - l.length = j - n by omega] at hj
   rw [show j - cs.length = j - n by omega] at hc'
   exact ht _ t' c' hj hc'
/-- a row behind one's own: out = append(out, l...) -/
theorem wpList_pushes (hR : Kept R) {bytes : Nat} (he : ElemOk P e k bytes) {w : World} {ops : Array Oper} {rest : List Oper} {o : Oper} {a : Act} {Q : Exit → Act → World → Prop} (hgd : o.guard = none) (s x : Operand) (t : TypeId)
  (ho : o.op = .call { callee := .builtin .append, args := #[s, x], argTypes := #[t, t] }) (ht : P.underlying t = some (.slice e)) (ok : Nat → Prop) (B : Nat) (v : Value) (n : Nat) (l : List α) (hs : a.eval s = v) (hv : OutG R e k ok B w v n l)
  (g off m cp : Nat) (l2 : List α) (ds : List (List Value)) (hx : a.eval x = .slice (some ⟨g, off, none⟩) m cp) (hm : 0 < m) (hl2 : l2.length = m) (hd : ds.length = m) (hdk : ∀ c ∈ ds, c.length = k) (hcell : ∀ (j : Nat) (u : Value), ds.flatten[j]? = some u → w.cell? ⟨g, off + j, none⟩ = some u)
  (h1 : ∀ u ∈ ds.flatten, u.oneCell' = true) (hy : ∀ (j : Nat) (t : α) (c : List Value), l2[j]? = some t → ds[j]? = some c → R (fun b => ok b ∧ Av v b) w t c)
  (hn : n + m ≤ maxLen) (hbytes : (n + m) * bytes ≤ 140737488355328) (hB : B ≤ w.heap.size)
  (h : ∀ a' c' w', Hid (OutG R e k ok B w' (.slice a' (n + m) c') (n + m) (l ++ l2)) → Hid (Grows B w w' v (.slice a' (n + m) c')) → wpList P ops Q rest (a.put o.dst (.slice a' (n + m) c')) w') : wpList P ops Q (o :: rest) a w := by
 obtain ⟨⟨i, z, hi, hz, z1, z2, z3⟩, hk⟩ := he
 obtain ⟨g1, cs, g2, g3, hown, g4⟩ := hv
 refine wpList_append_lies w hgd s x t ho B e i z k bytes ht hi hz z1 z2 z3 hk v n cs.flatten hs hown ⟨g, off, none⟩ m cp ds.flatten hx (by rw [flatten_len ds hdk, hd]) (fun j u hj => by
  have h0 := hcell j u hj
  simp only [Addr.add]
  split
  ·
   rename_i hj0
   have hj0 : j = 0 := by simpa using hj0
   subst hj0
   exact h0
  ·
   exact h0) h1 hm hn hbytes hB _ rfl ?_
 intro g cap w' hown' hg hat _
 have hG := grows_of (m := n + m) (cap := cap) hown hB hg hat
 exact h _ _ w' (Lib.hid (OutG.pushes hR g1 g2 g3 g4 hd hl2 hdk hy hown' hG)) (Lib.hid hG)
end
/-- cells of an expression are one cell each -/
theorem oneE {ok : Nat → Prop} {w : World} {t : E} {cs : List Value} (h : Hc ok w (xE t) cs) : ∀ u ∈ cs, u.oneCell' = true := by
 obtain ⟨k, s, n, u, b1, m1, c1, b2, m2, c2, b3, m3, c3, rfl⟩ := hcE h
 simp [Value.oneCell']
theorem more_ne {α : Type} {l : List Tok} {sb : ByteArray} {one : Pr α} : ∀ (n : Nat) (acc : List α) (p q : Nat) (x : List α), acc ≠ [] → Pr.run l (more sb one n acc) p = .ok x q → x ≠ []
 | 0, acc, p, q, x, _, h => by cases h
 | n + 1, acc, p, q, x, ha, h => by
  simp only [more, run_bind, run_skip, Re.andThen] at h
  cases hs : seesB (l.getD p zTok) [sb] with
  | false =>
   simp only [hs, Bool.false_eq_true, if_false, Pr.run, Re.ok.injEq] at h
   rw [← h.1]
   exact ha
  | true =>
   simp only [hs, if_true, run_bind] at h
   cases hr : Pr.run l one (p + 1) with
   | out => rw [hr] at h; cases h
   | fail r => rw [hr] at h; cases h
   | ok y r =>
    rw [hr] at h
    exact more_ne n _ _ _ _ (by simp) h
theorem some_ne {α : Type} {l : List Tok} {sb : ByteArray} {one : Pr α} {n p q : Nat} {x : List α} (h : Pr.run l (some_ n sb one) p = .ok x q) : x ≠ [] := by
 simp only [some_, run_bind] at h
 cases hr : Pr.run l one p with
 | out => rw [hr] at h; cases h
 | fail r => rw [hr] at h; cases h
 | ok y r =>
  rw [hr] at h
  exact more_ne n _ _ _ _ (by simp) h
end Go.Proofs.YtjabhmepafofmaaGreatDoor
namespace Go.Proofs.YtjabhmepafofmaaGreatDoor
open Go.RowKit
theorem more_len {α : Type} {l : List Tok} {sb : ByteArray} {one : Pr α} : ∀ (n : Nat) (acc : List α) (p q : Nat) (x : List α), acc.length ≤ p + 1 → Pr.run l (more sb one n acc) p = .ok x q → x.length ≤ q + 1
 | 0, acc, p, q, x, _, h => by cases h
 | n + 1, acc, p, q, x, ha, h => by
  simp only [more, run_bind, run_skip, Re.andThen] at h
  cases hs : seesB (l.getD p zTok) [sb] with
  | false =>
   simp only [hs, Bool.false_eq_true, if_false, Pr.run, Re.ok.injEq] at h
   obtain ⟨rfl, rfl⟩ := h
   exact ha
  | true =>
   simp only [hs, if_true, run_bind] at h
   cases hr : Pr.run l one (p + 1) with
   | out => rw [hr] at h; cases h
   | fail r => rw [hr] at h; cases h
   | ok y r =>
    rw [hr] at h
    have := run_mono l _ _ _ _ hr
    exact more_len n _ _ _ _ (by simp; omega) h
theorem some_len {α : Type} {l : List Tok} {sb : ByteArray} {one : Pr α} {n p q : Nat} {x : List α} (h : Pr.run l (some_ n sb one) p = .ok x q) : x.length ≤ q + 1 := by
 simp only [some_, run_bind] at h
 cases hr : Pr.run l one p with
 | out => rw [hr] at h; cases h
 | fail r => rw [hr] at h; cases h
 | ok y r =>
  rw [hr] at h
  exact more_len n _ _ _ _ (by simp) h
end Go.Proofs.YtjabhmepafofmaaGreatDoor
namespace Go.Proofs.YtjabhmepafofmaaGreatDoor
open Go.RowKit
def IsCells (w : World) (b : Nat) : Prop := ∃ cs t z, w.heap[b]? = some (.cells cs t z)
theorem isCells_of {w : World} {g o : Nat} {u : Value} (h : w.cell? ⟨g, o, none⟩ = some u) : IsCells w g := by
 unfold World.cell? at h
 simp only at h
 split at h
 ·
  rename_i h1
  exact ⟨_, _, _, h1⟩
 ·
  cases h
mutual
theorem Hx.keepC {ok ok' : Nat → Prop} {w w' : World} (hs : ∀ b, IsCells w b → ok b → w'.heap[b]? = w.heap[b]? ∧ ok' b) : ∀ (x : X) (v : Value), Hx ok w x v → Hx ok' w' x v
 | .lit u, v, h => by
  simp only [Hx] at h ⊢
  exact h
 | .row k l, v, h => by
  simp only [Hx] at h ⊢
  obtain ⟨a, c, e, h1, h2, hr⟩ := h
  exact ⟨a, c, e, h1, h2, Hrow.keepC hs k a 0 l hr⟩
theorem Hrow.keepC {ok ok' : Nat → Prop} {w w' : World} (hs : ∀ b, IsCells w b → ok b → w'.heap[b]? = w.heap[b]? ∧ ok' b) (k : Nat) (a : Option Addr) : ∀ (i : Nat) (l : List (List X)), Hrow ok w k a i l → Hrow ok' w' k a i l
 | _, [], _ => by simp [Hrow]
 | i, x :: r, h => by
  simp only [Hrow] at h ⊢
  obtain ⟨⟨g, off, c, e, ho, hl, hc, hk, hx⟩, hr⟩ := h
  have hlt : IsCells w g := by
   cases c with
   | nil => simp at hl; omega
   | cons u d => exact isCells_of (hc 0 u rfl)
  obtain ⟨hk', ho'⟩ := hs g hlt ho
  exact ⟨⟨g, off, c, e, ho', hl, fun j u hu => (World.cell?_of_block hk').trans (hc j u hu), hk, Hc.keepC hs x c hx⟩, Hrow.keepC hs k a (i + 1) r hr⟩
theorem Hc.keepC {ok ok' : Nat → Prop} {w w' : World} (hs : ∀ b, IsCells w b → ok b → w'.heap[b]? = w.heap[b]? ∧ ok' b) : ∀ (l : List X) (c : List Value), Hc ok w l c → Hc ok' w' l c
 | [], c, h => by
  simp only [Hc] at h ⊢
  exact h
 | x :: r, c, h => by
  simp only [Hc] at h ⊢
  obtain ⟨u, d, e, h1, h2⟩ := h
  exact ⟨u, d, e, Hx.keepC hs x u h1, Hc.keepC hs r d h2⟩
end
end Go.Proofs.YtjabhmepafofmaaGreatDoor
