/- Xpa, Xpo, Xpr, Xpt -/
import Derived.Test.YtjabhmepafofmaaGreatDoorH01
set_option linter.unusedVariables false
set_option linter.unusedSimpArgs false
namespace Go.Proofs.YtjabhmepafofmaaGreatDoor
open Go.RowKit
set_option maxHeartbeats 4000000 in
set_option maxRecDepth 100000 in
theorem patAtom_x {v : Vw} {g : Gr} (hro : g.patRound = .out ∨ ∃ n g2, g.patRound = g2.pPatRound n ∧ QOks v g2) (h : QOks v g) : QC v.dn 0 106 [] (stE xT) g.pPatAtom := qc fun e he HX => by
 have HH := Lib.hid h
 have HE := Lib.hid he
 clear h he
 simp only [Gr.pPatAtom] at HX
 have HRO := Lib.hid hro
 clear hro
 go_enter Tryz.func106, Tryz.ntmps106
 go_upto_region 1 with fail
 generalize hn : e.w.alloc _ = w1
 generalize hg : e.w.heap.size = g_r
 replace HX := alloc' HX hn hg
 clear hn hg
 go_wp2_with fail
 refine next' HX ?_; clear HX; intro w2 kt_t st_t mt_t qt_t HT_t HX
 go_upto_region 2 with fail
 generalize hn : w2.alloc _ = w3
 generalize hg : w2.heap.size = g_t
 replace HX := alloc' HX hn hg
 clear hn hg
 go_wp2_with fail
 refine sign' HX ?_; clear HX; intro w4 HX
 rw [HT_t.out]
 cases hz0 : signB ⟨kt_t, st_t, mt_t, qt_t⟩ ⟨#[95]⟩ with
 | true =>
  replace HX := pos' HX (by rw [sign_sees (by kernel_rfl)]; exact hz0)
  have hk7 := k7 hz0
  dsimp only at hk7
  have HZ := known' HX HT_t (by show kt_t ≠ 0; omega)
  clear HX
  obtain ⟨HX, hltt⟩ := HZ
  clear hk7 hz0
  go_wp2_with fail
  refine mayt' HX hltt ?_; clear HX; intro w5 HX
  have D_t := d4 (bk 0 HX rfl)
  have D_r := d4 (bk 1 HX rfl)
  go_wp2_with fail
  clear D_t D_r
  generalize hn : World.setCell _ ⟨g_r, 3, none⟩ _ = w6
  replace HX := put1 HX (pT hn)
  clear hn
  exact ret' 1 HX rfl Tryz.underlying97 (by kernel_rfl) rfl rfl rfl rfl (hcT_none 1 nob 0)
 | false =>
  replace HX := neg' HX (by rw [sign_sees (by kernel_rfl), hz0]; decide)
  clear hz0
  go_wp2_with fail
  refine mayf' HX ?_; clear HX; intro w7 HX
  have D_t := d4 (bk 0 HX rfl)
  go_wp2_with fail
  clear D_t
  by_cases hk1_t : kt_t = 1
  ·
   replace HX := pos' HX hk1_t
   have D1_t := kq (k := kt_t) (z := 1) (by omega)
   have HZ := known' HX HT_t (by show kt_t ≠ 0; omega)
   clear HX
   obtain ⟨HX, hltt⟩ := HZ
   rw [D1_t.1]
   refine mayt' HX hltt ?_; clear HX; intro w8 HX
   have D_t := d4 (bk 0 HX rfl)
   have D_r := d4 (bk 1 HX rfl)
   go_wp2_with fail
   clear D_t D_r
   generalize hn : World.setCell _ ⟨g_r, 3, none⟩ _ = w9
   replace HX := put1 HX (pT hn)
   clear hn
   exact ret' 1 HX rfl Tryz.underlying97 (by kernel_rfl) rfl rfl rfl rfl (hcT_none 2 st_t 0)
  ·
   replace HX := neg' HX hk1_t
   have D1_t := kn' (k := kt_t) (z := 1) (by omega)
   rw [D1_t.1]
   refine mayf' HX ?_; clear HX; intro w10 HX
   have D_t := d4 (bk 0 HX rfl)
   go_wp2_with fail
   clear D_t
   by_cases hk4_t : kt_t = 4
   ·
    replace HX := pos' HX hk4_t
    have D4_t := kq (k := kt_t) (z := 4) (by omega)
    have HZ := known' HX HT_t (by show kt_t ≠ 0; omega)
    clear HX
    obtain ⟨HX, hltt⟩ := HZ
    rw [D4_t.1]
    refine mayt' HX hltt ?_; clear HX; intro w11 HX
    have D_t := d4 (bk 0 HX rfl)
    have D_r := d4 (bk 1 HX rfl)
    go_wp2_with fail
    clear D_t D_r
    generalize hn : World.setCell _ ⟨g_r, 3, none⟩ _ = w12
    replace HX := put1 HX (pT hn)
    clear hn
    exact ret' 1 HX rfl Tryz.underlying97 (by kernel_rfl) rfl rfl rfl rfl (hcT_none 3 nob mt_t)
   ·
    replace HX := neg' HX hk4_t
    have D4_t := kn' (k := kt_t) (z := 4) (by omega)
    rw [D4_t.1]
    refine mayf' HX ?_; clear HX; intro w13 HX
    go_wp2_with fail
    refine sign' HX ?_; clear HX; intro w14 HX
    rw [HT_t.out]
    cases hz1 : signB ⟨kt_t, st_t, mt_t, qt_t⟩ ⟨#[126]⟩ with
    | true =>
     have hk7 := k7 hz1
     dsimp only at hk7
     have HZ := known' HX HT_t (by show kt_t ≠ 0; omega)
     clear HX
     obtain ⟨HX, hltt⟩ := HZ
     have hno : ¬ (kt_t = 2 ∨ seesB ⟨kt_t, st_t, mt_t, qt_t⟩ [⟨#[116, 114, 117, 101]⟩, ⟨#[102, 97, 108, 115, 101]⟩] = true) := by
      subst hk7
      rintro (h | h)
      · cases h
      ·
       rw [tf_eq] at h
       simp [wordB] at h
     replace HX := neg' HX hno
     clear hno
     replace HX := skipadv' HX (tk_sees HT_t (by exact hk7) (by rw [sign_sees (by kernel_rfl)]; exact hz1))
     clear hk7 hz1
     go_wp2_with fail
     refine mayt' HX hltt ?_; clear HX; intro w15 HX
     replace HX := look' (pos' HX (by decide))
     go_wp2_with fail
     refine take' HX (by decide) ?_; clear HX; intro w16 q17 b18 kt_m st_m mt_m qt_m h19 I19 HX
     go_wp2_with fail
     simp only [field49_2]
     replace HX := num' (f := fun n => T.mk 3 nob (IntKind.i64.wrap (-n)) []) (t := ⟨kt_m, st_m, mt_m, qt_m⟩) HX (fun hb => (I19.out hb).2.1)
     replace HX := as' (m' := .ret (T.mk 3 nob (wrap64 (-mt_m)) [])) HX (by rw [IntWalk.i64_left])
     have D_r := d4 (bk 1 HX rfl)
     go_wp2_with fail
     clear D_r
     generalize hn : World.setCell _ ⟨g_r, 3, none⟩ _ = w20
     replace HX := put1 HX (pT hn)
     clear hn
     exact ret' 1 HX rfl Tryz.underlying97 (by kernel_rfl) rfl rfl rfl rfl (hcT_none 3 nob (wrap64 (-mt_m)))
    | false =>
     go_wp2_with fail
     refine mayf' HX ?_; clear HX; intro w21 HX
     by_cases hk2_t : kt_t = 2
     ·
      have D2_t := kq (k := kt_t) (z := 2) (by omega)
      replace HX := pos' HX (.inl hk2_t)
      have HZ := known' HX HT_t (by show kt_t ≠ 0; omega)
      clear HX
      obtain ⟨HX, hltt⟩ := HZ
      have D_t := d4 (bk 0 HX rfl)
      go_wp2_with fail
      clear D_t
      go_wp2_with fail
      refine mayt' HX hltt ?_; clear HX; intro w22 HX
      have D_t := d4 (bk 0 HX rfl)
      have D_r := d4 (bk 1 HX rfl)
      go_wp2_with fail
      clear D_t D_r
      generalize hn : World.setCell _ ⟨g_r, 3, none⟩ _ = w23
      replace HX := put1 HX (pT hn)
      clear hn
      exact ret' 1 HX rfl Tryz.underlying97 (by kernel_rfl) rfl rfl rfl rfl (hcT_none 6 st_t 0)
     have D2_t := kn' (k := kt_t) (z := 2) (by omega)
     have D_t := d4 (bk 0 HX rfl)
     go_wp2_with fail
     clear D_t
     refine word' HX ?_; clear HX; intro w24 HX
     rw [HT_t.out]
     cases hz2 : wordB ⟨kt_t, st_t, mt_t, qt_t⟩ ⟨#[116, 114, 117, 101]⟩ with
     | true =>
      replace HX := pos' HX (.inr (by rw [tf_eq, hz2]; rfl))
      have hk6 := k6 hz2
      dsimp only at hk6
      have HZ := known' HX HT_t (by show kt_t ≠ 0; omega)
      clear HX
      obtain ⟨HX, hltt⟩ := HZ
      clear hk6 hz2
      go_wp2_with fail
      refine mayt' HX hltt ?_; clear HX; intro w25 HX
      have D_t := d4 (bk 0 HX rfl)
      have D_r := d4 (bk 1 HX rfl)
      go_wp2_with fail
      clear D_t D_r
      generalize hn : World.setCell _ ⟨g_r, 3, none⟩ _ = w26
      replace HX := put1 HX (pT hn)
      clear hn
      exact ret' 1 HX rfl Tryz.underlying97 (by kernel_rfl) rfl rfl rfl rfl (hcT_none 6 st_t 0)
     | false =>
      go_wp2_with fail
      refine word' HX ?_; clear HX; intro w27 HX
      rw [HT_t.out]
      cases hz3 : wordB ⟨kt_t, st_t, mt_t, qt_t⟩ ⟨#[102, 97, 108, 115, 101]⟩ with
      | true =>
       replace HX := pos' HX (.inr (by rw [tf_eq, hz2, hz3]; rfl))
       have hk6 := k6 hz3
       dsimp only at hk6
       have HZ := known' HX HT_t (by show kt_t ≠ 0; omega)
       clear HX
       obtain ⟨HX, hltt⟩ := HZ
       clear hk6 hz2 hz3
       go_wp2_with fail
       refine mayt' HX hltt ?_; clear HX; intro w28 HX
       have D_t := d4 (bk 0 HX rfl)
       have D_r := d4 (bk 1 HX rfl)
       go_wp2_with fail
       clear D_t D_r
       generalize hn : World.setCell _ ⟨g_r, 3, none⟩ _ = w29
       replace HX := put1 HX (pT hn)
       clear hn
       exact ret' 1 HX rfl Tryz.underlying97 (by kernel_rfl) rfl rfl rfl rfl (hcT_none 6 st_t 0)
      | false =>
       have hno : ¬ (kt_t = 2 ∨ seesB ⟨kt_t, st_t, mt_t, qt_t⟩ [⟨#[116, 114, 117, 101]⟩, ⟨#[102, 97, 108, 115, 101]⟩] = true) := by
        rintro (h | h)
        · exact hk2_t h
        ·
         rw [tf_eq, hz2, hz3] at h
         cases h
       replace HX := neg' HX hno
       clear hno
       replace HX := skipno' HX (fun hb => tk_sees2 HT_t hb (by rw [sign_sees (by kernel_rfl)]; exact hz1))
       replace HX := neg' HX (by decide)
       clear hz1 hz2 hz3 hk2_t
       go_wp2_with fail
       refine mayf' HX ?_; clear HX; intro w30 HX
       go_wp2_with fail
       refine sign' HX ?_; clear HX; intro w31 HX
       go_wp2_with fail
       refine must' HX (sign_c (by kernel_rfl)) ?_; clear HX; intro w32 q33 b34 h35 I35 HX
       go_upto_region 13 with fail
       have D_gp := d3 (bg HX)
       cases b34 with
       | true =>
        have D_r := d4 (bk 1 HX rfl)
        go_wp2_with fail
        clear D_r D_gp
        replace HX := any' (m' := .ret zT) HX
        generalize hn : World.setCell _ ⟨g_r, 3, none⟩ _ = w36
        replace HX := put1 HX (pT hn)
        clear hn
        exact ret' 1 HX rfl Tryz.underlying97 (by kernel_rfl) rfl rfl rfl rfl (hc_zT)
       | false =>
        go_wp2_with fail
        clear D_gp
        have HG := good' HX
        obtain ⟨n, g2, hro, hh⟩ := rnd' HX HRO
        simp only [hro, pPatRound_eq, some_, bind_assoc'] at HX
        replace HH := Lib.hid hh
        clear hro hh
        refine sign' HX ?_; clear HX; intro w37 HX
        go_wp2_with fail
        refine may' HX (sign_c (by kernel_rfl)) ?_ ?_
        ·
         clear HX; intro w38 h39 HX
         have D_r := d4 (bk 1 HX rfl)
         go_wp2_with fail
         clear D_r
         generalize hn : World.setCell _ ⟨g_r, 3, none⟩ _ = w40
         replace HX := put1 HX (pT hn)
         clear hn
         exact ret' 1 HX rfl Tryz.underlying97 (by kernel_rfl) rfl rfl rfl rfl (hcT_none 4 nob 0)
        ·
         clear HX; intro w41 HX
         go_wp2_with fail
         refine callT HX (HH.out.pat) (.inr HG.out) ?_; clear HX; intro w42 q43 b44 x_x _ _ _ _ _ _ h45 HX
         go_upto_region 18 with fail
         generalize hn : w42.alloc _ = w46
         generalize hg : w42.heap.size = g_arr
         replace HX := alloc' HX hn hg
         clear hn hg
         replace HX := lit' HX rfl
         replace HX := rm1 HX
         go_loopw [4] (fun u wx => ∃ (m q j : Nat) (bb : Bool) (acc : List T) (av : Option Addr) (cv : Nat), u = .slice av m cv ∧ m ≤ q + 1 ∧ q ≤ v.l.length ∧ Hid (Cx v e wx q bb [.out 97 4 (.slice av m cv) m (acc.map xT), .blk g_r [.int .u8 0, .string ⟨#[]⟩, .int .i64 0, .slice none 0 0] 97] ((more ⟨#[44]⟩ g2.pat j acc).bind patK))) (fun u _ => v.l.length + 2 - lenOf u)
         case atStart => exact ⟨1, q43, n, b44, [x_x], _, _, rfl, by omega, HX.out.le, HX⟩
         case round =>
          clear HX
          obtain ⟨m, q, j, bb, acc, av, cv, rfl, hmq, hq, HX⟩ := hrel
          have hm := few HX hmq
          obtain ⟨j2, hv⟩ := more_head rfl (ne' HX)
          replace HX := as' HX hv
          clear hv
          go_wp2_with fail
          refine sign' HX ?_; clear HX; intro w47 HX
          go_wp2_with fail
          refine may' HX (sign_c (by kernel_rfl)) ?_ ?_
          ·
           clear HX; intro w48 h49 HX
           have HG := good' HX
           go_wp2_with fail
           refine callT HX (HH.out.pat) (.inr HG.out) ?_; clear HX; intro w50 q51 b52 x_y _ _ _ _ _ _ h53 HX
           go_wp2_with (at_builtin; refine push' (alloc' HX rfl rfl) elemP (by decide) hm rfl _ _ 95 rfl Tryz.underlying95 rfl rfl (by simp [Value.oneCell']) rfl ?_; clear HX; intro a3 c3 w54 HX)
           exact ⟨⟨m + 1, q51, j2, b52, acc ++ [x_y], a3, c3, rfl, by omega, HX.out.le, snoc' HX⟩, by simp [lenOf]; omega⟩
          ·
           clear HX; intro w55 HX
           have hacc : acc.length = m := by have h := len' HX; rwa [List.length_map] at h
           replace HX := row_ HX (by decide)
           simp only [patK] at HX
           go_wp2_with fail
           refine sign' HX ?_; clear HX; intro w56 HX
           go_wp2_with fail
           refine must' HX (sign_c (by kernel_rfl)) ?_; clear HX; intro w57 q58 b59 h60 I60 HX
           go_upto_region 21 with fail
           rcases acc with _ | ⟨y1, _ | ⟨y2, yr⟩⟩
           ·
            obtain rfl : m = 0 := hacc.symm
            simp only [patK2] at HX
            have D_r := d4 (bk 1 HX rfl)
            go_wp2_with fail
            clear D_r
            generalize hn : World.setCell _ ⟨g_r, 3, none⟩ _ = w61
            replace HX := put1 HX (pT hn)
            clear hn
            exact ret' 1 HX rfl Tryz.underlying97 (by kernel_rfl) rfl rfl rfl rfl (hcT_mk 5 nob 0 (rw' 0 HX rfl))
           ·
            obtain rfl : m = 1 := hacc.symm
            simp only [patK2] at HX
            obtain ⟨g_l, o_l, _, _, _, _, _, _, rfl, D_l, HX⟩ := elT HX
            have D_r := d4 (bk 1 HX rfl)
            go_wp2_with fail
            clear D_r D_l
            generalize hn : World.setCell _ ⟨g_r, 3, none⟩ _ = w62
            replace HX := put1 HX (pT hn)
            clear hn
            exact ret' 1 HX rfl Tryz.underlying97 (by kernel_rfl) rfl rfl rfl rfl ((vl 0 HX rfl))
           ·
            have hbl : ((m : Int) == 1) = false := by
             simp only [beq_eq_false_iff_ne, ne_eq]
             simp only [List.length_cons] at hacc
             omega
            simp only [patK2] at HX
            have D_r := d4 (bk 1 HX rfl)
            go_wp2_with fail
            clear D_r
            generalize hn : World.setCell _ ⟨g_r, 3, none⟩ _ = w63
            replace HX := put1 HX (pT hn)
            clear hn
            exact ret' 1 HX rfl Tryz.underlying97 (by kernel_rfl) rfl rfl rfl rfl (hcT_mk 5 nob 0 (rw' 0 HX rfl))
end Go.Proofs.YtjabhmepafofmaaGreatDoor
namespace Go.Proofs.YtjabhmepafofmaaGreatDoor
open Go.RowKit
set_option maxHeartbeats 4000000 in
set_option maxRecDepth 100000 in
theorem post_x {v : Vw} {g : Gr} {n : Nat} (h : QOks v g) : QC v.dn 1 88 [] (stE xT) (g.pPost n) := qc fun e he HX => by
 have HH := Lib.hid h
 have HE := Lib.hid he
 clear h he
 simp only [Gr.pPost] at HX
 go_enter Tryz.func88, Tryz.ntmps88
 go_upto_region 1 with fail
 generalize hn : e.w.alloc _ = w1
 generalize hg : e.w.heap.size = g_r
 replace HX := alloc' HX hn hg
 clear hn hg
 go_wp2_with fail
 refine callT HX (HH.out.tyAtom) (rk (by decide) HE) ?_; clear HX; intro w2 q3 b4 x_a _ _ _ _ _ _ h5 HX
 go_upto_region 2 with fail
 generalize hn : w2.alloc _ = w6
 generalize hg : w2.heap.size = g_t
 replace HX := alloc' HX hn hg
 clear hn hg
 replace HX := mix0 HX
 go_loopw [] (fun wx => ∃ (q j : Nat) (bb : Bool) (x : T) (k : Nat) (sx : ByteArray) (nx : Int) (ax : Option Addr) (mx cx : Nat), posR v.gp wx = q ∧ Hid (Cx v e wx q bb [.mix g_t g_r (xT x) [.int .u8 k, .string sx, .int .i64 nx, .slice ax mx cx], .blk g_t [.int .u8 k, .string sx, .int .i64 nx, .slice ax mx cx] 40, .blk g_r [.int .u8 0, .string ⟨#[]⟩, .int .i64 0, .slice none 0 0] 40] (Gr.names j x))) (fun wx => v.l.length - posR v.gp wx)
 case atStart => exact ⟨q3, n, b4, x_a, _, _, _, _, _, _, posR_at HX.out.blk, HX⟩
 case round =>
  clear HX
  obtain ⟨q, j, bb, x, kx, sx, nx, ax, mx, cx, hpq, HX⟩ := hrel
  have hq := HX.out.le
  obtain ⟨j2, hv⟩ := names_head rfl (ne' HX)
  replace HX := as' HX hv
  clear hv
  go_wp2_with fail
  refine next' HX ?_; clear HX; intro w7 kt_t st_t mt_t qt_t HT_t HX
  go_wp2_with fail
  simp only [field49_0]
  by_cases hk1_t : kt_t = 1
  ·
   replace HX := pos' HX hk1_t
   have D1_t := kq (k := kt_t) (z := 1) (by omega)
   go_upto_region 3 with fail
   refine reg' HX (e4 (bk 1 HX rfl)) [6] (by kernel_rfl) ?_; clear HX; intro w8 HX hHeld
   refine tk 0 rfl hHeld ?_ (by kernel_rfl) (by kernel_rfl) (by exact fun _ _ _ h => h) (by (intro w h; (try dsimp only at h); go_simp; (try (with_reducible rfl))))
   try simp only [SA]
   refine tk 3 rfl hHeld ?_ (by kernel_rfl) (by kernel_rfl) (by exact fun _ _ _ h => h) (by (intro w h; (try dsimp only at h); go_simp; (try (with_reducible rfl))))
   try simp only [SA]
   refine ready_e (rs := [1, 4]) (by kernel_rfl) (by simp) ?_
   refine (do_mid (o := _) rfl (fun K hK => ?_) (do_mid (o := _) rfl (fun K hK => ?_) none_e))
   ·
    go_simp
    go_at_call 33
    refine takek' HX HT_t hk1_t (by decide) ?_; clear HX; intro w9 h10 HX
    have HG := good' HX
    refine hK.out _ _ ((e4 (bk 1 HX rfl)) _ (Fr.refl _ _)) (fun hHeld => ?_)
    clear hK K
    try dsimp only
    try simp only [SA]
    refine tkf 2 rfl hHeld ?_ (by kernel_rfl) (by kernel_rfl) (by exact fun _ _ _ h => h) (by (intro w h; (try dsimp only at h); go_simp; (try simp only [field49_0, field49_1, field49_2]); (try go_simp); (try (with_reducible rfl))))
    try simp only [SA]
    (try simp only [field49_1])
    refine rdm 4 (by kernel_rfl) rfl fun K hK => ?_
    go_simp
    generalize hn : w9.alloc _ = w11
    generalize hg : w9.heap.size = g_arr
    replace HX := alloc' HX hn hg
    clear hn hg
    refine hK.out _ _ ((e4 (bk 2 HX rfl)) _ (Fr.refl _ _)) (fun hHeld => ?_)
    clear hK K
    try dsimp only
    try simp only [SA]
    refine tk 5 rfl hHeld ?_ (by kernel_rfl) (by kernel_rfl) (by exact fun _ _ _ h => h) (by (intro w h; (try dsimp only at h); go_simp; (try (with_reducible rfl))))
    try simp only [SA]
    have D_t := d4 (bk 2 HX rfl)
    refine rdl 6 (by kernel_rfl) rfl (by kernel_rfl) fun K hK => ?_
    go_simp
    clear D_t
    generalize hn : World.setCell _ ⟨g_t, 3, none⟩ _ = w12
    replace HX := put2 HX (pT hn) ⟨.inl rfl, trivial⟩
    clear hn
    refine hK.out _ _ ?_
    clear hK K
    try dsimp only
    try simp only [SA]
    refine done_e (by kernel_rfl) ?_ _
    (try simp only [Exit.inBlock, Exit.then])
    go_wp2_with fail
    replace HX := mix1 (x' := xT (.mk 2 st_t 0 [x])) HX (hcT_mk 2 st_t 0 (mone (k := 4) HX rfl (by decide)))
    exact ⟨⟨(q + 1), j2, false, .mk 2 st_t 0 [x], 2, st_t, 0, _, _, _, posR_at HX.out.blk, HX⟩, by rw [posR_at HX.out.blk, hpq]; have := HX.out.le; omega⟩
   ·
    go_simp
    generalize hn : w8.alloc _ = w13
    generalize hg : w8.heap.size = g_arr
    replace HX := alloc' HX hn hg
    clear hn hg
    refine hK.out _ _ ((e4 (bk 2 HX rfl)) _ (Fr.refl _ _)) (fun hHeld => ?_)
    clear hK K
    try dsimp only
    try simp only [SA]
    refine rdm 1 (by kernel_rfl) rfl fun K hK => ?_
    go_simp
    go_at_call 33
    refine takek' HX HT_t hk1_t (by decide) ?_; clear HX; intro w14 h15 HX
    have HG := good' HX
    refine hK.out _ _ ((e4 (bk 2 HX rfl)) _ (Fr.refl _ _)) (fun hHeld => ?_)
    clear hK K
    try dsimp only
    try simp only [SA]
    refine tkf 2 rfl hHeld ?_ (by kernel_rfl) (by kernel_rfl) (by exact fun _ _ _ h => h) (by (intro w h; (try dsimp only at h); go_simp; (try simp only [field49_0, field49_1, field49_2]); (try go_simp); (try (with_reducible rfl))))
    try simp only [SA]
    (try simp only [field49_1])
    refine tk 5 rfl hHeld ?_ (by kernel_rfl) (by kernel_rfl) (by exact fun _ _ _ h => h) (by (intro w h; (try dsimp only at h); go_simp; (try (with_reducible rfl))))
    try simp only [SA]
    have D_t := d4 (bk 2 HX rfl)
    refine rdl 6 (by kernel_rfl) rfl (by kernel_rfl) fun K hK => ?_
    go_simp
    clear D_t
    generalize hn : World.setCell _ ⟨g_t, 3, none⟩ _ = w16
    replace HX := put2 HX (pT hn) ⟨.inl rfl, trivial⟩
    clear hn
    refine hK.out _ _ ?_
    clear hK K
    try dsimp only
    try simp only [SA]
    refine done_e (by kernel_rfl) ?_ _
    (try simp only [Exit.inBlock, Exit.then])
    go_wp2_with fail
    replace HX := mix1 (x' := xT (.mk 2 st_t 0 [x])) HX (hcT_mk 2 st_t 0 (mone (k := 4) HX rfl (by decide)))
    exact ⟨⟨(q + 1), j2, false, .mk 2 st_t 0 [x], 2, st_t, 0, _, _, _, posR_at HX.out.blk, HX⟩, by rw [posR_at HX.out.blk, hpq]; have := HX.out.le; omega⟩
  ·
   replace HX := neg' HX hk1_t
   have D1_t := kn' (k := kt_t) (z := 1) (by omega)
   have D_t := d4 (bk 1 HX rfl)
   have D_r := d4 (bk 2 HX rfl)
   go_wp2_with fail
   clear D_t D_r
   generalize hn : World.setCell _ ⟨g_r, 3, none⟩ _ = w17
   replace HX := put2 HX (pT hn) ⟨.inr rfl, trivial⟩
   clear hn
   exact ret' 2 HX rfl Tryz.underlying40 (by kernel_rfl) rfl rfl rfl rfl (vm HX)
end Go.Proofs.YtjabhmepafofmaaGreatDoor
namespace Go.Proofs.YtjabhmepafofmaaGreatDoor
open Go.RowKit
set_option maxHeartbeats 4000000 in
set_option maxRecDepth 100000 in
theorem prefix_x {v : Vw} {g : Gr} (h : QOks v g) : QC v.dn 1 99 [] (stE xE) g.pPrefix := qc fun e he HX => by
 have HH := Lib.hid h
 have HE := Lib.hid he
 clear h he
 simp only [Gr.pPrefix] at HX
 go_enter Tryz.func99, Tryz.ntmps99
 go_upto_region 1 with fail
 generalize hn : e.w.alloc _ = w1
 generalize hg : e.w.heap.size = g_r
 replace HX := alloc' HX hn hg
 clear hn hg
 go_wp2_with fail
 refine next' HX ?_; clear HX; intro w2 kt_t st_t mt_t qt_t HT_t HX
 go_upto_region 2 with fail
 generalize hn : w2.alloc _ = w3
 generalize hg : w2.heap.size = g_t
 replace HX := alloc' HX hn hg
 clear hn hg
 go_wp2_with fail
 refine sign' HX ?_; clear HX; intro w4 HX
 cases hz : signB (rtok v.l e.p e.b) ⟨#[33]⟩ with
 | true =>
  go_wp2_with fail
  refine may' HX (nt1 hz) ?_ ?_
  ·
   clear HX; intro w5 h6 HX
   have HG := good' HX
   go_upto_region 3 with fail
   refine reg' HX (e4 (bk 0 HX rfl)) [6] (by kernel_rfl) ?_; clear HX; intro w7 HX hHeld
   refine tk 0 rfl hHeld ?_ (by kernel_rfl) (by kernel_rfl) (by exact fun _ _ _ h => h) (by (intro w h; (try dsimp only at h); go_simp; (try (with_reducible rfl))))
   try simp only [SA]
   refine tk 1 rfl hHeld ?_ (by kernel_rfl) (by kernel_rfl) (by exact fun _ _ _ h => h) (by (intro w h; (try dsimp only at h); go_simp; (try (with_reducible rfl))))
   try simp only [SA]
   refine tk 2 rfl hHeld ?_ (by kernel_rfl) (by kernel_rfl) (by exact fun _ _ _ h => h) (by (intro w h; (try dsimp only at h); go_simp; (try (with_reducible rfl))))
   try simp only [SA]
   refine rdm 3 (by kernel_rfl) rfl fun K hK => ?_
   go_simp
   go_at_call 99
   refine callE HX (HH.out.prefix_) (.inr HG.out) ?_; clear HX; intro w8 q9 b10 x_e _ _ _ _ _ _ _ _ _ _ _ _ _ h11 HX
   refine hK.out _ _ ((e4 (bk 1 HX rfl)) _ (Fr.refl _ _)) (fun hHeld => ?_)
   clear hK K
   try dsimp only
   try simp only [SA]
   refine rdm 4 (by kernel_rfl) rfl fun K hK => ?_
   go_simp
   generalize hn : w8.alloc _ = w12
   generalize hg : w8.heap.size = g_arr
   replace HX := alloc' HX hn hg
   clear hn hg
   refine hK.out _ _ ((e4 (bk 2 HX rfl)) _ (Fr.refl _ _)) (fun hHeld => ?_)
   clear hK K
   try dsimp only
   try simp only [SA]
   refine tk 5 rfl hHeld ?_ (by kernel_rfl) (by kernel_rfl) (by exact fun _ _ _ h => h) (by (intro w h; (try dsimp only at h); go_simp; (try (with_reducible rfl))))
   try simp only [SA]
   have D_r := d7 (bk 3 HX rfl)
   refine rdl 6 (by kernel_rfl) rfl (by kernel_rfl) fun K hK => ?_
   go_simp
   clear D_r
   generalize hn : World.setCell _ ⟨g_r, 6, none⟩ _ = w13
   replace HX := put3 HX (pE hn)
   clear hn
   refine hK.out _ _ ?_
   clear hK K
   try dsimp only
   try simp only [SA]
   refine done_e (by kernel_rfl) ?_ _
   (try simp only [Exit.inBlock, Exit.then])
   go_wp2_with fail
   exact ret' 3 HX rfl Tryz.underlying44 (by kernel_rfl) rfl rfl rfl rfl (hcE_kids 15 st_t 0 nob (one' 0 1 HX rfl rfl rfl (by decide)))
  ·
   clear HX; intro w14 HX
   go_wp2_with fail
   replace HX := tail' HX
   refine callE HX (HH.out.atom) (rk (by decide) HE) ?_; clear HX; intro w15 q16 b17 x_e _ _ _ _ _ _ _ _ _ _ _ _ _ h18 HX
   have D_r := d7 (bk 2 HX rfl)
   go_wp2_with fail
   clear D_r
   generalize hn : World.setCell _ ⟨g_r, 6, none⟩ _ = w19
   replace HX := put2 HX (pE hn)
   clear hn
   exact ret' 2 HX rfl Tryz.underlying44 (by kernel_rfl) rfl rfl rfl rfl ((vl 0 HX rfl))
 | false =>
  go_wp2_with fail
  refine sign' HX ?_; clear HX; intro w20 HX
  go_wp2_with fail
  refine may' HX (nt2 hz) ?_ ?_
  ·
   clear HX; intro w21 h22 HX
   have HG := good' HX
   go_upto_region 3 with fail
   refine reg' HX (e4 (bk 0 HX rfl)) [6] (by kernel_rfl) ?_; clear HX; intro w23 HX hHeld
   refine tk 0 rfl hHeld ?_ (by kernel_rfl) (by kernel_rfl) (by exact fun _ _ _ h => h) (by (intro w h; (try dsimp only at h); go_simp; (try (with_reducible rfl))))
   try simp only [SA]
   refine tk 1 rfl hHeld ?_ (by kernel_rfl) (by kernel_rfl) (by exact fun _ _ _ h => h) (by (intro w h; (try dsimp only at h); go_simp; (try (with_reducible rfl))))
   try simp only [SA]
   refine tk 2 rfl hHeld ?_ (by kernel_rfl) (by kernel_rfl) (by exact fun _ _ _ h => h) (by (intro w h; (try dsimp only at h); go_simp; (try (with_reducible rfl))))
   try simp only [SA]
   refine rdm 3 (by kernel_rfl) rfl fun K hK => ?_
   go_simp
   go_at_call 99
   refine callE HX (HH.out.prefix_) (.inr HG.out) ?_; clear HX; intro w24 q25 b26 x_e _ _ _ _ _ _ _ _ _ _ _ _ _ h27 HX
   refine hK.out _ _ ((e4 (bk 1 HX rfl)) _ (Fr.refl _ _)) (fun hHeld => ?_)
   clear hK K
   try dsimp only
   try simp only [SA]
   refine rdm 4 (by kernel_rfl) rfl fun K hK => ?_
   go_simp
   generalize hn : w24.alloc _ = w28
   generalize hg : w24.heap.size = g_arr
   replace HX := alloc' HX hn hg
   clear hn hg
   refine hK.out _ _ ((e4 (bk 2 HX rfl)) _ (Fr.refl _ _)) (fun hHeld => ?_)
   clear hK K
   try dsimp only
   try simp only [SA]
   refine tk 5 rfl hHeld ?_ (by kernel_rfl) (by kernel_rfl) (by exact fun _ _ _ h => h) (by (intro w h; (try dsimp only at h); go_simp; (try (with_reducible rfl))))
   try simp only [SA]
   have D_r := d7 (bk 3 HX rfl)
   refine rdl 6 (by kernel_rfl) rfl (by kernel_rfl) fun K hK => ?_
   go_simp
   clear D_r
   generalize hn : World.setCell _ ⟨g_r, 6, none⟩ _ = w29
   replace HX := put3 HX (pE hn)
   clear hn
   refine hK.out _ _ ?_
   clear hK K
   try dsimp only
   try simp only [SA]
   refine done_e (by kernel_rfl) ?_ _
   (try simp only [Exit.inBlock, Exit.then])
   go_wp2_with fail
   exact ret' 3 HX rfl Tryz.underlying44 (by kernel_rfl) rfl rfl rfl rfl (hcE_kids 15 st_t 0 nob (one' 0 1 HX rfl rfl rfl (by decide)))
  ·
   clear HX; intro w30 HX
   go_wp2_with fail
   replace HX := tail' HX
   refine callE HX (HH.out.atom) (rk (by decide) HE) ?_; clear HX; intro w31 q32 b33 x_e _ _ _ _ _ _ _ _ _ _ _ _ _ h34 HX
   have D_r := d7 (bk 2 HX rfl)
   go_wp2_with fail
   clear D_r
   generalize hn : World.setCell _ ⟨g_r, 6, none⟩ _ = w35
   replace HX := put2 HX (pE hn)
   clear hn
   exact ret' 2 HX rfl Tryz.underlying44 (by kernel_rfl) rfl rfl rfl rfl ((vl 0 HX rfl))
end Go.Proofs.YtjabhmepafofmaaGreatDoor
namespace Go.Proofs.YtjabhmepafofmaaGreatDoor
open Go.RowKit
set_option maxHeartbeats 4000000 in
set_option maxRecDepth 100000 in
theorem pat_x {v : Vw} {g : Gr} (h : QOks v g) : QC v.dn 1 98 [] (stE xT) g.pPat := qc fun e he HX => by
 have HH := Lib.hid h
 have HE := Lib.hid he
 clear h he
 simp only [Gr.pPat] at HX
 go_enter Tryz.func98, Tryz.ntmps98
 go_upto_region 1 with fail
 generalize hn : e.w.alloc _ = w1
 generalize hg : e.w.heap.size = g_r
 replace HX := alloc' HX hn hg
 clear hn hg
 go_wp2_with fail
 refine next' HX ?_; clear HX; intro w2 kt_t st_t mt_t qt_t HT_t HX
 go_wp2_with fail
 simp only [field49_0]
 by_cases hk2_t : kt_t = 2
 ·
  replace HX := pos' HX hk2_t
  have D2_t := kq (k := kt_t) (z := 2) (by omega)
  go_wp2_with fail
  refine takek' HX HT_t hk2_t (by decide) ?_; clear HX; intro w3 h4 HX
  have HG := good' HX
  go_wp2_with fail
  simp only [field49_1]
  go_upto_region 4 with fail
  generalize hn : w3.alloc _ = w5
  generalize hg : w3.heap.size = g_t
  replace HX := alloc' HX hn hg
  clear hn hg
  go_wp2_with fail
  refine next' HX ?_; clear HX; intro w6 kt_k st_k mt_k qt_k HT_k HX
  go_wp2_with fail
  simp only [field49_0]
  have HE2 := Lib.hid (pat_eq ⟨kt_k, st_k, mt_k, qt_k⟩)
  by_cases hor : kt_k = 1 ∨ kt_k = 4 ∨ kt_k = 2
  ·
   replace HX := pos' HX (by rw [HE2.out]; rcases hor with h | h | h <;> subst h <;> simp)
   clear HE2
   rcases hor with hk | hk | hk <;> subst hk
   all_goals
    go_wp2_with fail
    refine callT HX (HH.out.patAtom) (.inr HG.out) ?_; clear HX; intro w7 q8 b9 x_x _ _ _ _ _ _ h10 HX
    have D_t := d4 (bk 1 HX rfl)
    have hl := lt_of_block (bk 1 HX rfl)
    go_upto_region 9 with fail
    clear D_t
    clear hl
    generalize hg : w7.heap.size = g_arr
    generalize hn : World.setCell _ ⟨g_t, 3, none⟩ _ = w11
    generalize hm : w11.alloc _ = w12
    replace HX := late1 HX hg (pT3 hn) hm
    clear hg hn hm
    have D_t := d4 (bk 2 HX rfl)
    have D_r := d4 (bk 3 HX rfl)
    go_wp2_with fail
    clear D_t D_r
    generalize hn : World.setCell _ ⟨g_r, 3, none⟩ _ = w13
    replace HX := put3 HX (pT hn)
    clear hn
    exact ret' 3 HX rfl Tryz.underlying97 (by kernel_rfl) rfl rfl rfl rfl (hcT_mk 6 st_t 0 (one' 0 1 HX rfl rfl rfl (by decide)))
  have D1 := kn' (k := kt_k) (z := 1) (by omega)
  have D2 := kn' (k := kt_k) (z := 2) (by omega)
  have D4 := kn' (k := kt_k) (z := 4) (by omega)
  obtain ⟨z, hz⟩ : ∃ z, (signB ⟨kt_k, st_k, mt_k, qt_k⟩ ⟨#[95]⟩ || (signB ⟨kt_k, st_k, mt_k, qt_k⟩ ⟨#[126]⟩ || (signB ⟨kt_k, st_k, mt_k, qt_k⟩ ⟨#[40]⟩ || (wordB ⟨kt_k, st_k, mt_k, qt_k⟩ ⟨#[116, 114, 117, 101]⟩ || wordB ⟨kt_k, st_k, mt_k, qt_k⟩ ⟨#[102, 97, 108, 115, 101]⟩)))) = z := ⟨_, rfl⟩
  have hpb : Gr.patB ⟨kt_k, st_k, mt_k, qt_k⟩ = z := by
   have h1 : ¬ kt_k = 1 := fun h => hor (.inl h)
   have h2 : ¬ kt_k = 4 := fun h => hor (.inr (.inl h))
   have h3 : ¬ kt_k = 2 := fun h => hor (.inr (.inr h))
   rw [HE2.out, ← hz]
   simp [h1, h2, h3]
  rw [hpb] at HX
  clear hpb HE2 hor
  go_upto_region 10 with fail
  go_cut [43] from 26 to 42 (fun u wx => u = .bool z ∧ Hid (Fr No w6 wx))
  case first =>
   have HFL : Hid (Fr No w6 w6) := Lib.hid (Fr.refl _ _)
   have HPQ := Lib.hid HX.out.par
   go_wp2_with fail
   refine (signr (HPQ.out.no HFL.out) ⟨#[95]⟩).mono ?_
   rintro _ wS0 ⟨rfl, hf⟩
   replace HFL := Lib.hid (HFL.out.then hf)
   clear hf
   rw [HT_k.out]
   cases hz0 : signB ⟨kt_k, st_k, mt_k, qt_k⟩ ⟨#[95]⟩ with
   | true =>
    have HV9 : Hid (z = true) := Lib.hid (by rw [← hz, hz0]; rfl)
    clear hz0 hz
    go_wp2_with fail
    go_meet
    exact ⟨by rw [HV9.out], HFL⟩
   | false =>
    go_wp2_with fail
    refine (signr (HPQ.out.no HFL.out) ⟨#[126]⟩).mono ?_
    rintro _ wS1 ⟨rfl, hf⟩
    replace HFL := Lib.hid (HFL.out.then hf)
    clear hf
    rw [HT_k.out]
    cases hz1 : signB ⟨kt_k, st_k, mt_k, qt_k⟩ ⟨#[126]⟩ with
    | true =>
     have HV9 : Hid (z = true) := Lib.hid (by rw [← hz, hz0, hz1]; rfl)
     clear hz0 hz1 hz
     go_wp2_with fail
     go_meet
     exact ⟨by rw [HV9.out], HFL⟩
    | false =>
     go_wp2_with fail
     refine (signr (HPQ.out.no HFL.out) ⟨#[40]⟩).mono ?_
     rintro _ wS2 ⟨rfl, hf⟩
     replace HFL := Lib.hid (HFL.out.then hf)
     clear hf
     rw [HT_k.out]
     cases hz2 : signB ⟨kt_k, st_k, mt_k, qt_k⟩ ⟨#[40]⟩ with
     | true =>
      have HV9 : Hid (z = true) := Lib.hid (by rw [← hz, hz0, hz1, hz2]; rfl)
      clear hz0 hz1 hz2 hz
      go_wp2_with fail
      go_meet
      exact ⟨by rw [HV9.out], HFL⟩
     | false =>
      go_wp2_with fail
      refine (wordr (HPQ.out.no HFL.out) ⟨#[116, 114, 117, 101]⟩).mono ?_
      rintro _ wS3 ⟨rfl, hf⟩
      replace HFL := Lib.hid (HFL.out.then hf)
      clear hf
      rw [HT_k.out]
      cases hz3 : wordB ⟨kt_k, st_k, mt_k, qt_k⟩ ⟨#[116, 114, 117, 101]⟩ with
      | true =>
       have HV9 : Hid (z = true) := Lib.hid (by rw [← hz, hz0, hz1, hz2, hz3]; rfl)
       clear hz0 hz1 hz2 hz3 hz
       go_wp2_with fail
       go_meet
       exact ⟨by rw [HV9.out], HFL⟩
      | false =>
       go_wp2_with fail
       refine (wordr (HPQ.out.no HFL.out) ⟨#[102, 97, 108, 115, 101]⟩).mono ?_
       rintro _ wS4 ⟨rfl, hf⟩
       replace HFL := Lib.hid (HFL.out.then hf)
       clear hf
       rw [HT_k.out]
       cases hz4 : wordB ⟨kt_k, st_k, mt_k, qt_k⟩ ⟨#[102, 97, 108, 115, 101]⟩ with
       | true =>
        have HV9 : Hid (z = true) := Lib.hid (by rw [← hz, hz0, hz1, hz2, hz3, hz4]; rfl)
        clear hz0 hz1 hz2 hz3 hz4 hz
        go_wp2_with fail
        go_meet
        exact ⟨by rw [HV9.out], HFL⟩
       | false =>
        have HV9 : Hid (z = false) := Lib.hid (by rw [← hz, hz0, hz1, hz2, hz3, hz4]; rfl)
        clear hz0 hz1 hz2 hz3 hz4 hz
        go_wp2_with fail
        go_meet
        exact ⟨by rw [HV9.out], HFL⟩
  case rest =>
   obtain ⟨rfl, hf⟩ := hcut
   clear hz
   replace HX := no' HX hf.out
   clear hf
   cases z with
   | true =>
    replace HX := pos' HX (by decide)
    go_wp2_with fail
    refine callT HX (HH.out.patAtom) (.inr HG.out) ?_; clear HX; intro w14 q15 b16 x_x _ _ _ _ _ _ h17 HX
    have D_t := d4 (bk 1 HX rfl)
    have hl := lt_of_block (bk 1 HX rfl)
    go_upto_region 12 with fail
    clear D_t
    clear hl
    generalize hg : w14.heap.size = g_arr
    generalize hn : World.setCell _ ⟨g_t, 3, none⟩ _ = w18
    generalize hm : w18.alloc _ = w19
    replace HX := late1 HX hg (pT3 hn) hm
    clear hg hn hm
    have D_t := d4 (bk 2 HX rfl)
    have D_r := d4 (bk 3 HX rfl)
    go_wp2_with fail
    clear D_t D_r
    generalize hn : World.setCell _ ⟨g_r, 3, none⟩ _ = w20
    replace HX := put3 HX (pT hn)
    clear hn
    exact ret' 3 HX rfl Tryz.underlying97 (by kernel_rfl) rfl rfl rfl rfl (hcT_mk 6 st_t 0 (one' 0 1 HX rfl rfl rfl (by decide)))
   | false =>
    replace HX := neg' HX (by decide)
    have D_t := d4 (bk 0 HX rfl)
    have D_r := d4 (bk 1 HX rfl)
    go_wp2_with fail
    clear D_t D_r
    generalize hn : World.setCell _ ⟨g_r, 3, none⟩ _ = w21
    replace HX := put1 HX (pT hn)
    clear hn
    exact ret' 1 HX rfl Tryz.underlying97 (by kernel_rfl) rfl rfl rfl rfl (hcT_none 6 st_t 0)
 ·
  replace HX := neg' HX hk2_t
  have D2_t := kn' (k := kt_t) (z := 2) (by omega)
  go_wp2_with fail
  replace HX := tail' HX
  refine callT HX (HH.out.patAtom) (rk (by decide) HE) ?_; clear HX; intro w22 q23 b24 x_x _ _ _ _ _ _ h25 HX
  have D_r := d4 (bk 1 HX rfl)
  go_wp2_with fail
  clear D_r
  generalize hn : World.setCell _ ⟨g_r, 3, none⟩ _ = w26
  replace HX := put1 HX (pT hn)
  clear hn
  exact ret' 1 HX rfl Tryz.underlying97 (by kernel_rfl) rfl rfl rfl rfl ((vl 0 HX rfl))
end Go.Proofs.YtjabhmepafofmaaGreatDoor
