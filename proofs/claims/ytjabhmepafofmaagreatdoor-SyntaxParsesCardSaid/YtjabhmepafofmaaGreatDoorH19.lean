/- Xro, Xrs, Xru, Xty -/
import Derived.Test.YtjabhmepafofmaaGreatDoorH01
set_option linter.unusedVariables false
set_option linter.unusedSimpArgs false
namespace Go.Proofs.YtjabhmepafofmaaGreatDoor
open Go.RowKit
set_option maxHeartbeats 4000000 in
set_option maxRecDepth 100000 in
theorem row_x {v : Vw} {g : Gr} {n : Nat} (h : QOks v g) : QC v.dn 2 61 [] (stE xT) (g.pRow n) := qc fun e he HX => by
 have HH := Lib.hid h
 have HE := Lib.hid he
 clear h he
 simp only [pRow_eq, some_, bind_assoc'] at HX
 go_enter Tryz.func61, Tryz.ntmps61
 go_upto_region 1 with fail
 generalize hn : e.w.alloc _ = w1
 generalize hg : e.w.heap.size = g_r
 replace HX := alloc' HX hn hg
 clear hn hg
 go_wp2_with fail
 refine callT HX (HH.out.post) (rk (by decide) HE) ?_; clear HX; intro w2 q3 b4 x_x _ _ _ _ _ _ h5 HX
 go_upto_region 2 with fail
 generalize hn : w2.alloc _ = w6
 generalize hg : w2.heap.size = g_arr
 replace HX := alloc' HX hn hg
 clear hn hg
 replace HX := lit' HX rfl
 go_loopw [3] (fun u wx => ∃ (m q j : Nat) (bb : Bool) (acc : List T) (av : Option Addr) (cv : Nat), u = .slice av m cv ∧ m ≤ q + 1 ∧ q ≤ v.l.length ∧ Hid (Cx v e wx q bb [.out 40 4 (.slice av m cv) m (acc.map xT), .blk g_r [.int .u8 0, .string ⟨#[]⟩, .int .i64 0, .slice none 0 0] 40] ((more ⟨#[42]⟩ g.post j acc).bind rowK))) (fun u _ => v.l.length + 2 - lenOf u)
 case atStart => exact ⟨1, q3, n, b4, [x_x], _, _, rfl, by omega, HX.out.le, HX⟩
 case round =>
  clear HX
  obtain ⟨m, q, j, bb, acc, av, cv, rfl, hmq, hq, HX⟩ := hrel
  have hm := few HX hmq
  obtain ⟨j2, hv⟩ := more_head rfl (ne' HX)
  replace HX := as' HX hv
  clear hv
  go_wp2_with fail
  refine sign' HX ?_; clear HX; intro w7 HX
  go_wp2_with fail
  refine may' HX (sign_c (by kernel_rfl)) ?_ ?_
  ·
   clear HX; intro w8 h9 HX
   have HG := good' HX
   go_wp2_with fail
   refine callT HX (HH.out.post) (.inr HG.out) ?_; clear HX; intro w10 q11 b12 x_y _ _ _ _ _ _ h13 HX
   go_wp2_with (at_builtin; refine push' (alloc' HX rfl rfl) elemT (by decide) hm rfl _ _ 38 rfl Tryz.underlying38 rfl rfl (by simp [Value.oneCell']) rfl ?_; clear HX; intro a3 c3 w14 HX)
   exact ⟨⟨m + 1, q11, j2, b12, acc ++ [x_y], a3, c3, rfl, by omega, HX.out.le, snoc' HX⟩, by simp [lenOf]; omega⟩
  ·
   clear HX; intro w15 HX
   have hacc : acc.length = m := by have h := len' HX; rwa [List.length_map] at h
   replace HX := row_ HX (by decide)
   go_upto_region 4 with fail
   rcases acc with _ | ⟨y1, _ | ⟨y2, yr⟩⟩
   ·
    obtain rfl : m = 0 := hacc.symm
    simp only [rowK] at HX
    have D_r := d4 (bk 1 HX rfl)
    go_wp2_with fail
    clear D_r
    generalize hn : World.setCell _ ⟨g_r, 3, none⟩ _ = w16
    replace HX := put1 HX (pT hn)
    clear hn
    exact ret' 1 HX rfl Tryz.underlying40 (by kernel_rfl) rfl rfl rfl rfl (hcT_mk 4 nob 0 (rw' 0 HX rfl))
   ·
    obtain rfl : m = 1 := hacc.symm
    simp only [rowK] at HX
    obtain ⟨g_l, o_l, _, _, _, _, _, _, rfl, D_l, HX⟩ := elT HX
    have D_r := d4 (bk 1 HX rfl)
    go_wp2_with fail
    clear D_r D_l
    generalize hn : World.setCell _ ⟨g_r, 3, none⟩ _ = w17
    replace HX := put1 HX (pT hn)
    clear hn
    exact ret' 1 HX rfl Tryz.underlying40 (by kernel_rfl) rfl rfl rfl rfl ((vl 0 HX rfl))
   ·
    have hbl : ((m : Int) == 1) = false := by
     simp only [beq_eq_false_iff_ne, ne_eq]
     simp only [List.length_cons] at hacc
     omega
    simp only [rowK] at HX
    have D_r := d4 (bk 1 HX rfl)
    go_wp2_with fail
    clear D_r
    generalize hn : World.setCell _ ⟨g_r, 3, none⟩ _ = w18
    replace HX := put1 HX (pT hn)
    clear hn
    exact ret' 1 HX rfl Tryz.underlying40 (by kernel_rfl) rfl rfl rfl rfl (hcT_mk 4 nob 0 (rw' 0 HX rfl))
set_option maxHeartbeats 4000000 in
set_option maxRecDepth 100000 in
theorem tyAtom_x {v : Vw} {g : Gr} {n : Nat} (h : QOks v g) : QC v.dn 0 101 [] (stE xT) (g.pTyAtom n) := qc fun e he HX => by
 have HH := Lib.hid h
 have HE := Lib.hid he
 clear h he
 simp only [pTyAtom_eq, some_, bind_assoc'] at HX
 go_enter Tryz.func101, Tryz.ntmps101
 go_upto_region 1 with fail
 generalize hn : e.w.alloc _ = w1
 generalize hg : e.w.heap.size = g_r
 replace HX := alloc' HX hn hg
 clear hn hg
 go_wp2_with fail
 refine next' HX ?_; clear HX; intro w2 kt_t st_t mt_t qt_t HT_t HX
 go_wp2_with fail
 simp only [field49_0]
 by_cases hk3_t : kt_t = 3
 ·
  replace HX := pos' HX hk3_t
  have D3_t := kq (k := kt_t) (z := 3) (by omega)
  go_wp2_with fail
  refine takek' HX HT_t hk3_t (by decide) ?_; clear HX; intro w3 h4 HX
  have HG := good' HX
  go_wp2_with fail
  simp only [field49_1]
  have D_r := d4 (bk 0 HX rfl)
  go_wp2_with fail
  clear D_r
  generalize hn : World.setCell _ ⟨g_r, 3, none⟩ _ = w5
  replace HX := put0 HX (pT hn)
  clear hn
  exact ret' 0 HX rfl Tryz.underlying40 (by kernel_rfl) rfl rfl rfl rfl (hcT_none 1 st_t 0)
 ·
  replace HX := neg' HX hk3_t
  have D3_t := kn' (k := kt_t) (z := 3) (by omega)
  go_wp2_with fail
  refine seen' HX HT_t ?_; clear HX; intro w6 HX
  go_wp2_with fail
  simp only [field49_0]
  by_cases hk1_t : kt_t = 1
  ·
   replace HX := pos' HX hk1_t
   have D1_t := kq (k := kt_t) (z := 1) (by omega)
   go_wp2_with fail
   refine takek' HX HT_t hk1_t (by decide) ?_; clear HX; intro w7 h8 HX
   have HG := good' HX
   go_wp2_with fail
   simp only [field49_1]
   have D_r := d4 (bk 0 HX rfl)
   go_wp2_with fail
   clear D_r
   generalize hn : World.setCell _ ⟨g_r, 3, none⟩ _ = w9
   replace HX := put0 HX (pT hn)
   clear hn
   exact ret' 0 HX rfl Tryz.underlying40 (by kernel_rfl) rfl rfl rfl rfl (hcT_none 2 st_t 0)
  ·
   replace HX := neg' HX hk1_t
   have D1_t := kn' (k := kt_t) (z := 1) (by omega)
   go_wp2_with fail
   refine sign' HX ?_; clear HX; intro w10 HX
   go_wp2_with fail
   refine must' HX (sign_c (by kernel_rfl)) ?_; clear HX; intro w11 q12 b13 h14 I14 HX
   go_upto_region 6 with fail
   have D_gp := d3 (bg HX)
   cases b13 with
   | true =>
    have D_r := d4 (bk 0 HX rfl)
    go_wp2_with fail
    clear D_r D_gp
    replace HX := any' (m' := .ret zT) HX
    generalize hn : World.setCell _ ⟨g_r, 3, none⟩ _ = w15
    replace HX := put0 HX (pT hn)
    clear hn
    exact ret' 0 HX rfl Tryz.underlying40 (by kernel_rfl) rfl rfl rfl rfl (hc_zT)
   | false =>
    go_wp2_with fail
    clear D_gp
    have HG := good' HX
    refine callT HX (HH.out.ty) (.inr HG.out) ?_; clear HX; intro w16 q17 b18 x_x _ _ _ _ _ _ h19 HX
    go_upto_region 9 with fail
    generalize hn : w16.alloc _ = w20
    generalize hg : w16.heap.size = g_arr
    replace HX := alloc' HX hn hg
    clear hn hg
    replace HX := lit' HX rfl
    go_loopw [3] (fun u wx => ∃ (m q j : Nat) (bb : Bool) (acc : List T) (av : Option Addr) (cv : Nat), u = .slice av m cv ∧ m ≤ q + 1 ∧ q ≤ v.l.length ∧ Hid (Cx v e wx q bb [.out 40 4 (.slice av m cv) m (acc.map xT), .blk g_r [.int .u8 0, .string ⟨#[]⟩, .int .i64 0, .slice none 0 0] 40] ((more ⟨#[44]⟩ g.ty j acc).bind tyK))) (fun u _ => v.l.length + 2 - lenOf u)
    case atStart => exact ⟨1, q17, n, b18, [x_x], _, _, rfl, by omega, HX.out.le, HX⟩
    case round =>
     clear HX
     obtain ⟨m, q, j, bb, acc, av, cv, rfl, hmq, hq, HX⟩ := hrel
     have hm := few HX hmq
     obtain ⟨j2, hv⟩ := more_head rfl (ne' HX)
     replace HX := as' HX hv
     clear hv
     go_wp2_with fail
     refine sign' HX ?_; clear HX; intro w21 HX
     go_wp2_with fail
     refine may' HX (sign_c (by kernel_rfl)) ?_ ?_
     ·
      clear HX; intro w22 h23 HX
      have HG := good' HX
      go_wp2_with fail
      refine callT HX (HH.out.ty) (.inr HG.out) ?_; clear HX; intro w24 q25 b26 x_y _ _ _ _ _ _ h27 HX
      go_wp2_with (at_builtin; refine push' (alloc' HX rfl rfl) elemT (by decide) hm rfl _ _ 38 rfl Tryz.underlying38 rfl rfl (by simp [Value.oneCell']) rfl ?_; clear HX; intro a3 c3 w28 HX)
      exact ⟨⟨m + 1, q25, j2, b26, acc ++ [x_y], a3, c3, rfl, by omega, HX.out.le, snoc' HX⟩, by simp [lenOf]; omega⟩
     ·
      clear HX; intro w29 HX
      have hacc : acc.length = m := by have h := len' HX; rwa [List.length_map] at h
      replace HX := row_ HX (by decide)
      simp only [tyK] at HX
      go_wp2_with fail
      refine sign' HX ?_; clear HX; intro w30 HX
      go_wp2_with fail
      refine must' HX (sign_c (by kernel_rfl)) ?_; clear HX; intro w31 q32 b33 h34 I34 HX
      go_upto_region 12 with fail
      rcases acc with _ | ⟨y1, _ | ⟨y2, yr⟩⟩
      ·
       obtain rfl : m = 0 := hacc.symm
       simp only [tyK2] at HX
       go_wp2_with fail
       refine take' HX (by decide) ?_; clear HX; intro w35 q36 b37 kt_n st_n mt_n qt_n h38 I38 HX
       go_wp2_with fail
       simp only [field49_1]
       have D_r := d4 (bk 1 HX rfl)
       go_wp2_with fail
       clear D_r
       generalize hn : World.setCell _ ⟨g_r, 3, none⟩ _ = w39
       replace HX := put1 HX (pT hn)
       clear hn
       exact ret' 1 HX rfl Tryz.underlying40 (by kernel_rfl) rfl rfl rfl rfl (hcT_mk 2 st_n 0 (rw' 0 HX rfl))
      ·
       obtain rfl : m = 1 := hacc.symm
       simp only [tyK2] at HX
       obtain ⟨g_l, o_l, _, _, _, _, _, _, rfl, D_l, HX⟩ := elT HX
       have D_r := d4 (bk 1 HX rfl)
       go_wp2_with fail
       clear D_r D_l
       generalize hn : World.setCell _ ⟨g_r, 3, none⟩ _ = w40
       replace HX := put1 HX (pT hn)
       clear hn
       exact ret' 1 HX rfl Tryz.underlying40 (by kernel_rfl) rfl rfl rfl rfl ((vl 0 HX rfl))
      ·
       have hbl : ((m : Int) == 1) = false := by
        simp only [beq_eq_false_iff_ne, ne_eq]
        simp only [List.length_cons] at hacc
        omega
       simp only [tyK2] at HX
       go_wp2_with fail
       refine take' HX (by decide) ?_; clear HX; intro w41 q42 b43 kt_n st_n mt_n qt_n h44 I44 HX
       go_wp2_with fail
       simp only [field49_1]
       have D_r := d4 (bk 1 HX rfl)
       go_wp2_with fail
       clear D_r
       generalize hn : World.setCell _ ⟨g_r, 3, none⟩ _ = w45
       replace HX := put1 HX (pT hn)
       clear hn
       exact ret' 1 HX rfl Tryz.underlying40 (by kernel_rfl) rfl rfl rfl rfl (hcT_mk 2 st_n 0 (rw' 0 HX rfl))
end Go.Proofs.YtjabhmepafofmaaGreatDoor
namespace Go.Proofs.YtjabhmepafofmaaGreatDoor
open Go.RowKit
set_option maxHeartbeats 4000000 in
set_option maxRecDepth 100000 in
theorem rules_x {v : Vw} {g : Gr} {n : Nat} (h : QOks v g) : QC v.dn 11 59 [] (rowE 11 xR) (some_ n ⟨#[124]⟩ g.rule) := qc fun e he HX => by
 have HH := Lib.hid h
 have HE := Lib.hid he
 clear h he
 replace HX := tail' HX
 simp only [some_, bind_assoc'] at HX
 go_enter Tryz.func59, Tryz.ntmps59
 go_upto_region 1 with fail
 go_wp2_with fail
 refine callR HX (HH.out.rule) (rk (by decide) HE) ?_; clear HX; intro w1 q2 b3 x_x _ _ _ _ _ _ _ _ _ _ _ _ _ _ _ _ _ _ _ h4 HX
 go_upto_region 2 with fail
 generalize hn : w1.alloc _ = w5
 generalize hg : w1.heap.size = g_arr
 replace HX := alloc' HX hn hg
 clear hn hg
 replace HX := lit' HX rfl
 go_loopw [3] (fun u wx => ∃ (m q j : Nat) (bb : Bool) (acc : List R) (av : Option Addr) (cv : Nat), u = .slice av m cv ∧ m ≤ q + 1 ∧ q ≤ v.l.length ∧ Hid (Cx v e wx q bb [.out 99 11 (.slice av m cv) m (acc.map xR)] ((more ⟨#[124]⟩ g.rule j acc).bind Pr.ret))) (fun u _ => v.l.length + 2 - lenOf u)
 case atStart => exact ⟨1, q2, n, b3, [x_x], _, _, rfl, by omega, HX.out.le, HX⟩
 case round =>
  clear HX
  obtain ⟨m, q, j, bb, acc, av, cv, rfl, hmq, hq, HX⟩ := hrel
  have hm := few HX hmq
  obtain ⟨j2, hv⟩ := more_head rfl (ne' HX)
  replace HX := as' HX hv
  clear hv
  go_wp2_with fail
  refine sign' HX ?_; clear HX; intro w6 HX
  go_wp2_with fail
  refine may' HX (sign_c (by kernel_rfl)) ?_ ?_
  ·
   clear HX; intro w7 h8 HX
   have HG := good' HX
   go_wp2_with fail
   refine callR HX (HH.out.rule) (.inr HG.out) ?_; clear HX; intro w9 q10 b11 x_y _ _ _ _ _ _ _ _ _ _ _ _ _ _ _ _ _ _ _ h12 HX
   go_wp2_with (at_builtin; refine push' (alloc' HX rfl rfl) elemR (by decide) hm rfl _ _ 42 rfl Tryz.underlying42 rfl rfl (by simp [Value.oneCell']) rfl ?_; clear HX; intro a3 c3 w13 HX)
   exact ⟨⟨m + 1, q10, j2, b11, acc ++ [x_y], a3, c3, rfl, by omega, HX.out.le, snoc' HX⟩, by simp [lenOf]; omega⟩
  ·
   clear HX; intro w14 HX
   have hacc : acc.length = m := by have h := len' HX; rwa [List.length_map] at h
   replace HX := row_ HX (by decide)
   go_wp2_with fail
   (try simp only [Exit.inBlock, Exit.then])
   go_ret
   exact retr' HX (rw' 0 HX rfl)
end Go.Proofs.YtjabhmepafofmaaGreatDoor
namespace Go.Proofs.YtjabhmepafofmaaGreatDoor
open Go.RowKit
set_option maxHeartbeats 4000000 in
set_option maxRecDepth 100000 in
theorem rule_x {v : Vw} {g : Gr} (h : QOks v g) : QC v.dn 10 85 [] (stE xR) g.pRule := qc fun e he HX => by
 have HH := Lib.hid h
 have HE := Lib.hid he
 clear h he
 simp only [Gr.pRule] at HX
 go_enter Tryz.func85, Tryz.ntmps85
 go_upto_region 1 with fail
 generalize hn : e.w.alloc _ = w1
 generalize hg : e.w.heap.size = g_r
 replace HX := alloc' HX hn hg
 clear hn hg
 go_wp2_with fail
 refine callT HX (HH.out.pat) (rk (by decide) HE) ?_; clear HX; intro w2 q3 b4 x_x _ _ _ _ _ _ h5 HX
 go_upto_region 2 with fail
 generalize hn : w2.alloc _ = w6
 generalize hg : w2.heap.size = g_t
 replace HX := alloc' HX hn hg
 clear hn hg
 go_wp2_with fail
 refine sign' HX ?_; clear HX; intro w7 HX
 go_wp2_with fail
 refine must' HX (sign_c (by kernel_rfl)) ?_; clear HX; intro w8 q9 b10 h11 I11 HX
 go_upto_region 3 with fail
 refine reg' HX (e4 (bk 0 HX rfl)) [4] (by kernel_rfl) ?_; clear HX; intro w12 HX hHeld
 refine tk 0 rfl hHeld ?_ (by kernel_rfl) (by kernel_rfl) (by exact fun _ _ _ h => h) (by (intro w h; (try dsimp only at h); go_simp; (try (with_reducible rfl))))
 try simp only [SA]
 refine tk 1 rfl hHeld ?_ (by kernel_rfl) (by kernel_rfl) (by exact fun _ _ _ h => h) (by (intro w h; (try dsimp only at h); go_simp; (try (with_reducible rfl))))
 try simp only [SA]
 refine rdm 2 (by kernel_rfl) rfl fun K hK => ?_
 go_simp
 go_at_call 34
 refine callE HX (HH.out.exp) (rk (by decide) HE) ?_; clear HX; intro w13 q14 b15 x_e _ _ _ _ _ _ _ _ _ _ _ _ _ h16 HX
 refine hK.out _ _ ((e4 (bk 1 HX rfl)) _ (Fr.refl _ _)) (fun hHeld => ?_)
 clear hK K
 try dsimp only
 try simp only [SA]
 refine tk 3 rfl hHeld ?_ (by kernel_rfl) (by kernel_rfl) (by exact fun _ _ _ h => h) (by (intro w h; (try dsimp only at h); go_simp; (try (with_reducible rfl))))
 try simp only [SA]
 have D_r := d11 (bk 3 HX rfl)
 refine rdl 4 (by kernel_rfl) rfl (by kernel_rfl) fun K hK => ?_
 go_simp
 clear D_r
 generalize hn : World.setCell _ ⟨g_r, 10, none⟩ _ = w17
 replace HX := put3 HX (pR hn)
 clear hn
 refine hK.out _ _ ?_
 clear hK K
 try dsimp only
 try simp only [SA]
 refine done_e (by kernel_rfl) ?_ _
 (try simp only [Exit.inBlock, Exit.then])
 go_wp2_with fail
 exact ret' 3 HX rfl Tryz.underlying99 (by kernel_rfl) rfl rfl rfl rfl (hcR_mk (vl 2 HX rfl) (vl 0 HX rfl))
set_option maxHeartbeats 4000000 in
set_option maxRecDepth 100000 in
theorem con_x {v : Vw} {g : Gr} (h : QOks v g) : QC v.dn 4 37 [] (stE xC) g.pCon := qc fun e he HX => by
 have HH := Lib.hid h
 have HE := Lib.hid he
 clear h he
 simp only [Gr.pCon] at HX
 go_enter Tryz.func37, Tryz.ntmps37
 go_upto_region 1 with fail
 generalize hn : e.w.alloc _ = w1
 generalize hg : e.w.heap.size = g_r
 replace HX := alloc' HX hn hg
 clear hn hg
 go_wp2_with fail
 refine take' HX (by decide) ?_; clear HX; intro w2 q3 b4 kt_s st_s mt_s qt_s h5 I5 HX
 go_wp2_with fail
 simp only [field49_1]
 go_upto_region 2 with fail
 generalize hn : w2.alloc _ = w6
 generalize hg : w2.heap.size = g_t
 replace HX := alloc' HX hn hg
 clear hn hg
 go_wp2_with fail
 refine word' HX ?_; clear HX; intro w7 HX
 go_wp2_with fail
 refine may' HX (word_c (by kernel_rfl)) ?_ ?_
 ·
  clear HX; intro w8 h9 HX
  have HG := good' HX
  have D_t := d6 (bk 0 HX rfl)
  go_upto_region 4 with fail
  clear D_t
  generalize hn : World.setCell _ ⟨g_t, 1, none⟩ _ = w10
  replace HX := put0 HX (pC1 hn)
  clear hn
  go_wp2_with fail
  refine callT HX (HH.out.ty) (.inr HG.out) ?_; clear HX; intro w11 q12 b13 x_y _ _ _ _ _ _ h14 HX
  have D_t := d6 (bk 1 HX rfl)
  go_upto_region 5 with fail
  clear D_t
  generalize hn : World.setCell _ ⟨g_t, 5, none⟩ _ = w15
  replace HX := put1 HX (pC2 hn)
  clear hn
  have D_t := d6 (bk 1 HX rfl)
  have D_r := d6 (bk 2 HX rfl)
  go_wp2_with fail
  clear D_t D_r
  generalize hn : World.setCell _ ⟨g_r, 5, none⟩ _ = w16
  replace HX := put2 HX (pC hn)
  clear hn
  exact ret' 2 HX rfl Tryz.underlying76 (by kernel_rfl) rfl rfl rfl rfl (hcC_mk st_s true (vl 0 HX rfl))
 ·
  clear HX; intro w17 HX
  have D_t := d6 (bk 0 HX rfl)
  have D_r := d6 (bk 1 HX rfl)
  go_wp2_with fail
  clear D_t D_r
  generalize hn : World.setCell _ ⟨g_r, 5, none⟩ _ = w18
  replace HX := put1 HX (pC hn)
  clear hn
  exact ret' 1 HX rfl Tryz.underlying76 (by kernel_rfl) rfl rfl rfl rfl (hcC_mk st_s false hc_zT)
end Go.Proofs.YtjabhmepafofmaaGreatDoor
namespace Go.Proofs.YtjabhmepafofmaaGreatDoor
open Go.RowKit
set_option maxHeartbeats 4000000 in
set_option maxRecDepth 100000 in
theorem ty_x {v : Vw} {g : Gr} (h : QOks v g) : QC v.dn 3 38 [] (stE xT) g.pTy := qc fun e he HX => by
 have HH := Lib.hid h
 have HE := Lib.hid he
 clear h he
 simp only [Gr.pTy] at HX
 go_enter Tryz.func38, Tryz.ntmps38
 go_upto_region 1 with fail
 generalize hn : e.w.alloc _ = w1
 generalize hg : e.w.heap.size = g_r
 replace HX := alloc' HX hn hg
 clear hn hg
 go_wp2_with fail
 refine callT HX (HH.out.row) (rk (by decide) HE) ?_; clear HX; intro w2 q3 b4 x_x _ _ _ _ _ _ h5 HX
 go_upto_region 2 with fail
 generalize hn : w2.alloc _ = w6
 generalize hg : w2.heap.size = g_t
 replace HX := alloc' HX hn hg
 clear hn hg
 go_wp2_with fail
 refine sign' HX ?_; clear HX; intro w7 HX
 go_wp2_with fail
 refine may' HX (sign_c (by kernel_rfl)) ?_ ?_
 ·
  clear HX; intro w8 h9 HX
  have HG := good' HX
  go_upto_region 3 with fail
  refine reg' HX (e4 (bk 0 HX rfl)) [5] (by kernel_rfl) ?_; clear HX; intro w10 HX hHeld
  refine tk 0 rfl hHeld ?_ (by kernel_rfl) (by kernel_rfl) (by exact fun _ _ _ h => h) (by (intro w h; (try dsimp only at h); go_simp; (try (with_reducible rfl))))
  try simp only [SA]
  refine tk 1 rfl hHeld ?_ (by kernel_rfl) (by kernel_rfl) (by exact fun _ _ _ h => h) (by (intro w h; (try dsimp only at h); go_simp; (try (with_reducible rfl))))
  try simp only [SA]
  refine rdm 2 (by kernel_rfl) rfl fun K hK => ?_
  go_simp
  go_at_call 38
  refine callT HX (HH.out.ty) (.inr HG.out) ?_; clear HX; intro w11 q12 b13 x_y _ _ _ _ _ _ h14 HX
  refine hK.out _ _ ((e4 (bk 1 HX rfl)) _ (Fr.refl _ _)) (fun hHeld => ?_)
  clear hK K
  try dsimp only
  try simp only [SA]
  refine rdm 3 (by kernel_rfl) rfl fun K hK => ?_
  go_simp
  generalize hn : w11.alloc _ = w15
  generalize hg : w11.heap.size = g_arr
  replace HX := alloc' HX hn hg
  clear hn hg
  refine hK.out _ _ ((e4 (bk 2 HX rfl)) _ (Fr.refl _ _)) (fun hHeld => ?_)
  clear hK K
  try dsimp only
  try simp only [SA]
  refine tk 4 rfl hHeld ?_ (by kernel_rfl) (by kernel_rfl) (by exact fun _ _ _ h => h) (by (intro w h; (try dsimp only at h); go_simp; (try (with_reducible rfl))))
  try simp only [SA]
  have D_r := d4 (bk 4 HX rfl)
  refine rdl 5 (by kernel_rfl) rfl (by kernel_rfl) fun K hK => ?_
  go_simp
  clear D_r
  generalize hn : World.setCell _ ⟨g_r, 3, none⟩ _ = w16
  replace HX := put4 HX (pT hn)
  clear hn
  refine hK.out _ _ ?_
  clear hK K
  try dsimp only
  try simp only [SA]
  refine done_e (by kernel_rfl) ?_ _
  (try simp only [Exit.inBlock, Exit.then])
  go_wp2_with fail
  exact ret' 4 HX rfl Tryz.underlying40 (by kernel_rfl) rfl rfl rfl rfl (hcT_mk 3 nob 0 (two' 0 3 1 HX rfl rfl rfl rfl rfl (by decide)))
 ·
  clear HX; intro w17 HX
  have D_t := d4 (bk 0 HX rfl)
  have D_r := d4 (bk 2 HX rfl)
  go_wp2_with fail
  clear D_t D_r
  generalize hn : World.setCell _ ⟨g_r, 3, none⟩ _ = w18
  replace HX := put2 HX (pT hn)
  clear hn
  exact ret' 2 HX rfl Tryz.underlying40 (by kernel_rfl) rfl rfl rfl rfl ((vl 1 HX rfl))
end Go.Proofs.YtjabhmepafofmaaGreatDoor
