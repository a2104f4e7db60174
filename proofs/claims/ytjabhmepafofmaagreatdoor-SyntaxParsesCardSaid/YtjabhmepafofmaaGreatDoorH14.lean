/- Wpro, Wrow, Wru, Wty -/
import Derived.Test.YtjabhmepafofmaaGreatDoorH02
set_option linter.unusedVariables false
set_option linter.unusedSimpArgs false
namespace Go.Proofs.YtjabhmepafofmaaGreatDoor
open Go.RowKit
set_option maxHeartbeats 4000000 in
set_option maxRecDepth 100000 in
theorem patRound_step' {v : Vd} {g : Gr} {n : Nat} (h : Oks v.gp v.a v.c v.l g) : CT v.gp v.a v.c v.l 104 [] (stE xT) (g.pPatRound n) := dc fun e HX => by
 have HH := Lib.hid h
 clear h
 simp only [pPatRound_eq] at HX
 go_enter Tryz.func104, Tryz.ntmps104
 go_upto_region 1 with fail
 generalize hn : e.w.alloc _ = w1
 generalize hg : e.w.heap.size = g_r
 replace HX := alloc' HX hn hg
 clear hn hg
 go_wp2_with fail
 generalize hn : w1.alloc _ = w2
 generalize hg : w1.heap.size = g_sk
 replace HX := alloc' HX hn hg
 clear hn hg
 refine skipd HX ?_ ?_ (by rfl) (by rfl) (by decide)
 ·
  clear HX; intro w3 h4 HX
  have D_r := d4 (bk 0 HX rfl)
  go_wp2_with fail
  clear D_r
  generalize hn : World.setCell _ ⟨g_r, 3, none⟩ _ = w5
  replace HX := put0 HX (pT hn)
  clear hn
  exact retd 0 HX rfl Tryz.underlying97 (by kernel_rfl) rfl rfl rfl rfl (hcT_none 4 nob 0)
 ·
  clear HX; intro w6 HX
  go_wp2_with fail
  refine callrowd HX (some_pat enters81 HH.out.pat ⟨#[44]⟩ n) (fun _ h => ⟨rfl, h⟩) ?_; clear HX; intro w7 q8 x_l a_l c_l h9 HX
  obtain ⟨m, hacc⟩ : ∃ m, x_l.length = m := ⟨_, rfl⟩
  rw [hacc] at HX ⊢
  simp only [patK] at HX
  go_wp2_with fail
  refine mustd HX (fun _ h => ⟨rfl, h⟩) ?_; clear HX; intro w10 h11 HX
  rcases x_l with _ | ⟨y1, _ | ⟨y2, yr⟩⟩
  ·
   obtain rfl : m = 0 := hacc.symm
   simp only [patK2] at HX
   have D_r := d4 (bk 1 HX rfl)
   go_wp2_with fail
   clear D_r
   generalize hn : World.setCell _ ⟨g_r, 3, none⟩ _ = w12
   replace HX := put1 HX (pT hn)
   clear hn
   exact retd 1 HX rfl Tryz.underlying97 (by kernel_rfl) rfl rfl rfl rfl (hcT_mk 5 nob 0 (rw' 0 HX rfl))
  ·
   obtain rfl : m = 1 := hacc.symm
   simp only [patK2] at HX
   obtain ⟨g_l, o_l, _, _, _, _, _, _, rfl, D_l, HX⟩ := elT HX
   have D_r := d4 (bk 1 HX rfl)
   go_wp2_with fail
   clear D_r D_l
   generalize hn : World.setCell _ ⟨g_r, 3, none⟩ _ = w13
   replace HX := put1 HX (pT hn)
   clear hn
   exact retd 1 HX rfl Tryz.underlying97 (by kernel_rfl) rfl rfl rfl rfl ((vl 0 HX rfl))
  ·
   have hbl : ((m : Int) == 1) = false := by
    simp only [beq_eq_false_iff_ne, ne_eq]
    simp only [List.length_cons] at hacc
    omega
   simp only [patK2] at HX
   have D_r := d4 (bk 1 HX rfl)
   go_wp2_with fail
   clear D_r
   generalize hn : World.setCell _ ⟨g_r, 3, none⟩ _ = w14
   replace HX := put1 HX (pT hn)
   clear hn
   exact retd 1 HX rfl Tryz.underlying97 (by kernel_rfl) rfl rfl rfl rfl (hcT_mk 5 nob 0 (rw' 0 HX rfl))
theorem patRound_step {gp : Nat} {a : Option Addr} {c : Nat} {l : List Tok} {g : Gr} {n : Nat} (h : Oks gp a c l g) : CT gp a c l 104 [] (stE xT) (g.pPatRound n) := patRound_step' (v := ⟨gp, a, c, l⟩) h
end Go.Proofs.YtjabhmepafofmaaGreatDoor
namespace Go.Proofs.YtjabhmepafofmaaGreatDoor
open Go.RowKit
set_option maxHeartbeats 4000000 in
set_option maxRecDepth 100000 in
theorem row_step' {v : Vd} {g : Gr} {n : Nat} (h : Oks v.gp v.a v.c v.l g) : CT v.gp v.a v.c v.l 58 [] (stE xT) (g.pRow n) := dc fun e HX => by
 have HH := Lib.hid h
 clear h
 simp only [pRow_eq] at HX
 go_enter Tryz.func58, Tryz.ntmps58
 go_upto_region 1 with fail
 generalize hn : e.w.alloc _ = w1
 generalize hg : e.w.heap.size = g_r
 replace HX := alloc' HX hn hg
 clear hn hg
 go_wp2_with fail
 refine callrowd HX (some_ty enters84 HH.out.post ⟨#[42]⟩ n) (fun _ h => ⟨rfl, h⟩) ?_; clear HX; intro w2 q3 x_l a_l c_l h4 HX
 obtain ⟨m, hacc⟩ : ∃ m, x_l.length = m := ⟨_, rfl⟩
 rw [hacc] at HX ⊢
 rcases x_l with _ | ⟨y1, _ | ⟨y2, yr⟩⟩
 ·
  obtain rfl : m = 0 := hacc.symm
  simp only [rowK] at HX
  have D_r := d4 (bk 1 HX rfl)
  go_wp2_with fail
  clear D_r
  generalize hn : World.setCell _ ⟨g_r, 3, none⟩ _ = w5
  replace HX := put1 HX (pT hn)
  clear hn
  exact retd 1 HX rfl Tryz.underlying40 (by kernel_rfl) rfl rfl rfl rfl (hcT_mk 4 nob 0 (rw' 0 HX rfl))
 ·
  obtain rfl : m = 1 := hacc.symm
  simp only [rowK] at HX
  obtain ⟨g_l, o_l, _, _, _, _, _, _, rfl, D_l, HX⟩ := elT HX
  have D_r := d4 (bk 1 HX rfl)
  go_wp2_with fail
  clear D_r D_l
  generalize hn : World.setCell _ ⟨g_r, 3, none⟩ _ = w6
  replace HX := put1 HX (pT hn)
  clear hn
  exact retd 1 HX rfl Tryz.underlying40 (by kernel_rfl) rfl rfl rfl rfl ((vl 0 HX rfl))
 ·
  have hbl : ((m : Int) == 1) = false := by
   simp only [beq_eq_false_iff_ne, ne_eq]
   simp only [List.length_cons] at hacc
   omega
  simp only [rowK] at HX
  have D_r := d4 (bk 1 HX rfl)
  go_wp2_with fail
  clear D_r
  generalize hn : World.setCell _ ⟨g_r, 3, none⟩ _ = w7
  replace HX := put1 HX (pT hn)
  clear hn
  exact retd 1 HX rfl Tryz.underlying40 (by kernel_rfl) rfl rfl rfl rfl (hcT_mk 4 nob 0 (rw' 0 HX rfl))
theorem row_step {gp : Nat} {a : Option Addr} {c : Nat} {l : List Tok} {g : Gr} {n : Nat} (h : Oks gp a c l g) : CT gp a c l 58 [] (stE xT) (g.pRow n) := row_step' (v := ⟨gp, a, c, l⟩) h
end Go.Proofs.YtjabhmepafofmaaGreatDoor
namespace Go.Proofs.YtjabhmepafofmaaGreatDoor
open Go.RowKit
set_option maxHeartbeats 4000000 in
set_option maxRecDepth 100000 in
theorem rule_step' {v : Vd} {g : Gr} (h : Oks v.gp v.a v.c v.l g) : CT v.gp v.a v.c v.l 54 [] (stE xR) g.pRule := dc fun e HX => by
 have HH := Lib.hid h
 clear h
 simp only [Gr.pRule] at HX
 go_enter Tryz.func54, Tryz.ntmps54
 go_upto_region 1 with fail
 generalize hn : e.w.alloc _ = w1
 generalize hg : e.w.heap.size = g_r
 replace HX := alloc' HX hn hg
 clear hn hg
 go_wp2_with fail
 refine callTd HX (HH.out.pat) (fun _ h => ⟨rfl, h⟩) ?_; clear HX; intro w2 q3 x_x _ _ _ _ _ _ h4 HX
 go_upto_region 2 with fail
 generalize hn : w2.alloc _ = w5
 generalize hg : w2.heap.size = g_t
 replace HX := alloc' HX hn hg
 clear hn hg
 go_wp2_with fail
 refine mustd HX (fun _ h => ⟨rfl, h⟩) ?_; clear HX; intro w6 h7 HX
 go_upto_region 3 with fail
 refine reg' HX (e4 (bk 0 HX rfl)) [4] (by kernel_rfl) ?_; clear HX; intro w8 HX hHeld
 refine tk 0 rfl hHeld ?_ (by kernel_rfl) (by kernel_rfl) (by exact fun _ _ _ h => h) (by (intro w h; (try dsimp only at h); go_simp; (try (with_reducible rfl))))
 try simp only [SA]
 refine tk 1 rfl hHeld ?_ (by kernel_rfl) (by kernel_rfl) (by exact fun _ _ _ h => h) (by (intro w h; (try dsimp only at h); go_simp; (try (with_reducible rfl))))
 try simp only [SA]
 refine rdm 2 (by kernel_rfl) rfl fun K hK => ?_
 go_simp
 go_at_call 24
 refine callEd HX (HH.out.exp) (fun _ h => ⟨rfl, h⟩) ?_; clear HX; intro w9 q10 x_e _ _ _ _ _ _ _ _ _ _ _ _ _ h11 HX
 refine hK.out _ _ ((e4 (bk 1 HX rfl)) _ (Fr.refl _ _)) (fun hHeld => ?_)
 clear hK K
 try dsimp only
 try simp only [SA]
 refine tk 3 rfl hHeld ?_ (by kernel_rfl) (by kernel_rfl) (by exact fun _ _ _ h => h) (by (intro w h; (try dsimp only at h); go_simp; (try (with_reducible rfl))))
 try simp only [SA]
 have D_r := d11 (bk 3 HX rfl)
 refine rdl 4 (by kernel_rfl) rfl (by kernel_rfl) fun K hK => ?_
 go_simp
 clear D_r
 generalize hn : World.setCell _ ⟨g_r, 10, none⟩ _ = w12
 replace HX := put3 HX (pR hn)
 clear hn
 refine hK.out _ _ ?_
 clear hK K
 try dsimp only
 try simp only [SA]
 refine done_e (by kernel_rfl) ?_ _
 (try simp only [Exit.inBlock, Exit.then])
 go_wp2_with fail
 exact retd 3 HX rfl Tryz.underlying99 (by kernel_rfl) rfl rfl rfl rfl (hcR_mk (vl 2 HX rfl) (vl 0 HX rfl))
theorem rule_step {gp : Nat} {a : Option Addr} {c : Nat} {l : List Tok} {g : Gr} (h : Oks gp a c l g) : CT gp a c l 54 [] (stE xR) g.pRule := rule_step' (v := ⟨gp, a, c, l⟩) h
end Go.Proofs.YtjabhmepafofmaaGreatDoor
namespace Go.Proofs.YtjabhmepafofmaaGreatDoor
open Go.RowKit
set_option maxHeartbeats 4000000 in
set_option maxRecDepth 100000 in
theorem ty_step' {v : Vd} {g : Gr} (h : Oks v.gp v.a v.c v.l g) : CT v.gp v.a v.c v.l 30 [] (stE xT) g.pTy := dc fun e HX => by
 have HH := Lib.hid h
 clear h
 simp only [Gr.pTy] at HX
 go_enter Tryz.func30, Tryz.ntmps30
 go_upto_region 1 with fail
 generalize hn : e.w.alloc _ = w1
 generalize hg : e.w.heap.size = g_r
 replace HX := alloc' HX hn hg
 clear hn hg
 go_wp2_with fail
 refine callTd HX (HH.out.row) (fun _ h => ⟨rfl, h⟩) ?_; clear HX; intro w2 q3 x_x _ _ _ _ _ _ h4 HX
 go_upto_region 2 with fail
 generalize hn : w2.alloc _ = w5
 generalize hg : w2.heap.size = g_t
 replace HX := alloc' HX hn hg
 clear hn hg
 go_wp2_with fail
 generalize hn : w5.alloc _ = w6
 generalize hg : w5.heap.size = g_sk
 replace HX := alloc' HX hn hg
 clear hn hg
 refine skipd HX ?_ ?_ (by rfl) (by rfl) (by decide)
 ·
  clear HX; intro w7 h8 HX
  go_upto_region 3 with fail
  refine reg' HX (e4 (bk 0 HX rfl)) [5] (by kernel_rfl) ?_; clear HX; intro w9 HX hHeld
  refine tk 0 rfl hHeld ?_ (by kernel_rfl) (by kernel_rfl) (by exact fun _ _ _ h => h) (by (intro w h; (try dsimp only at h); go_simp; (try (with_reducible rfl))))
  try simp only [SA]
  refine tk 1 rfl hHeld ?_ (by kernel_rfl) (by kernel_rfl) (by exact fun _ _ _ h => h) (by (intro w h; (try dsimp only at h); go_simp; (try (with_reducible rfl))))
  try simp only [SA]
  refine rdm 2 (by kernel_rfl) rfl fun K hK => ?_
  go_simp
  go_at_call 30
  refine callTd HX (HH.out.ty) (fun _ h => ⟨rfl, h⟩) ?_; clear HX; intro w10 q11 x_y _ _ _ _ _ _ h12 HX
  refine hK.out _ _ ((e4 (bk 1 HX rfl)) _ (Fr.refl _ _)) (fun hHeld => ?_)
  clear hK K
  try dsimp only
  try simp only [SA]
  refine rdm 3 (by kernel_rfl) rfl fun K hK => ?_
  go_simp
  generalize hn : w10.alloc _ = w13
  generalize hg : w10.heap.size = g_arr
  replace HX := alloc' HX hn hg
  clear hn hg
  refine hK.out _ _ ((e4 (bk 2 HX rfl)) _ (Fr.refl _ _)) (fun hHeld => ?_)
  clear hK K
  try dsimp only
  try simp only [SA]
  refine tk 4 rfl hHeld ?_ (by kernel_rfl) (by kernel_rfl) (by exact fun _ _ _ h => h) (by (intro w h; (try dsimp only at h); go_simp; (try (with_reducible rfl))))
  try simp only [SA]
  have D_r := d4 (bk 4 HX rfl)
  refine rdl 5 (by kernel_rfl) rfl (by kernel_rfl) fun K hK => ?_
  go_simp
  clear D_r
  generalize hn : World.setCell _ ⟨g_r, 3, none⟩ _ = w14
  replace HX := put4 HX (pT hn)
  clear hn
  refine hK.out _ _ ?_
  clear hK K
  try dsimp only
  try simp only [SA]
  refine done_e (by kernel_rfl) ?_ _
  (try simp only [Exit.inBlock, Exit.then])
  go_wp2_with fail
  exact retd 4 HX rfl Tryz.underlying40 (by kernel_rfl) rfl rfl rfl rfl (hcT_mk 3 nob 0 (two' 0 3 1 HX rfl rfl rfl rfl rfl (by decide)))
 ·
  clear HX; intro w15 HX
  have D_t := d4 (bk 0 HX rfl)
  have D_r := d4 (bk 2 HX rfl)
  go_wp2_with fail
  clear D_t D_r
  generalize hn : World.setCell _ ⟨g_r, 3, none⟩ _ = w16
  replace HX := put2 HX (pT hn)
  clear hn
  exact retd 2 HX rfl Tryz.underlying40 (by kernel_rfl) rfl rfl rfl rfl ((vl 1 HX rfl))
theorem ty_step {gp : Nat} {a : Option Addr} {c : Nat} {l : List Tok} {g : Gr} (h : Oks gp a c l g) : CT gp a c l 30 [] (stE xT) g.pTy := ty_step' (v := ⟨gp, a, c, l⟩) h
end Go.Proofs.YtjabhmepafofmaaGreatDoor
