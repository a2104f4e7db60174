/- Xda -/
import Derived.Test.YtjabhmepafofmaaGreatDoorH01
set_option linter.unusedVariables false
set_option linter.unusedSimpArgs false
namespace Go.Proofs.YtjabhmepafofmaaGreatDoor
open Go.RowKit
set_option maxHeartbeats 4000000 in
set_option maxRecDepth 100000 in
theorem data_x {v : Vw} {g : Gr} {n m : Nat} (h : QOks v g) : QC v.dn 5 36 [] (stE xD) (dataP n m g) := qc fun e he HX => by
 have HH := Lib.hid h
 have HE := Lib.hid he
 clear h he
 simp only [data_eq] at HX
 go_enter Tryz.func36, Tryz.ntmps36
 go_upto_region 1 with fail
 generalize hn : e.w.alloc _ = w1
 generalize hg : e.w.heap.size = g_r
 replace HX := alloc' HX hn hg
 clear hn hg
 go_upto_region 2 with fail
 generalize hn : w1.alloc _ = w2
 generalize hg : w1.heap.size = g_t
 replace HX := alloc' HX hn hg
 clear hn hg
 replace HX := nil' 9 1 HX
 go_wp2_with fail
 refine sign' HX ?_; clear HX; intro w3 HX
 go_wp2_with fail
 refine mayb' HX (sign_c (by kernel_rfl)) ?_; clear HX; intro w4 c6 q5 HM HX
 go_upto_if 8 with fail
 go_cut [] from 9 to 44 (fun wx => ∃ (m2 q : Nat) (bb : Bool) (acc : List ByteArray) (av : Option Addr) (cv : Nat), Hid (Cx v e wx q bb [.row (.row 1 (acc.map (fun s => [xb s]))) (.slice av m2 cv), .blk g_t [.int .u8 1, .string ⟨#[]⟩, .slice av m2 cv, .slice none 0 0, .slice none 0 0, .int .u8 0, .string ⟨#[]⟩, .int .i64 0, .slice none 0 0, .int .u8 0, .string ⟨#[]⟩, .int .i64 0, .string ⟨#[]⟩, .slice none 0 0, .slice none 0 0, .slice none 0 0] 46, .blk g_r [.int .u8 0, .string ⟨#[]⟩, .slice none 0 0, .slice none 0 0, .slice none 0 0, .int .u8 0, .string ⟨#[]⟩, .int .i64 0, .slice none 0 0, .int .u8 0, .string ⟨#[]⟩, .int .i64 0, .string ⟨#[]⟩, .slice none 0 0, .slice none 0 0, .slice none 0 0] 46] (dataK n g acc)))
 case first =>
  cases c6 with
  | true =>
   replace HX := pos' HX (by decide)
   go_upto_region 3 with fail
   refine reg' HX (cl 1 2 HX rfl rfl) [8] (by kernel_rfl) ?_; clear HX; intro w7 HX hHeld
   refine tk 0 rfl hHeld ?_ (by kernel_rfl) (by kernel_rfl) (by exact fun _ _ _ h => h) (by (intro w h; (try dsimp only at h); go_simp; (try (with_reducible rfl))))
   try simp only [SA]
   refine tk 1 rfl hHeld ?_ (by kernel_rfl) (by kernel_rfl) (by exact fun _ _ _ h => h) (by (intro w h; (try dsimp only at h); go_simp; (try (with_reducible rfl))))
   try simp only [SA]
   refine tk 2 rfl hHeld ?_ (by kernel_rfl) (by kernel_rfl) (by exact fun _ _ _ h => h) (by (intro w h; (try dsimp only at h); go_simp; (try (with_reducible rfl))))
   try simp only [SA]
   refine rdm 3 (by kernel_rfl) rfl fun K hK => ?_
   go_simp
   go_at_call 33
   refine take' HX (by decide) ?_; clear HX; intro w8 q9 b10 kt_a st_a mt_a qt_a h11 I11 HX
   refine hK.out _ _ ((cl 1 2 HX rfl rfl) _ (Fr.refl _ _)) (fun hHeld => ?_)
   clear hK K
   try dsimp only
   try simp only [SA]
   refine tkf 4 rfl hHeld ?_ (by kernel_rfl) (by kernel_rfl) (by exact fun _ _ _ h => h) (by (intro w h; (try dsimp only at h); go_simp; (try simp only [field49_0, field49_1, field49_2]); (try go_simp); (try (with_reducible rfl))))
   try simp only [SA]
   (try simp only [field49_1])
   refine rdm 5 (by kernel_rfl) rfl fun K hK => ?_
   go_simp
   generalize hn : w8.alloc _ = w12
   generalize hg : w8.heap.size = g_one
   replace HX := alloc' HX hn hg
   clear hn hg
   replace HX := str' HX
   refine hK.out _ _ ((cl 3 2 HX rfl rfl) _ (Fr.refl _ _)) (fun hHeld => ?_)
   clear hK K
   try dsimp only
   try simp only [SA]
   refine rdm 6 (by kernel_rfl) rfl fun K hK => ?_
   refine spush' HX elemS (by decide) (Nat.zero_le _) rfl _ _ 35 rfl Tryz.underlying35 rfl rfl (by simp [Value.oneCell']) rfl ?_; clear HX; intro a3 c3 w13 HX
   refine hK.out _ _ ((cl 1 2 HX rfl rfl) _ (Fr.refl _ _)) (fun hHeld => ?_)
   clear hK K
   try dsimp only
   try simp only [SA]
   refine tk 7 rfl hHeld ?_ (by kernel_rfl) (by kernel_rfl) (by exact fun _ _ _ h => h) (by (intro w h; (try dsimp only at h); go_simp; (try (with_reducible rfl))))
   try simp only [SA]
   have D_t := cl' 1 2 HX rfl rfl
   have E_t := fz 1 2 HX rfl
   refine rdl 8 (by kernel_rfl) rfl (by kernel_rfl) fun K hK => ?_
   go_simp
   clear D_t E_t
   generalize hn : World.setCell _ ⟨g_t, 2, none⟩ _ = w14
   replace HX := put1 HX (pD2 hn)
   clear hn
   refine hK.out _ _ ?_
   clear hK K
   try dsimp only
   try simp only [SA]
   refine done_e (by kernel_rfl) ?_ _
   (try simp only [Exit.inBlock, Exit.then])
   go_wp2_with fail
   go_loopw [] (fun wx => ∃ (m q j : Nat) (bb : Bool) (acc : List ByteArray) (av : Option Addr) (cv : Nat), m ≤ q + 1 ∧ posR v.gp wx = q ∧ Hid (Cx v e wx q bb [.out 9 1 (.slice av m cv) m (acc.map (fun s => [xb s])), .blk g_t [.int .u8 1, .string ⟨#[]⟩, .slice av m cv, .slice none 0 0, .slice none 0 0, .int .u8 0, .string ⟨#[]⟩, .int .i64 0, .slice none 0 0, .int .u8 0, .string ⟨#[]⟩, .int .i64 0, .string ⟨#[]⟩, .slice none 0 0, .slice none 0 0, .slice none 0 0] 46, .blk g_r [.int .u8 0, .string ⟨#[]⟩, .slice none 0 0, .slice none 0 0, .slice none 0 0, .int .u8 0, .string ⟨#[]⟩, .int .i64 0, .slice none 0 0, .int .u8 0, .string ⟨#[]⟩, .int .i64 0, .string ⟨#[]⟩, .slice none 0 0, .slice none 0 0, .slice none 0 0] 46] ((more ⟨#[44]⟩ (take 3) j acc).bind (varsK n g)))) (fun wx => v.l.length - posR v.gp wx)
   case atStart => exact ⟨1, q9, m, b10, [st_a], _, _, by omega, posR_at HX.out.blk, HX⟩
   case round =>
    clear HX
    obtain ⟨m, q, j, bb, acc, av, cv, hmq, hpq, HX⟩ := hrel
    have hm := few HX hmq
    have hq := HX.out.le
    obtain ⟨j2, hv⟩ := more_head rfl (ne' HX)
    replace HX := as' HX hv
    clear hv
    go_wp2_with fail
    refine sign' HX ?_; clear HX; intro w15 HX
    go_wp2_with fail
    refine may' HX (sign_c (by kernel_rfl)) ?_ ?_
    ·
     clear HX; intro w16 h17 HX
     have HG := good' HX
     go_upto_region 5 with fail
     refine reg' HX (cl 1 2 HX rfl rfl) [8] (by kernel_rfl) ?_; clear HX; intro w18 HX hHeld
     refine tk 0 rfl hHeld ?_ (by kernel_rfl) (by kernel_rfl) (by exact fun _ _ _ h => h) (by (intro w h; (try dsimp only at h); go_simp; (try (with_reducible rfl))))
     try simp only [SA]
     refine tk 1 rfl hHeld ?_ (by kernel_rfl) (by kernel_rfl) (by exact fun _ _ _ h => h) (by (intro w h; (try dsimp only at h); go_simp; (try (with_reducible rfl))))
     try simp only [SA]
     refine tk 2 rfl hHeld ?_ (by kernel_rfl) (by kernel_rfl) (by exact fun _ _ _ h => h) (by (intro w h; (try dsimp only at h); go_simp; (try (with_reducible rfl))))
     try simp only [SA]
     refine rdm 3 (by kernel_rfl) rfl fun K hK => ?_
     go_simp
     go_at_call 33
     refine take' HX (by decide) ?_; clear HX; intro w19 q20 b21 kt_y st_y mt_y qt_y h22 I22 HX
     refine hK.out _ _ ((cl 1 2 HX rfl rfl) _ (Fr.refl _ _)) (fun hHeld => ?_)
     clear hK K
     try dsimp only
     try simp only [SA]
     refine tkf 4 rfl hHeld ?_ (by kernel_rfl) (by kernel_rfl) (by exact fun _ _ _ h => h) (by (intro w h; (try dsimp only at h); go_simp; (try simp only [field49_0, field49_1, field49_2]); (try go_simp); (try (with_reducible rfl))))
     try simp only [SA]
     (try simp only [field49_1])
     refine rdm 5 (by kernel_rfl) rfl fun K hK => ?_
     go_simp
     generalize hn : w19.alloc _ = w23
     generalize hg : w19.heap.size = g_one
     replace HX := alloc' HX hn hg
     clear hn hg
     replace HX := str' HX
     refine hK.out _ _ ((cl 3 2 HX rfl rfl) _ (Fr.refl _ _)) (fun hHeld => ?_)
     clear hK K
     try dsimp only
     try simp only [SA]
     refine rdm 6 (by kernel_rfl) rfl fun K hK => ?_
     refine spush' HX elemS (by decide) hm rfl _ _ 35 rfl Tryz.underlying35 rfl rfl (by simp [Value.oneCell']) rfl ?_; clear HX; intro a3 c3 w24 HX
     replace HX := snoc' HX
     refine hK.out _ _ ((cl 1 2 HX rfl rfl) _ (Fr.refl _ _)) (fun hHeld => ?_)
     clear hK K
     try dsimp only
     try simp only [SA]
     refine tk 7 rfl hHeld ?_ (by kernel_rfl) (by kernel_rfl) (by exact fun _ _ _ h => h) (by (intro w h; (try dsimp only at h); go_simp; (try (with_reducible rfl))))
     try simp only [SA]
     have D_t := cl' 1 2 HX rfl rfl
     have E_t := fz 1 2 HX rfl
     refine rdl 8 (by kernel_rfl) rfl (by kernel_rfl) fun K hK => ?_
     go_simp
     clear D_t E_t
     generalize hn : World.setCell _ ⟨g_t, 2, none⟩ _ = w25
     replace HX := put1 HX (pD2 hn)
     clear hn
     refine hK.out _ _ ?_
     clear hK K
     try dsimp only
     try simp only [SA]
     refine done_e (by kernel_rfl) ?_ _
     (try simp only [Exit.inBlock, Exit.then])
     go_wp2_with fail
     exact ⟨⟨m + 1, q20, j2, b21, acc ++ [st_y], a3, c3, by omega, posR_at HX.out.blk, HX⟩, by rw [posR_at HX.out.blk, hpq]; have := HX.out.le; omega⟩
    ·
     clear HX; intro w26 HX
     simp only [varsK] at HX
     go_wp2_with fail
     refine sign' HX ?_; clear HX; intro w27 HX
     go_wp2_with fail
     refine must' HX (sign_c (by kernel_rfl)) ?_; clear HX; intro w28 q29 b30 h31 I31 HX
     go_wp2_with fail
     replace HX := row_ HX (by decide)
     go_meet
     exact ⟨_, q29, b30, _, _, _, HX⟩
  | false =>
   replace HX := neg' HX (by decide)
   go_wp2_with fail
   refine next' HX ?_; clear HX; intro w32 kt_k st_k mt_k qt_k HT_k HX
   go_wp2_with fail
   simp only [field49_0]
   by_cases hk3_k : kt_k = 3
   ·
    replace HX := pos' HX hk3_k
    have D3_k := kq (k := kt_k) (z := 3) (by omega)
    go_upto_region 8 with fail
    refine reg' HX (cl 1 2 HX rfl rfl) [8] (by kernel_rfl) ?_; clear HX; intro w33 HX hHeld
    refine tk 0 rfl hHeld ?_ (by kernel_rfl) (by kernel_rfl) (by exact fun _ _ _ h => h) (by (intro w h; (try dsimp only at h); go_simp; (try (with_reducible rfl))))
    try simp only [SA]
    refine tk 1 rfl hHeld ?_ (by kernel_rfl) (by kernel_rfl) (by exact fun _ _ _ h => h) (by (intro w h; (try dsimp only at h); go_simp; (try (with_reducible rfl))))
    try simp only [SA]
    refine tk 2 rfl hHeld ?_ (by kernel_rfl) (by kernel_rfl) (by exact fun _ _ _ h => h) (by (intro w h; (try dsimp only at h); go_simp; (try (with_reducible rfl))))
    try simp only [SA]
    refine rdm 3 (by kernel_rfl) rfl fun K hK => ?_
    go_simp
    go_at_call 33
    refine takek' HX HT_k hk3_k (by decide) ?_; clear HX; intro w34 h35 HX
    have HG := good' HX
    refine hK.out _ _ ((cl 1 2 HX rfl rfl) _ (Fr.refl _ _)) (fun hHeld => ?_)
    clear hK K
    try dsimp only
    try simp only [SA]
    refine tkf 4 rfl hHeld ?_ (by kernel_rfl) (by kernel_rfl) (by exact fun _ _ _ h => h) (by (intro w h; (try dsimp only at h); go_simp; (try simp only [field49_0, field49_1, field49_2]); (try go_simp); (try (with_reducible rfl))))
    try simp only [SA]
    (try simp only [field49_1])
    refine rdm 5 (by kernel_rfl) rfl fun K hK => ?_
    go_simp
    generalize hn : w34.alloc _ = w36
    generalize hg : w34.heap.size = g_one
    replace HX := alloc' HX hn hg
    clear hn hg
    replace HX := str' HX
    refine hK.out _ _ ((cl 3 2 HX rfl rfl) _ (Fr.refl _ _)) (fun hHeld => ?_)
    clear hK K
    try dsimp only
    try simp only [SA]
    refine rdm 6 (by kernel_rfl) rfl fun K hK => ?_
    refine spush' HX elemS (by decide) (Nat.zero_le _) rfl _ _ 35 rfl Tryz.underlying35 rfl rfl (by simp [Value.oneCell']) rfl ?_; clear HX; intro a3 c3 w37 HX
    refine hK.out _ _ ((cl 1 2 HX rfl rfl) _ (Fr.refl _ _)) (fun hHeld => ?_)
    clear hK K
    try dsimp only
    try simp only [SA]
    refine tk 7 rfl hHeld ?_ (by kernel_rfl) (by kernel_rfl) (by exact fun _ _ _ h => h) (by (intro w h; (try dsimp only at h); go_simp; (try (with_reducible rfl))))
    try simp only [SA]
    have D_t := cl' 1 2 HX rfl rfl
    have E_t := fz 1 2 HX rfl
    refine rdl 8 (by kernel_rfl) rfl (by kernel_rfl) fun K hK => ?_
    go_simp
    clear D_t E_t
    generalize hn : World.setCell _ ⟨g_t, 2, none⟩ _ = w38
    replace HX := put1 HX (pD2 hn)
    clear hn
    refine hK.out _ _ ?_
    clear hK K
    try dsimp only
    try simp only [SA]
    refine done_e (by kernel_rfl) ?_ _
    (try simp only [Exit.inBlock, Exit.then])
    go_wp2_with fail
    replace HX := row_ HX (by decide)
    go_meet
    exact ⟨_, (q5 + 1), false, [st_k], _, _, HX⟩
   ·
    replace HX := neg' HX hk3_k
    have D3_k := kn' (k := kt_k) (z := 3) (by omega)
    go_wp2_with fail
    replace HX := row_ HX (by decide)
    go_meet
    exact ⟨_, q5, e.b, [], _, _, HX⟩
 case rest =>
  clear HX
  obtain ⟨m2, q, bb, acc2, av2, cv2, HX⟩ := hcut
  simp only [dataK_eq, some_, bind_assoc'] at HX
  go_wp2_with fail
  refine take' HX (by decide) ?_; clear HX; intro w39 q40 b41 kt_n st_n mt_n qt_n h42 I42 HX
  go_wp2_with fail
  simp only [field49_1]
  have D_t := d16 (bk 1 HX rfl)
  go_upto_region 10 with fail
  clear D_t
  generalize hn : World.setCell _ ⟨g_t, 1, none⟩ _ = w43
  replace HX := put1 HX (pD1 hn)
  clear hn
  go_wp2_with fail
  refine sign' HX ?_; clear HX; intro w44 HX
  go_wp2_with fail
  refine must' HX (sign_c (by kernel_rfl)) ?_; clear HX; intro w45 q46 b47 h48 I48 HX
  go_upto_region 11 with fail
  replace HX := nil' 76 6 HX
  refine reg' HX (cl 2 3 HX rfl rfl) [7] (by kernel_rfl) ?_; clear HX; intro w49 HX hHeld
  refine tk 0 rfl hHeld ?_ (by kernel_rfl) (by kernel_rfl) (by exact fun _ _ _ h => h) (by (intro w h; (try dsimp only at h); go_simp; (try (with_reducible rfl))))
  try simp only [SA]
  refine tk 1 rfl hHeld ?_ (by kernel_rfl) (by kernel_rfl) (by exact fun _ _ _ h => h) (by (intro w h; (try dsimp only at h); go_simp; (try (with_reducible rfl))))
  try simp only [SA]
  refine tk 2 rfl hHeld ?_ (by kernel_rfl) (by kernel_rfl) (by exact fun _ _ _ h => h) (by (intro w h; (try dsimp only at h); go_simp; (try (with_reducible rfl))))
  try simp only [SA]
  refine rdm 3 (by kernel_rfl) rfl fun K hK => ?_
  go_simp
  go_at_call 37
  refine callC HX (HH.out.con) (rk (by decide) HE) ?_; clear HX; intro w50 q51 b52 x_y _ _ _ _ _ _ _ _ h53 HX
  refine hK.out _ _ ((cl 3 3 HX rfl rfl) _ (Fr.refl _ _)) (fun hHeld => ?_)
  clear hK K
  try dsimp only
  try simp only [SA]
  refine rdm 4 (by kernel_rfl) rfl fun K hK => ?_
  go_simp
  generalize hn : w50.alloc _ = w54
  generalize hg : w50.heap.size = g_one
  replace HX := alloc' HX hn hg
  clear hn hg
  refine hK.out _ _ ((cl 4 3 HX rfl rfl) _ (Fr.refl _ _)) (fun hHeld => ?_)
  clear hK K
  try dsimp only
  try simp only [SA]
  refine rdm 5 (by kernel_rfl) rfl fun K hK => ?_
  refine spush' HX elemC (by decide) (Nat.zero_le _) rfl _ _ 36 rfl Tryz.underlying36 rfl rfl (by simp [Value.oneCell']) rfl ?_; clear HX; intro a3 c3 w55 HX
  refine hK.out _ _ ((cl 2 3 HX rfl rfl) _ (Fr.refl _ _)) (fun hHeld => ?_)
  clear hK K
  try dsimp only
  try simp only [SA]
  refine tk 6 rfl hHeld ?_ (by kernel_rfl) (by kernel_rfl) (by exact fun _ _ _ h => h) (by (intro w h; (try dsimp only at h); go_simp; (try (with_reducible rfl))))
  try simp only [SA]
  have D_t := cl' 2 3 HX rfl rfl
  have E_t := fz 2 3 HX rfl
  refine rdl 7 (by kernel_rfl) rfl (by kernel_rfl) fun K hK => ?_
  go_simp
  clear D_t E_t
  generalize hn : World.setCell _ ⟨g_t, 3, none⟩ _ = w56
  replace HX := put2 HX (pD3 hn)
  clear hn
  refine hK.out _ _ ?_
  clear hK K
  try dsimp only
  try simp only [SA]
  refine done_e (by kernel_rfl) ?_ _
  (try simp only [Exit.inBlock, Exit.then])
  go_wp2_with fail
  go_loopw [] (fun wx => ∃ (m q j : Nat) (bb : Bool) (acc : List C) (av : Option Addr) (cv : Nat), m ≤ q + 1 ∧ posR v.gp wx = q ∧ Hid (Cx v e wx q bb [.out 76 6 (.slice av m cv) m (acc.map xC), .row (.row 1 (acc2.map (fun s => [xb s]))) (.slice av2 m2 cv2), .blk g_t [.int .u8 1, .string st_n, .slice av2 m2 cv2, .slice av m cv, .slice none 0 0, .int .u8 0, .string ⟨#[]⟩, .int .i64 0, .slice none 0 0, .int .u8 0, .string ⟨#[]⟩, .int .i64 0, .string ⟨#[]⟩, .slice none 0 0, .slice none 0 0, .slice none 0 0] 46, .blk g_r [.int .u8 0, .string ⟨#[]⟩, .slice none 0 0, .slice none 0 0, .slice none 0 0, .int .u8 0, .string ⟨#[]⟩, .int .i64 0, .slice none 0 0, .int .u8 0, .string ⟨#[]⟩, .int .i64 0, .string ⟨#[]⟩, .slice none 0 0, .slice none 0 0, .slice none 0 0] 46] ((more ⟨#[124]⟩ g.con j acc).bind (dataR acc2 st_n)))) (fun wx => v.l.length - posR v.gp wx)
  case atStart => exact ⟨1, q51, n, b52, [x_y], _, _, by omega, posR_at HX.out.blk, HX⟩
  case round =>
   clear HX
   obtain ⟨m, q, j, bb, acc, av, cv, hmq, hpq, HX⟩ := hrel
   have hm := few HX hmq
   have hq := HX.out.le
   obtain ⟨j2, hv⟩ := more_head rfl (ne' HX)
   replace HX := as' HX hv
   clear hv
   go_wp2_with fail
   refine sign' HX ?_; clear HX; intro w57 HX
   go_wp2_with fail
   refine may' HX (sign_c (by kernel_rfl)) ?_ ?_
   ·
    clear HX; intro w58 h59 HX
    have HG := good' HX
    go_upto_region 13 with fail
    refine reg' HX (cl 2 3 HX rfl rfl) [7] (by kernel_rfl) ?_; clear HX; intro w60 HX hHeld
    refine tk 0 rfl hHeld ?_ (by kernel_rfl) (by kernel_rfl) (by exact fun _ _ _ h => h) (by (intro w h; (try dsimp only at h); go_simp; (try (with_reducible rfl))))
    try simp only [SA]
    refine tk 1 rfl hHeld ?_ (by kernel_rfl) (by kernel_rfl) (by exact fun _ _ _ h => h) (by (intro w h; (try dsimp only at h); go_simp; (try (with_reducible rfl))))
    try simp only [SA]
    refine tk 2 rfl hHeld ?_ (by kernel_rfl) (by kernel_rfl) (by exact fun _ _ _ h => h) (by (intro w h; (try dsimp only at h); go_simp; (try (with_reducible rfl))))
    try simp only [SA]
    refine rdm 3 (by kernel_rfl) rfl fun K hK => ?_
    go_simp
    go_at_call 37
    refine callC HX (HH.out.con) (.inr HG.out) ?_; clear HX; intro w61 q62 b63 x_y _ _ _ _ _ _ _ _ h64 HX
    refine hK.out _ _ ((cl 3 3 HX rfl rfl) _ (Fr.refl _ _)) (fun hHeld => ?_)
    clear hK K
    try dsimp only
    try simp only [SA]
    refine rdm 4 (by kernel_rfl) rfl fun K hK => ?_
    go_simp
    generalize hn : w61.alloc _ = w65
    generalize hg : w61.heap.size = g_one
    replace HX := alloc' HX hn hg
    clear hn hg
    refine hK.out _ _ ((cl 4 3 HX rfl rfl) _ (Fr.refl _ _)) (fun hHeld => ?_)
    clear hK K
    try dsimp only
    try simp only [SA]
    refine rdm 5 (by kernel_rfl) rfl fun K hK => ?_
    refine spush' HX elemC (by decide) hm rfl _ _ 36 rfl Tryz.underlying36 rfl rfl (by simp [Value.oneCell']) rfl ?_; clear HX; intro a3 c3 w66 HX
    replace HX := snoc' HX
    refine hK.out _ _ ((cl 2 3 HX rfl rfl) _ (Fr.refl _ _)) (fun hHeld => ?_)
    clear hK K
    try dsimp only
    try simp only [SA]
    refine tk 6 rfl hHeld ?_ (by kernel_rfl) (by kernel_rfl) (by exact fun _ _ _ h => h) (by (intro w h; (try dsimp only at h); go_simp; (try (with_reducible rfl))))
    try simp only [SA]
    have D_t := cl' 2 3 HX rfl rfl
    have E_t := fz 2 3 HX rfl
    refine rdl 7 (by kernel_rfl) rfl (by kernel_rfl) fun K hK => ?_
    go_simp
    clear D_t E_t
    generalize hn : World.setCell _ ⟨g_t, 3, none⟩ _ = w67
    replace HX := put2 HX (pD3 hn)
    clear hn
    refine hK.out _ _ ?_
    clear hK K
    try dsimp only
    try simp only [SA]
    refine done_e (by kernel_rfl) ?_ _
    (try simp only [Exit.inBlock, Exit.then])
    go_wp2_with fail
    exact ⟨⟨m + 1, q62, j2, b63, acc ++ [x_y], a3, c3, by omega, posR_at HX.out.blk, HX⟩, by rw [posR_at HX.out.blk, hpq]; have := HX.out.le; omega⟩
   ·
    clear HX; intro w68 HX
    simp only [dataR] at HX
    replace HX := row_ HX (by decide)
    have D_t := d16 (bk 2 HX rfl)
    have D_r := d16 (bk 3 HX rfl)
    go_wp2_with fail
    clear D_t D_r
    generalize hn : World.setCell _ ⟨g_r, 15, none⟩ _ = w69
    replace HX := put3 HX (pD hn)
    clear hn
    exact ret' 3 HX rfl Tryz.underlying46 (by kernel_rfl) rfl rfl rfl rfl (hcD_mk 1 st_n (rw' 1 HX rfl) (rw' 0 HX rfl) (hx_nil _) hc_zT hc_zE)
end Go.Proofs.YtjabhmepafofmaaGreatDoor
