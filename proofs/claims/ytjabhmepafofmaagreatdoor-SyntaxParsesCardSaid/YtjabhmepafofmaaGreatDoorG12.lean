/- Xda, Xde, Wda, Wde -/
import Derived.Test.YtjabhmepafofmaaGreatDoorG11
import Derived.Test.YtjabhmepafofmaaGreatDoorG09
set_option linter.unusedVariables false
set_option linter.unusedSimpArgs false
namespace Go.Proofs.YtjabhmepafofmaaGreatDoor
open Go.RowKit
def dataK (n : Nat) (g : Gr) (v : List ByteArray) : Pr D := (take 1).bind fun s => (must ⟨#[61]⟩).bind fun _ => (some_ n ⟨#[124]⟩ g.con).bind fun l => .ret (.mk 1 s v l [] zT zE)
def varsK (n : Nat) (g : Gr) (v : List ByteArray) : Pr D := (must ⟨#[41]⟩).bind fun _ => dataK n g v
def dataP (n m : Nat) (g : Gr) : Pr D := (Gr.pVars m).bind (dataK n g)
theorem data_eq (n m : Nat) (g : Gr) : dataP n m g = (skip [⟨#[40]⟩]).bind fun b => if b = true then (take 3).bind fun x => (more ⟨#[44]⟩ (take 3) m [x]).bind (varsK n g) else next.bind fun k => if k.kind = 3 then (take 3).bind fun s => dataK n g [s] else dataK n g [] := by
 unfold dataP Gr.pVars
 rw [bind_assoc']
 congr 1
 funext b
 cases b with
 | false =>
  show (next.bind _).bind _ = next.bind _
  rw [bind_assoc']
  congr 1
  funext k
  by_cases h : k.kind = 3
  ·
   rw [if_pos h, if_pos h, bind_assoc']
   rfl
  ·
   rw [if_neg h, if_neg h]
   rfl
 | true =>
  show ((some_ m _ _).bind _).bind _ = (take 3).bind _
  rw [bind_assoc', some_, bind_assoc']
  congr 1
  funext x
  congr 1
  funext v
  rw [bind_assoc']
  rfl
def dataR (v : List ByteArray) (s : ByteArray) (l : List C) : Pr D := .ret (.mk 1 s v l [] zT zE)
theorem dataK_eq (n : Nat) (g : Gr) (v : List ByteArray) : dataK n g v = (take 1).bind fun s => (must ⟨#[61]⟩).bind fun _ => (some_ n ⟨#[124]⟩ g.con).bind (dataR v s) := rfl
set_option maxHeartbeats 4000000 in
set_option maxRecDepth 100000 in
theorem data_x {v : Vw} {g : Gr} {n m : Nat} (h : QOks v g) : QC v.dn 5 36 [] (stE xD) (dataP n m g) := qc fun e he HX => by
 have HH := Lib.hid h
 have HE := Lib.hid he
 clear h he
 simp only [data_eq] at HX
 go_enter Tryz.func36, Tryz.ntmps36
 go_upto_region 1 with fail
 generalize hn : e.w.alloc _ = w1
 generalize hg : e.w.heap.size = g_r
 replace HX := alloc' HX hn hg
 clear hn hg
 go_upto_region 2 with fail
 generalize hn : w1.alloc _ = w2
 generalize hg : w1.heap.size = g_t
 replace HX := alloc' HX hn hg
 clear hn hg
 replace HX := nil' 9 1 HX
 go_wp2_with fail
 refine sign' HX ?_; clear HX; intro w3 HX
 go_wp2_with fail
 refine mayb' HX (sign_c (by kernel_rfl)) ?_; clear HX; intro w4 c6 q5 HM HX
 go_upto_if 8 with fail
 go_cut [] from 9 to 44 (fun wx => ∃ (m2 q : Nat) (bb : Bool) (acc : List ByteArray) (av : Option Addr) (cv : Nat), Hid (Cx v e wx q bb [.row (.row 1 (acc.map (fun s => [xb s]))) (.slice av m2 cv), .blk g_t [.int .u8 1, .string ⟨#[]⟩, .slice av m2 cv, .slice none 0 0, .slice none 0 0, .int .u8 0, .string ⟨#[]⟩, .int .i64 0, .slice none 0 0, .int .u8 0, .string ⟨#[]⟩, .int .i64 0, .string ⟨#[]⟩, .slice none 0 0, .slice none 0 0, .slice none 0 0] 46, .blk g_r [.int .u8 0, .string ⟨#[]⟩, .slice none 0 0, .slice none 0 0, .slice none 0 0, .int .u8 0, .string ⟨#[]⟩, .int .i64 0, .slice none 0 0, .int .u8 0, .string ⟨#[]⟩, .int .i64 0, .string ⟨#[]⟩, .slice none 0 0, .slice none 0 0, .slice none 0 0] 46] (dataK n g acc)))
 case first =>
  cases c6 with
  | true =>
   replace HX := pos' HX (by decide)
   go_upto_region 3 with fail
   refine reg' HX (cl 1 2 HX rfl rfl) [8] (by kernel_rfl) ?_; clear HX; intro w7 HX hHeld
   refine tk 0 rfl hHeld ?_
   try simp only [SA]
   refine tk 1 rfl hHeld ?_
   try simp only [SA]
   refine tk 2 rfl hHeld ?_
   try simp only [SA]
   refine rdm 3 (by kernel_rfl) rfl fun K hK => ?_
   go_simp
   go_at_call 33
   refine take' HX (by decide) ?_; clear HX; intro w8 q9 b10 kt_a st_a mt_a qt_a h11 I11 HX
   refine hK.out _ _ ((cl 1 2 HX rfl rfl) _ (Fr.refl _ _)) (fun hHeld => ?_)
   clear hK K
   try dsimp only
   try simp only [SA]
   refine tkf 4 rfl hHeld ?_
   try simp only [SA]
   (try simp only [field49_1])
   refine rdm 5 (by kernel_rfl) rfl fun K hK => ?_
   go_simp
   generalize hn : w8.alloc _ = w12
   generalize hg : w8.heap.size = g_one
   replace HX := alloc' HX hn hg
   clear hn hg
   replace HX := str' HX
   refine hK.out _ _ ((cl 3 2 HX rfl rfl) _ (Fr.refl _ _)) (fun hHeld => ?_)
   clear hK K
   try dsimp only
   try simp only [SA]
   refine rdm 6 (by kernel_rfl) rfl fun K hK => ?_
   refine spush' HX elemS (by decide) (Nat.zero_le _) rfl _ _ 35 rfl Tryz.underlying35 rfl rfl (by simp [Value.oneCell']) rfl ?_; clear HX; intro a3 c3 w13 HX
   refine hK.out _ _ ((cl 1 2 HX rfl rfl) _ (Fr.refl _ _)) (fun hHeld => ?_)
   clear hK K
   try dsimp only
   try simp only [SA]
   refine tk 7 rfl hHeld ?_
   try simp only [SA]
   have D_t := cl' 1 2 HX rfl rfl
   have E_t := fz 1 2 HX rfl
   refine rdl 8 (by kernel_rfl) rfl (by kernel_rfl) fun K hK => ?_
   go_simp
   clear D_t E_t
   generalize hn : World.setCell _ ⟨g_t, 2, none⟩ _ = w14
   replace HX := put1 HX (pD2 hn)
   clear hn
   refine hK.out _ _ ?_
   clear hK K
   try dsimp only
   try simp only [SA]
   refine done_e (by kernel_rfl) ?_ _
   (try simp only [Exit.inBlock, Exit.then])
   go_wp2_with fail
   go_loopw [] (fun wx => ∃ (m q j : Nat) (bb : Bool) (acc : List ByteArray) (av : Option Addr) (cv : Nat), m ≤ q + 1 ∧ posR v.gp wx = q ∧ Hid (Cx v e wx q bb [.out 9 1 (.slice av m cv) m (acc.map (fun s => [xb s])), .blk g_t [.int .u8 1, .string ⟨#[]⟩, .slice av m cv, .slice none 0 0, .slice none 0 0, .int .u8 0, .string ⟨#[]⟩, .int .i64 0, .slice none 0 0, .int .u8 0, .string ⟨#[]⟩, .int .i64 0, .string ⟨#[]⟩, .slice none 0 0, .slice none 0 0, .slice none 0 0] 46, .blk g_r [.int .u8 0, .string ⟨#[]⟩, .slice none 0 0, .slice none 0 0, .slice none 0 0, .int .u8 0, .string ⟨#[]⟩, .int .i64 0, .slice none 0 0, .int .u8 0, .string ⟨#[]⟩, .int .i64 0, .string ⟨#[]⟩, .slice none 0 0, .slice none 0 0, .slice none 0 0] 46] ((more ⟨#[44]⟩ (take 3) j acc).bind (varsK n g)))) (fun wx => v.l.length - posR v.gp wx)
   case atStart => exact ⟨1, q9, m, b10, [st_a], _, _, by omega, posR_at HX.out.blk, HX⟩
   case round =>
    clear HX
    obtain ⟨m, q, j, bb, acc, av, cv, hmq, hpq, HX⟩ := hrel
    have hm := few HX hmq
    have hq := HX.out.le
    obtain ⟨j2, hv⟩ := more_head rfl (ne' HX)
    replace HX := as' HX hv
    clear hv
    go_wp2_with fail
    refine sign' HX ?_; clear HX; intro w15 HX
    go_wp2_with fail
    refine may' HX (sign_c (by kernel_rfl)) ?_ ?_
    ·
     clear HX; intro w16 h17 HX
     have HG := good' HX
     go_upto_region 5 with fail
     refine reg' HX (cl 1 2 HX rfl rfl) [8] (by kernel_rfl) ?_; clear HX; intro w18 HX hHeld
     refine tk 0 rfl hHeld ?_
     try simp only [SA]
     refine tk 1 rfl hHeld ?_
     try simp only [SA]
     refine tk 2 rfl hHeld ?_
     try simp only [SA]
     refine rdm 3 (by kernel_rfl) rfl fun K hK => ?_
     go_simp
     go_at_call 33
     refine take' HX (by decide) ?_; clear HX; intro w19 q20 b21 kt_y st_y mt_y qt_y h22 I22 HX
     refine hK.out _ _ ((cl 1 2 HX rfl rfl) _ (Fr.refl _ _)) (fun hHeld => ?_)
     clear hK K
     try dsimp only
     try simp only [SA]
     refine tkf 4 rfl hHeld ?_
     try simp only [SA]
     (try simp only [field49_1])
     refine rdm 5 (by kernel_rfl) rfl fun K hK => ?_
     go_simp
     generalize hn : w19.alloc _ = w23
     generalize hg : w19.heap.size = g_one
     replace HX := alloc' HX hn hg
     clear hn hg
     replace HX := str' HX
     refine hK.out _ _ ((cl 3 2 HX rfl rfl) _ (Fr.refl _ _)) (fun hHeld => ?_)
     clear hK K
     try dsimp only
     try simp only [SA]
     refine rdm 6 (by kernel_rfl) rfl fun K hK => ?_
     refine spush' HX elemS (by decide) hm rfl _ _ 35 rfl Tryz.underlying35 rfl rfl (by simp [Value.oneCell']) rfl ?_; clear HX; intro a3 c3 w24 HX
     replace HX := snoc' HX
     refine hK.out _ _ ((cl 1 2 HX rfl rfl) _ (Fr.refl _ _)) (fun hHeld => ?_)
     clear hK K
     try dsimp only
     try simp only [SA]
     refine tk 7 rfl hHeld ?_
     try simp only [SA]
     have D_t := cl' 1 2 HX rfl rfl
     have E_t := fz 1 2 HX rfl
     refine rdl 8 (by kernel_rfl) rfl (by kernel_rfl) fun K hK => ?_
     go_simp
     clear D_t E_t
     generalize hn : World.setCell _ ⟨g_t, 2, none⟩ _ = w25
     replace HX := put1 HX (pD2 hn)
     clear hn
     refine hK.out _ _ ?_
     clear hK K
     try dsimp only
     try simp only [SA]
     refine done_e (by kernel_rfl) ?_ _
     (try simp only [Exit.inBlock, Exit.then])
     go_wp2_with fail
     exact ⟨⟨m + 1, q20, j2, b21, acc ++ [st_y], a3, c3, by omega, posR_at HX.out.blk, HX⟩, by rw [posR_at HX.out.blk, hpq]; have := HX.out.le; omega⟩
    ·
     clear HX; intro w26 HX
     simp only [varsK] at HX
     go_wp2_with fail
     refine sign' HX ?_; clear HX; intro w27 HX
     go_wp2_with fail
     refine must' HX (sign_c (by kernel_rfl)) ?_; clear HX; intro w28 q29 b30 h31 I31 HX
     go_wp2_with fail
     replace HX := row_ HX (by decide)
     go_meet
     exact ⟨_, q29, b30, _, _, _, HX⟩
  | false =>
   replace HX := neg' HX (by decide)
   go_wp2_with fail
   refine next' HX ?_; clear HX; intro w32 kt_k st_k mt_k qt_k HT_k HX
   go_wp2_with fail
   simp only [field49_0]
   by_cases hk3_k : kt_k = 3
   ·
    replace HX := pos' HX hk3_k
    have D3_k := kq (k := kt_k) (z := 3) (by omega)
    go_upto_region 8 with fail
    refine reg' HX (cl 1 2 HX rfl rfl) [8] (by kernel_rfl) ?_; clear HX; intro w33 HX hHeld
    refine tk 0 rfl hHeld ?_
    try simp only [SA]
    refine tk 1 rfl hHeld ?_
    try simp only [SA]
    refine tk 2 rfl hHeld ?_
    try simp only [SA]
    refine rdm 3 (by kernel_rfl) rfl fun K hK => ?_
    go_simp
    go_at_call 33
    refine takek' HX HT_k hk3_k (by decide) ?_; clear HX; intro w34 h35 HX
    have HG := good' HX
    refine hK.out _ _ ((cl 1 2 HX rfl rfl) _ (Fr.refl _ _)) (fun hHeld => ?_)
    clear hK K
    try dsimp only
    try simp only [SA]
    refine tkf 4 rfl hHeld ?_
    try simp only [SA]
    (try simp only [field49_1])
    refine rdm 5 (by kernel_rfl) rfl fun K hK => ?_
    go_simp
    generalize hn : w34.alloc _ = w36
    generalize hg : w34.heap.size = g_one
    replace HX := alloc' HX hn hg
    clear hn hg
    replace HX := str' HX
    refine hK.out _ _ ((cl 3 2 HX rfl rfl) _ (Fr.refl _ _)) (fun hHeld => ?_)
    clear hK K
    try dsimp only
    try simp only [SA]
    refine rdm 6 (by kernel_rfl) rfl fun K hK => ?_
    refine spush' HX elemS (by decide) (Nat.zero_le _) rfl _ _ 35 rfl Tryz.underlying35 rfl rfl (by simp [Value.oneCell']) rfl ?_; clear HX; intro a3 c3 w37 HX
    refine hK.out _ _ ((cl 1 2 HX rfl rfl) _ (Fr.refl _ _)) (fun hHeld => ?_)
    clear hK K
    try dsimp only
    try simp only [SA]
    refine tk 7 rfl hHeld ?_
    try simp only [SA]
    have D_t := cl' 1 2 HX rfl rfl
    have E_t := fz 1 2 HX rfl
    refine rdl 8 (by kernel_rfl) rfl (by kernel_rfl) fun K hK => ?_
    go_simp
    clear D_t E_t
    generalize hn : World.setCell _ ⟨g_t, 2, none⟩ _ = w38
    replace HX := put1 HX (pD2 hn)
    clear hn
    refine hK.out _ _ ?_
    clear hK K
    try dsimp only
    try simp only [SA]
    refine done_e (by kernel_rfl) ?_ _
    (try simp only [Exit.inBlock, Exit.then])
    go_wp2_with fail
    replace HX := row_ HX (by decide)
    go_meet
    exact ⟨_, (q5 + 1), false, [st_k], _, _, HX⟩
   ·
    replace HX := neg' HX hk3_k
    have D3_k := kn' (k := kt_k) (z := 3) (by omega)
    go_wp2_with fail
    replace HX := row_ HX (by decide)
    go_meet
    exact ⟨_, q5, e.b, [], _, _, HX⟩
 case rest =>
  clear HX
  obtain ⟨m2, q, bb, acc2, av2, cv2, HX⟩ := hcut
  simp only [dataK_eq, some_, bind_assoc'] at HX
  go_wp2_with fail
  refine take' HX (by decide) ?_; clear HX; intro w39 q40 b41 kt_n st_n mt_n qt_n h42 I42 HX
  go_wp2_with fail
  simp only [field49_1]
  have D_t := d16 (bk 1 HX rfl)
  go_upto_region 10 with fail
  clear D_t
  generalize hn : World.setCell _ ⟨g_t, 1, none⟩ _ = w43
  replace HX := put1 HX (pD1 hn)
  clear hn
  go_wp2_with fail
  refine sign' HX ?_; clear HX; intro w44 HX
  go_wp2_with fail
  refine must' HX (sign_c (by kernel_rfl)) ?_; clear HX; intro w45 q46 b47 h48 I48 HX
  go_upto_region 11 with fail
  replace HX := nil' 76 6 HX
  refine reg' HX (cl 2 3 HX rfl rfl) [7] (by kernel_rfl) ?_; clear HX; intro w49 HX hHeld
  refine tk 0 rfl hHeld ?_
  try simp only [SA]
  refine tk 1 rfl hHeld ?_
  try simp only [SA]
  refine tk 2 rfl hHeld ?_
  try simp only [SA]
  refine rdm 3 (by kernel_rfl) rfl fun K hK => ?_
  go_simp
  go_at_call 37
  refine callC HX (HH.out.con) (rk (by decide) HE) ?_; clear HX; intro w50 q51 b52 x_y _ _ _ _ _ _ _ _ h53 HX
  refine hK.out _ _ ((cl 3 3 HX rfl rfl) _ (Fr.refl _ _)) (fun hHeld => ?_)
  clear hK K
  try dsimp only
  try simp only [SA]
  refine rdm 4 (by kernel_rfl) rfl fun K hK => ?_
  go_simp
  generalize hn : w50.alloc _ = w54
  generalize hg : w50.heap.size = g_one
  replace HX := alloc' HX hn hg
  clear hn hg
  refine hK.out _ _ ((cl 4 3 HX rfl rfl) _ (Fr.refl _ _)) (fun hHeld => ?_)
  clear hK K
  try dsimp only
  try simp only [SA]
  refine rdm 5 (by kernel_rfl) rfl fun K hK => ?_
  refine spush' HX elemC (by decide) (Nat.zero_le _) rfl _ _ 36 rfl Tryz.underlying36 rfl rfl (by simp [Value.oneCell']) rfl ?_; clear HX; intro a3 c3 w55 HX
  refine hK.out _ _ ((cl 2 3 HX rfl rfl) _ (Fr.refl _ _)) (fun hHeld => ?_)
  clear hK K
  try dsimp only
  try simp only [SA]
  refine tk 6 rfl hHeld ?_
  try simp only [SA]
  have D_t := cl' 2 3 HX rfl rfl
  have E_t := fz 2 3 HX rfl
  refine rdl 7 (by kernel_rfl) rfl (by kernel_rfl) fun K hK => ?_
  go_simp
  clear D_t E_t
  generalize hn : World.setCell _ ⟨g_t, 3, none⟩ _ = w56
  replace HX := put2 HX (pD3 hn)
  clear hn
  refine hK.out _ _ ?_
  clear hK K
  try dsimp only
  try simp only [SA]
  refine done_e (by kernel_rfl) ?_ _
  (try simp only [Exit.inBlock, Exit.then])
  go_wp2_with fail
  go_loopw [] (fun wx => ∃ (m q j : Nat) (bb : Bool) (acc : List C) (av : Option Addr) (cv : Nat), m ≤ q + 1 ∧ posR v.gp wx = q ∧ Hid (Cx v e wx q bb [.out 76 6 (.slice av m cv) m (acc.map xC), .row (.row 1 (acc2.map (fun s => [xb s]))) (.slice av2 m2 cv2), .blk g_t [.int .u8 1, .string st_n, .slice av2 m2 cv2, .slice av m cv, .slice none 0 0, .int .u8 0, .string ⟨#[]⟩, .int .i64 0, .slice none 0 0, .int .u8 0, .string ⟨#[]⟩, .int .i64 0, .string ⟨#[]⟩, .slice none 0 0, .slice none 0 0, .slice none 0 0] 46, .blk g_r [.int .u8 0, .string ⟨#[]⟩, .slice none 0 0, .slice none 0 0, .slice none 0 0, .int .u8 0, .string ⟨#[]⟩, .int .i64 0, .slice none 0 0, .int .u8 0, .string ⟨#[]⟩, .int .i64 0, .string ⟨#[]⟩, .slice none 0 0, .slice none 0 0, .slice none 0 0] 46] ((more ⟨#[124]⟩ g.con j acc).bind (dataR acc2 st_n)))) (fun wx => v.l.length - posR v.gp wx)
  case atStart => exact ⟨1, q51, n, b52, [x_y], _, _, by omega, posR_at HX.out.blk, HX⟩
  case round =>
   clear HX
   obtain ⟨m, q, j, bb, acc, av, cv, hmq, hpq, HX⟩ := hrel
   have hm := few HX hmq
   have hq := HX.out.le
   obtain ⟨j2, hv⟩ := more_head rfl (ne' HX)
   replace HX := as' HX hv
   clear hv
   go_wp2_with fail
   refine sign' HX ?_; clear HX; intro w57 HX
   go_wp2_with fail
   refine may' HX (sign_c (by kernel_rfl)) ?_ ?_
   ·
    clear HX; intro w58 h59 HX
    have HG := good' HX
    go_upto_region 13 with fail
    refine reg' HX (cl 2 3 HX rfl rfl) [7] (by kernel_rfl) ?_; clear HX; intro w60 HX hHeld
    refine tk 0 rfl hHeld ?_
    try simp only [SA]
    refine tk 1 rfl hHeld ?_
    try simp only [SA]
    refine tk 2 rfl hHeld ?_
    try simp only [SA]
    refine rdm 3 (by kernel_rfl) rfl fun K hK => ?_
    go_simp
    go_at_call 37
    refine callC HX (HH.out.con) (.inr HG.out) ?_; clear HX; intro w61 q62 b63 x_y _ _ _ _ _ _ _ _ h64 HX
    refine hK.out _ _ ((cl 3 3 HX rfl rfl) _ (Fr.refl _ _)) (fun hHeld => ?_)
    clear hK K
    try dsimp only
    try simp only [SA]
    refine rdm 4 (by kernel_rfl) rfl fun K hK => ?_
    go_simp
    generalize hn : w61.alloc _ = w65
    generalize hg : w61.heap.size = g_one
    replace HX := alloc' HX hn hg
    clear hn hg
    refine hK.out _ _ ((cl 4 3 HX rfl rfl) _ (Fr.refl _ _)) (fun hHeld => ?_)
    clear hK K
    try dsimp only
    try simp only [SA]
    refine rdm 5 (by kernel_rfl) rfl fun K hK => ?_
    refine spush' HX elemC (by decide) hm rfl _ _ 36 rfl Tryz.underlying36 rfl rfl (by simp [Value.oneCell']) rfl ?_; clear HX; intro a3 c3 w66 HX
    replace HX := snoc' HX
    refine hK.out _ _ ((cl 2 3 HX rfl rfl) _ (Fr.refl _ _)) (fun hHeld => ?_)
    clear hK K
    try dsimp only
    try simp only [SA]
    refine tk 6 rfl hHeld ?_
    try simp only [SA]
    have D_t := cl' 2 3 HX rfl rfl
    have E_t := fz 2 3 HX rfl
    refine rdl 7 (by kernel_rfl) rfl (by kernel_rfl) fun K hK => ?_
    go_simp
    clear D_t E_t
    generalize hn : World.setCell _ ⟨g_t, 3, none⟩ _ = w67
    replace HX := put2 HX (pD3 hn)
    clear hn
    refine hK.out _ _ ?_
    clear hK K
    try dsimp only
    try simp only [SA]
    refine done_e (by kernel_rfl) ?_ _
    (try simp only [Exit.inBlock, Exit.then])
    go_wp2_with fail
    exact ⟨⟨m + 1, q62, j2, b63, acc ++ [x_y], a3, c3, by omega, posR_at HX.out.blk, HX⟩, by rw [posR_at HX.out.blk, hpq]; have := HX.out.le; omega⟩
   ·
    clear HX; intro w68 HX
    simp only [dataR] at HX
    replace HX := row_ HX (by decide)
    have D_t := d16 (bk 2 HX rfl)
    have D_r := d16 (bk 3 HX rfl)
    go_wp2_with fail
    clear D_t D_r
    generalize hn : World.setCell _ ⟨g_r, 15, none⟩ _ = w69
    replace HX := put3 HX (pD hn)
    clear hn
    exact ret' 3 HX rfl Tryz.underlying46 (by kernel_rfl) rfl rfl rfl rfl (hcD_mk 1 st_n (rw' 1 HX rfl) (rw' 0 HX rfl) (hx_nil _) hc_zT hc_zE)
end Go.Proofs.YtjabhmepafofmaaGreatDoor
namespace Go.Proofs.YtjabhmepafofmaaGreatDoor
open Go.RowKit
def decF (l : List F) : Pr D := .ret (.mk 4 nob [] [] l zT zE)
def decV (g : Gr) : Pr D := (take 1).bind fun s => (must ⟨#[61]⟩).bind fun _ => g.exp.bind fun e => .ret (.mk 3 s [] [] [] zT e)
def decO (g : Gr) : Pr D := g.exp.bind fun e => .ret (.mk 6 nob [] [] [] zT e)
def decX (g : Gr) : Pr D := g.con.bind fun c => .ret (.mk 2 nob [] [c] [] zT zE)
def decR (g : Gr) : Pr D := (take 1).bind fun s => (must ⟨#[58]⟩).bind fun _ => g.ty.bind fun t => (must ⟨#[61]⟩).bind fun _ => g.exp.bind fun e => .ret (.mk 5 s [] [] [] t e)
def decW (g : Gr) (n : Nat) : Pr D := (skip [⟨#[100, 97, 116, 97, 116, 121, 112, 101]⟩]).bind fun b => if b = true then g.vars.bind (dataK n g) else (skip [⟨#[101, 120, 99, 101, 112, 116, 105, 111, 110]⟩]).bind fun b => if b = true then decX g else (skip [⟨#[114, 111, 111, 116]⟩]).bind fun b => if b = true then decR g else .fail
theorem pDec_eq (g : Gr) (n : Nat) (whole : Bool) : g.pDec n whole = (skip [⟨#[118, 97, 108]⟩]).bind fun b => if b = true then decV g else (skip [⟨#[102, 117, 110]⟩]).bind fun b => if b = true then (some_ n ⟨#[97, 110, 100]⟩ g.fun_).bind decF else (skip [⟨#[100, 111]⟩]).bind fun b => if b = true then decO g else if whole = false then .fail else decW g n := rfl
set_option maxHeartbeats 4000000 in
set_option maxRecDepth 100000 in
theorem dec_v {v : Vw} {g : Gr} {n : Nat} {whole : Bool} {e : Ev D} (h : QOks v g) (HX : Hid (Cx v e e.w e.p e.b [] (g.pDec n whole))) (he : e.r = 0) (h0 : wordB (rtok v.l e.p e.b) ⟨#[118, 97, 108]⟩ = true) : Calls Tryz.prog 14 (v.ptr :: [.bool whole]).toArray e.w (QP v e (stE xD)) := by
 have HH := Lib.hid h
 have HE := Lib.hid he
 clear h he
 have H0 := Lib.hid h0
 clear h0
 simp only [pDec_eq] at HX
 go_enter Tryz.func14, Tryz.ntmps14
 go_upto_region 1 with fail
 generalize hn : e.w.alloc _ = w1
 generalize hg : e.w.heap.size = g_r
 replace HX := alloc' HX hn hg
 clear hn hg
 go_wp2_with fail
 refine word' HX ?_; clear HX; intro w2 HX
 go_wp2_with fail
 refine mayy' HX (word_c (by kernel_rfl)) H0 word_lt ?_; clear HX; intro w3 HX
 have HG := good' HX
 simp only [decV] at HX
 go_wp2_with fail
 refine take' HX (by decide) ?_; clear HX; intro w4 q5 b6 kt_s st_s mt_s qt_s h7 I7 HX
 go_wp2_with fail
 simp only [field49_1]
 go_upto_region 3 with fail
 generalize hn : w4.alloc _ = w8
 generalize hg : w4.heap.size = g_t
 replace HX := alloc' HX hn hg
 clear hn hg
 go_wp2_with fail
 refine sign' HX ?_; clear HX; intro w9 HX
 go_wp2_with fail
 refine must' HX (sign_c (by kernel_rfl)) ?_; clear HX; intro w10 q11 b12 h13 I13 HX
 go_wp2_with fail
 refine callE HX (HH.out.exp) (.inr HG.out) ?_; clear HX; intro w14 q15 b16 x_e _ _ _ _ _ _ _ _ _ _ _ _ _ h17 HX
 have D_t := d16 (bk 1 HX rfl)
 go_upto_region 5 with fail
 clear D_t
 generalize hn : World.setCell _ ⟨g_t, 15, none⟩ _ = w18
 replace HX := put1 HX (pD9 hn)
 clear hn
 have D_t := d16 (bk 1 HX rfl)
 have D_r := d16 (bk 2 HX rfl)
 go_wp2_with fail
 clear D_t D_r
 generalize hn : World.setCell _ ⟨g_r, 15, none⟩ _ = w19
 replace HX := put2 HX (pD hn)
 clear hn
 exact ret' 2 HX rfl Tryz.underlying46 (by kernel_rfl) rfl rfl rfl rfl (hcD_mk 3 st_s (hx_nil _) (hx_nil _) (hx_nil _) hc_zT (vl 0 HX rfl))
set_option maxHeartbeats 4000000 in
set_option maxRecDepth 100000 in
theorem dec_f {v : Vw} {g : Gr} {n : Nat} {whole : Bool} {e : Ev D} (h : QOks v g) (HX : Hid (Cx v e e.w e.p e.b [] (g.pDec n whole))) (he : e.r = 0) (h0 : wordB (rtok v.l e.p e.b) ⟨#[118, 97, 108]⟩ = false) (h1 : wordB (rtok v.l e.p e.b) ⟨#[102, 117, 110]⟩ = true) : Calls Tryz.prog 14 (v.ptr :: [.bool whole]).toArray e.w (QP v e (stE xD)) := by
 have HH := Lib.hid h
 have HE := Lib.hid he
 clear h he
 have H0 := Lib.hid h0
 clear h0
 have H1 := Lib.hid h1
 clear h1
 simp only [pDec_eq] at HX
 go_enter Tryz.func14, Tryz.ntmps14
 go_upto_region 1 with fail
 generalize hn : e.w.alloc _ = w1
 generalize hg : e.w.heap.size = g_r
 replace HX := alloc' HX hn hg
 clear hn hg
 go_wp2_with fail
 refine word' HX ?_; clear HX; intro w2 HX
 go_wp2_with fail
 refine mayn' HX (word_c (by kernel_rfl)) H0 ?_; clear HX; intro w3 HX
 go_wp2_with fail
 refine word' HX ?_; clear HX; intro w4 HX
 go_wp2_with fail
 refine mayy' HX (word_c (by kernel_rfl)) H1 word_lt ?_; clear HX; intro w5 HX
 have HG := good' HX
 simp only [some_, bind_assoc'] at HX
 go_upto_region 8 with fail
 generalize hn : w5.alloc _ = w6
 generalize hg : w5.heap.size = g_t
 replace HX := alloc' HX hn hg
 clear hn hg
 replace HX := nil' 71 9 HX
 refine reg' HX (cl 1 4 HX rfl rfl) [7] (by kernel_rfl) ?_; clear HX; intro w7 HX hHeld
 refine tk 0 rfl hHeld ?_
 try simp only [SA]
 refine tk 1 rfl hHeld ?_
 try simp only [SA]
 refine tk 2 rfl hHeld ?_
 try simp only [SA]
 refine rdm 3 (by kernel_rfl) rfl fun K hK => ?_
 go_simp
 go_at_call 35
 refine callF HX (HH.out.fun_) (.inr HG.out) ?_; clear HX; intro w8 q9 b10 x_y _ _ _ _ _ _ _ _ _ _ _ _ _ _ _ _ _ h11 HX
 refine hK.out _ _ ((cl 2 4 HX rfl rfl) _ (Fr.refl _ _)) (fun hHeld => ?_)
 clear hK K
 try dsimp only
 try simp only [SA]
 refine rdm 4 (by kernel_rfl) rfl fun K hK => ?_
 go_simp
 generalize hn : w8.alloc _ = w12
 generalize hg : w8.heap.size = g_one
 replace HX := alloc' HX hn hg
 clear hn hg
 refine hK.out _ _ ((cl 3 4 HX rfl rfl) _ (Fr.refl _ _)) (fun hHeld => ?_)
 clear hK K
 try dsimp only
 try simp only [SA]
 refine rdm 5 (by kernel_rfl) rfl fun K hK => ?_
 refine spush' HX elemF (by decide) (Nat.zero_le _) rfl _ _ 37 rfl Tryz.underlying37 rfl rfl (by simp [Value.oneCell']) rfl ?_; clear HX; intro a3 c3 w13 HX
 refine hK.out _ _ ((cl 1 4 HX rfl rfl) _ (Fr.refl _ _)) (fun hHeld => ?_)
 clear hK K
 try dsimp only
 try simp only [SA]
 refine tk 6 rfl hHeld ?_
 try simp only [SA]
 have D_t := cl' 1 4 HX rfl rfl
 have E_t := fz 1 4 HX rfl
 refine rdl 7 (by kernel_rfl) rfl (by kernel_rfl) fun K hK => ?_
 go_simp
 clear D_t E_t
 generalize hn : World.setCell _ ⟨g_t, 4, none⟩ _ = w14
 replace HX := put1 HX (pD4 hn)
 clear hn
 refine hK.out _ _ ?_
 clear hK K
 try dsimp only
 try simp only [SA]
 refine done_e (by kernel_rfl) ?_ _
 (try simp only [Exit.inBlock, Exit.then])
 go_wp2_with fail
 go_loopw [] (fun wx => ∃ (m q j : Nat) (bb : Bool) (acc : List F) (av : Option Addr) (cv : Nat), m ≤ q + 1 ∧ posR v.gp wx = q ∧ Hid (Cx v e wx q bb [.out 71 9 (.slice av m cv) m (acc.map xF), .blk g_t [.int .u8 4, .string ⟨#[]⟩, .slice none 0 0, .slice none 0 0, .slice av m cv, .int .u8 0, .string ⟨#[]⟩, .int .i64 0, .slice none 0 0, .int .u8 0, .string ⟨#[]⟩, .int .i64 0, .string ⟨#[]⟩, .slice none 0 0, .slice none 0 0, .slice none 0 0] 46, .blk g_r [.int .u8 0, .string ⟨#[]⟩, .slice none 0 0, .slice none 0 0, .slice none 0 0, .int .u8 0, .string ⟨#[]⟩, .int .i64 0, .slice none 0 0, .int .u8 0, .string ⟨#[]⟩, .int .i64 0, .string ⟨#[]⟩, .slice none 0 0, .slice none 0 0, .slice none 0 0] 46] ((more ⟨#[97, 110, 100]⟩ g.fun_ j acc).bind decF))) (fun wx => v.l.length - posR v.gp wx)
 case atStart => exact ⟨1, q9, n, b10, [x_y], _, _, by omega, posR_at HX.out.blk, HX⟩
 case round =>
  clear HX
  obtain ⟨m, q, j, bb, acc, av, cv, hmq, hpq, HX⟩ := hrel
  have hm := few HX hmq
  have hq := HX.out.le
  obtain ⟨j2, hv⟩ := more_head rfl (ne' HX)
  replace HX := as' HX hv
  clear hv
  go_wp2_with fail
  refine word' HX ?_; clear HX; intro w15 HX
  go_wp2_with fail
  refine may' HX (word_c (by kernel_rfl)) ?_ ?_
  ·
   clear HX; intro w16 h17 HX
   have HG := good' HX
   go_upto_region 10 with fail
   refine reg' HX (cl 1 4 HX rfl rfl) [7] (by kernel_rfl) ?_; clear HX; intro w18 HX hHeld
   refine tk 0 rfl hHeld ?_
   try simp only [SA]
   refine tk 1 rfl hHeld ?_
   try simp only [SA]
   refine tk 2 rfl hHeld ?_
   try simp only [SA]
   refine rdm 3 (by kernel_rfl) rfl fun K hK => ?_
   go_simp
   go_at_call 35
   refine callF HX (HH.out.fun_) (.inr HG.out) ?_; clear HX; intro w19 q20 b21 x_y _ _ _ _ _ _ _ _ _ _ _ _ _ _ _ _ _ h22 HX
   refine hK.out _ _ ((cl 2 4 HX rfl rfl) _ (Fr.refl _ _)) (fun hHeld => ?_)
   clear hK K
   try dsimp only
   try simp only [SA]
   refine rdm 4 (by kernel_rfl) rfl fun K hK => ?_
   go_simp
   generalize hn : w19.alloc _ = w23
   generalize hg : w19.heap.size = g_one
   replace HX := alloc' HX hn hg
   clear hn hg
   refine hK.out _ _ ((cl 3 4 HX rfl rfl) _ (Fr.refl _ _)) (fun hHeld => ?_)
   clear hK K
   try dsimp only
   try simp only [SA]
   refine rdm 5 (by kernel_rfl) rfl fun K hK => ?_
   refine spush' HX elemF (by decide) hm rfl _ _ 37 rfl Tryz.underlying37 rfl rfl (by simp [Value.oneCell']) rfl ?_; clear HX; intro a3 c3 w24 HX
   replace HX := snoc' HX
   refine hK.out _ _ ((cl 1 4 HX rfl rfl) _ (Fr.refl _ _)) (fun hHeld => ?_)
   clear hK K
   try dsimp only
   try simp only [SA]
   refine tk 6 rfl hHeld ?_
   try simp only [SA]
   have D_t := cl' 1 4 HX rfl rfl
   have E_t := fz 1 4 HX rfl
   refine rdl 7 (by kernel_rfl) rfl (by kernel_rfl) fun K hK => ?_
   go_simp
   clear D_t E_t
   generalize hn : World.setCell _ ⟨g_t, 4, none⟩ _ = w25
   replace HX := put1 HX (pD4 hn)
   clear hn
   refine hK.out _ _ ?_
   clear hK K
   try dsimp only
   try simp only [SA]
   refine done_e (by kernel_rfl) ?_ _
   (try simp only [Exit.inBlock, Exit.then])
   go_wp2_with fail
   exact ⟨⟨m + 1, q20, j2, b21, acc ++ [x_y], a3, c3, by omega, posR_at HX.out.blk, HX⟩, by rw [posR_at HX.out.blk, hpq]; have := HX.out.le; omega⟩
  ·
   clear HX; intro w26 HX
   simp only [decF] at HX
   replace HX := row_ HX (by decide)
   have D_t := d16 (bk 1 HX rfl)
   have D_r := d16 (bk 2 HX rfl)
   go_wp2_with fail
   clear D_t D_r
   generalize hn : World.setCell _ ⟨g_r, 15, none⟩ _ = w27
   replace HX := put2 HX (pD hn)
   clear hn
   exact ret' 2 HX rfl Tryz.underlying46 (by kernel_rfl) rfl rfl rfl rfl (hcD_mk 4 nob (hx_nil _) (hx_nil _) (rw' 0 HX rfl) hc_zT hc_zE)
set_option maxHeartbeats 4000000 in
set_option maxRecDepth 100000 in
theorem dec_o {v : Vw} {g : Gr} {n : Nat} {whole : Bool} {e : Ev D} (h : QOks v g) (HX : Hid (Cx v e e.w e.p e.b [] (g.pDec n whole))) (he : e.r = 0) (h0 : wordB (rtok v.l e.p e.b) ⟨#[118, 97, 108]⟩ = false) (h1 : wordB (rtok v.l e.p e.b) ⟨#[102, 117, 110]⟩ = false) (h2 : wordB (rtok v.l e.p e.b) ⟨#[100, 111]⟩ = true) : Calls Tryz.prog 14 (v.ptr :: [.bool whole]).toArray e.w (QP v e (stE xD)) := by
 have HH := Lib.hid h
 have HE := Lib.hid he
 clear h he
 have H0 := Lib.hid h0
 clear h0
 have H1 := Lib.hid h1
 clear h1
 have H2 := Lib.hid h2
 clear h2
 simp only [pDec_eq] at HX
 go_enter Tryz.func14, Tryz.ntmps14
 go_upto_region 1 with fail
 generalize hn : e.w.alloc _ = w1
 generalize hg : e.w.heap.size = g_r
 replace HX := alloc' HX hn hg
 clear hn hg
 go_wp2_with fail
 refine word' HX ?_; clear HX; intro w2 HX
 go_wp2_with fail
 refine mayn' HX (word_c (by kernel_rfl)) H0 ?_; clear HX; intro w3 HX
 go_wp2_with fail
 refine word' HX ?_; clear HX; intro w4 HX
 go_wp2_with fail
 refine mayn' HX (word_c (by kernel_rfl)) H1 ?_; clear HX; intro w5 HX
 go_wp2_with fail
 refine word' HX ?_; clear HX; intro w6 HX
 go_wp2_with fail
 refine mayy' HX (word_c (by kernel_rfl)) H2 word_lt ?_; clear HX; intro w7 HX
 have HG := good' HX
 simp only [decO] at HX
 go_wp2_with fail
 refine callE HX (HH.out.exp) (.inr HG.out) ?_; clear HX; intro w8 q9 b10 x_e _ _ _ _ _ _ _ _ _ _ _ _ _ h11 HX
 have D_r := d16 (bk 1 HX rfl)
 go_wp2_with fail
 clear D_r
 generalize hn : World.setCell _ ⟨g_r, 15, none⟩ _ = w12
 replace HX := put1 HX (pD hn)
 clear hn
 exact ret' 1 HX rfl Tryz.underlying46 (by kernel_rfl) rfl rfl rfl rfl (hcD_mk 6 nob (hx_nil _) (hx_nil _) (hx_nil _) hc_zT (vl 0 HX rfl))
set_option maxHeartbeats 4000000 in
set_option maxRecDepth 100000 in
theorem dec_l {v : Vw} {g : Gr} {n : Nat} {e : Ev D} (h : QOks v g) (HX : Hid (Cx v e e.w e.p e.b [] (g.pDec n false))) (he : e.r = 0) (h0 : wordB (rtok v.l e.p e.b) ⟨#[118, 97, 108]⟩ = false) (h1 : wordB (rtok v.l e.p e.b) ⟨#[102, 117, 110]⟩ = false) (h2 : wordB (rtok v.l e.p e.b) ⟨#[100, 111]⟩ = false) : Calls Tryz.prog 14 (v.ptr :: [.bool false]).toArray e.w (QP v e (stE xD)) := by
 have HH := Lib.hid h
 have HE := Lib.hid he
 clear h he
 have H0 := Lib.hid h0
 clear h0
 have H1 := Lib.hid h1
 clear h1
 have H2 := Lib.hid h2
 clear h2
 simp only [pDec_eq] at HX
 go_enter Tryz.func14, Tryz.ntmps14
 go_upto_region 1 with fail
 generalize hn : e.w.alloc _ = w1
 generalize hg : e.w.heap.size = g_r
 replace HX := alloc' HX hn hg
 clear hn hg
 go_wp2_with fail
 refine word' HX ?_; clear HX; intro w2 HX
 go_wp2_with fail
 refine mayn' HX (word_c (by kernel_rfl)) H0 ?_; clear HX; intro w3 HX
 go_wp2_with fail
 refine word' HX ?_; clear HX; intro w4 HX
 go_wp2_with fail
 refine mayn' HX (word_c (by kernel_rfl)) H1 ?_; clear HX; intro w5 HX
 go_wp2_with fail
 refine word' HX ?_; clear HX; intro w6 HX
 go_wp2_with fail
 refine mayn' HX (word_c (by kernel_rfl)) H2 ?_; clear HX; intro w7 HX
 replace HX := pos' HX (by decide)
 have D_gp := d3 (bg HX)
 have D_r := d16 (bk 0 HX rfl)
 go_upto_region 26 with fail
 clear D_gp D_r
 generalize hn : World.setCell _ ⟨v.gp, 2, none⟩ _ = w8
 replace HX := fail' (m := .ret (.mk 0 nob [] [] [] zT zE)) HX hn
 clear hn
 have D_r := d16 (bk 0 HX rfl)
 go_wp2_with fail
 clear D_r
 generalize hn : World.setCell _ ⟨g_r, 15, none⟩ _ = w9
 replace HX := put0 HX (pD hn)
 clear hn
 exact ret' 0 HX rfl Tryz.underlying46 (by kernel_rfl) rfl rfl rfl rfl (hcD_mk 0 nob (v := []) (cn := []) (f := []) (hx_nil _) (hx_nil _) (hx_nil _) hc_zT hc_zE)
end Go.Proofs.YtjabhmepafofmaaGreatDoor
namespace Go.Proofs.YtjabhmepafofmaaGreatDoor
open Go.RowKit
set_option maxHeartbeats 4000000 in
set_option maxRecDepth 100000 in
theorem dec_val {v : Vd} {g : Gr} {n : Nat} {whole : Bool} {e : Ed D} (h : Oks v.gp v.a v.c v.l g) (HX : Hid (Dx v e e.w e.p [] (g.pDec n whole))) (h0 : seesB (v.l.getD e.p zTok) [⟨#[118, 97, 108]⟩] = true) : Calls Tryz.prog 12 (v.ptr :: [.bool whole]).toArray e.w (DP v e (stE xD)) := by
 have HH := Lib.hid h
 clear h
 have H0 := Lib.hid h0
 clear h0
 simp only [pDec_eq] at HX
 go_enter Tryz.func12, Tryz.ntmps12
 go_upto_region 1 with fail
 generalize hn : e.w.alloc _ = w1
 generalize hg : e.w.heap.size = g_r
 replace HX := alloc' HX hn hg
 clear hn hg
 go_wp2_with fail
 generalize hn : w1.alloc _ = w2
 generalize hg : w1.heap.size = g_sk
 replace HX := alloc' HX hn hg
 clear hn hg
 refine skipy HX H0 ?_; clear HX; intro w3 h4 HX
 simp only [decV] at HX
 go_wp2_with fail
 refine taked HX (by decide) (fun _ h => ⟨rfl, h⟩) ?_; clear HX; intro w5 st_s h6 HX
 go_wp2_with fail
 refine mustd HX (fun _ h => ⟨rfl, h⟩) ?_; clear HX; intro w7 h8 HX
 go_wp2_with fail
 refine callEd HX (HH.out.exp) (fun _ h => ⟨rfl, h⟩) ?_; clear HX; intro w9 q10 x_e _ _ _ _ _ _ _ _ _ _ _ _ _ h11 HX
 have D_r := d16 (bk 1 HX rfl)
 go_wp2_with fail
 clear D_r
 generalize hn : World.setCell _ ⟨g_r, 15, none⟩ _ = w12
 replace HX := put1 HX (pD hn)
 clear hn
 exact retd 1 HX rfl Tryz.underlying46 (by kernel_rfl) rfl rfl rfl rfl (hcD_mk 3 st_s (hx_nil _) (hx_nil _) (hx_nil _) hc_zT (vl 0 HX rfl))
set_option maxHeartbeats 4000000 in
set_option maxRecDepth 100000 in
theorem dec_fun {v : Vd} {g : Gr} {n : Nat} {whole : Bool} {e : Ed D} (h : Oks v.gp v.a v.c v.l g) (HX : Hid (Dx v e e.w e.p [] (g.pDec n whole))) (h0 : seesB (v.l.getD e.p zTok) [⟨#[118, 97, 108]⟩] = false) (h1 : seesB (v.l.getD e.p zTok) [⟨#[102, 117, 110]⟩] = true) : Calls Tryz.prog 12 (v.ptr :: [.bool whole]).toArray e.w (DP v e (stE xD)) := by
 have HH := Lib.hid h
 clear h
 have H0 := Lib.hid h0
 clear h0
 have H1 := Lib.hid h1
 clear h1
 simp only [pDec_eq] at HX
 go_enter Tryz.func12, Tryz.ntmps12
 go_upto_region 1 with fail
 generalize hn : e.w.alloc _ = w1
 generalize hg : e.w.heap.size = g_r
 replace HX := alloc' HX hn hg
 clear hn hg
 go_wp2_with fail
 generalize hn : w1.alloc _ = w2
 generalize hg : w1.heap.size = g_sk
 replace HX := alloc' HX hn hg
 clear hn hg
 refine skipn HX H0 ?_; clear HX; intro w3 HX
 go_wp2_with fail
 generalize hn : w3.alloc _ = w4
 generalize hg : w3.heap.size = g_sk
 replace HX := alloc' HX hn hg
 clear hn hg
 refine skipy HX H1 ?_; clear HX; intro w5 h6 HX
 go_wp2_with fail
 refine callrowd HX (some_fun enters26 HH.out.fun_ ⟨#[97, 110, 100]⟩ n) (fun _ h => ⟨rfl, h⟩) ?_; clear HX; intro w7 q8 x_q a_q c_q h9 HX
 simp only [decF] at HX
 have D_r := d16 (bk 1 HX rfl)
 go_wp2_with fail
 clear D_r
 generalize hn : World.setCell _ ⟨g_r, 15, none⟩ _ = w10
 replace HX := put1 HX (pD hn)
 clear hn
 exact retd 1 HX rfl Tryz.underlying46 (by kernel_rfl) rfl rfl rfl rfl (hcD_mk 4 nob (hx_nil _) (hx_nil _) (rw' 0 HX rfl) hc_zT hc_zE)
set_option maxHeartbeats 4000000 in
set_option maxRecDepth 100000 in
theorem dec_do {v : Vd} {g : Gr} {n : Nat} {whole : Bool} {e : Ed D} (h : Oks v.gp v.a v.c v.l g) (HX : Hid (Dx v e e.w e.p [] (g.pDec n whole))) (h0 : seesB (v.l.getD e.p zTok) [⟨#[118, 97, 108]⟩] = false) (h1 : seesB (v.l.getD e.p zTok) [⟨#[102, 117, 110]⟩] = false) (h2 : seesB (v.l.getD e.p zTok) [⟨#[100, 111]⟩] = true) : Calls Tryz.prog 12 (v.ptr :: [.bool whole]).toArray e.w (DP v e (stE xD)) := by
 have HH := Lib.hid h
 clear h
 have H0 := Lib.hid h0
 clear h0
 have H1 := Lib.hid h1
 clear h1
 have H2 := Lib.hid h2
 clear h2
 simp only [pDec_eq] at HX
 go_enter Tryz.func12, Tryz.ntmps12
 go_upto_region 1 with fail
 generalize hn : e.w.alloc _ = w1
 generalize hg : e.w.heap.size = g_r
 replace HX := alloc' HX hn hg
 clear hn hg
 go_wp2_with fail
 generalize hn : w1.alloc _ = w2
 generalize hg : w1.heap.size = g_sk
 replace HX := alloc' HX hn hg
 clear hn hg
 refine skipn HX H0 ?_; clear HX; intro w3 HX
 go_wp2_with fail
 generalize hn : w3.alloc _ = w4
 generalize hg : w3.heap.size = g_sk
 replace HX := alloc' HX hn hg
 clear hn hg
 refine skipn HX H1 ?_; clear HX; intro w5 HX
 go_wp2_with fail
 generalize hn : w5.alloc _ = w6
 generalize hg : w5.heap.size = g_sk
 replace HX := alloc' HX hn hg
 clear hn hg
 refine skipy HX H2 ?_; clear HX; intro w7 h8 HX
 simp only [decO] at HX
 go_wp2_with fail
 refine callEd HX (HH.out.exp) (fun _ h => ⟨rfl, h⟩) ?_; clear HX; intro w9 q10 x_e _ _ _ _ _ _ _ _ _ _ _ _ _ h11 HX
 have D_r := d16 (bk 1 HX rfl)
 go_wp2_with fail
 clear D_r
 generalize hn : World.setCell _ ⟨g_r, 15, none⟩ _ = w12
 replace HX := put1 HX (pD hn)
 clear hn
 exact retd 1 HX rfl Tryz.underlying46 (by kernel_rfl) rfl rfl rfl rfl (hcD_mk 6 nob (hx_nil _) (hx_nil _) (hx_nil _) hc_zT (vl 0 HX rfl))
set_option maxHeartbeats 4000000 in
set_option maxRecDepth 100000 in
theorem dec_nolet {v : Vd} {g : Gr} {n : Nat} {e : Ed D} (h : Oks v.gp v.a v.c v.l g) (HX : Hid (Dx v e e.w e.p [] (g.pDec n false))) (h0 : seesB (v.l.getD e.p zTok) [⟨#[118, 97, 108]⟩] = false) (h1 : seesB (v.l.getD e.p zTok) [⟨#[102, 117, 110]⟩] = false) (h2 : seesB (v.l.getD e.p zTok) [⟨#[100, 111]⟩] = false) : Calls Tryz.prog 12 (v.ptr :: [.bool false]).toArray e.w (DP v e (stE xD)) := by
 have HH := Lib.hid h
 clear h
 have H0 := Lib.hid h0
 clear h0
 have H1 := Lib.hid h1
 clear h1
 have H2 := Lib.hid h2
 clear h2
 simp only [pDec_eq] at HX
 go_enter Tryz.func12, Tryz.ntmps12
 go_upto_region 1 with fail
 generalize hn : e.w.alloc _ = w1
 generalize hg : e.w.heap.size = g_r
 replace HX := alloc' HX hn hg
 clear hn hg
 go_wp2_with fail
 generalize hn : w1.alloc _ = w2
 generalize hg : w1.heap.size = g_sk
 replace HX := alloc' HX hn hg
 clear hn hg
 refine skipn HX H0 ?_; clear HX; intro w3 HX
 go_wp2_with fail
 generalize hn : w3.alloc _ = w4
 generalize hg : w3.heap.size = g_sk
 replace HX := alloc' HX hn hg
 clear hn hg
 refine skipn HX H1 ?_; clear HX; intro w5 HX
 go_wp2_with fail
 generalize hn : w5.alloc _ = w6
 generalize hg : w5.heap.size = g_sk
 replace HX := alloc' HX hn hg
 clear hn hg
 refine skipn HX H2 ?_; clear HX; intro w7 HX
 replace HX := posd HX (by decide)
 go_wp2_with fail
 exact ⟨rfl, faild HX⟩
end Go.Proofs.YtjabhmepafofmaaGreatDoor
namespace Go.Proofs.YtjabhmepafofmaaGreatDoor
open Go.RowKit
set_option maxHeartbeats 4000000 in
set_option maxRecDepth 100000 in
theorem dec_more {v : Vd} {g : Gr} {n : Nat} {e : Ed D} (h : Oks v.gp v.a v.c v.l g) (HX : Hid (Dx v e e.w e.p [] (g.pDec n true))) (h0 : seesB (v.l.getD e.p zTok) [⟨#[118, 97, 108]⟩] = false) (h1 : seesB (v.l.getD e.p zTok) [⟨#[102, 117, 110]⟩] = false) (h2 : seesB (v.l.getD e.p zTok) [⟨#[100, 111]⟩] = false) : Calls Tryz.prog 12 (v.ptr :: [.bool true]).toArray e.w (DP v e (stE xD)) := by
 have HH := Lib.hid h
 clear h
 have H0 := Lib.hid h0
 clear h0
 have H1 := Lib.hid h1
 clear h1
 have H2 := Lib.hid h2
 clear h2
 simp only [pDec_eq] at HX
 go_enter Tryz.func12, Tryz.ntmps12
 go_upto_region 1 with fail
 generalize hn : e.w.alloc _ = w1
 generalize hg : e.w.heap.size = g_r
 replace HX := alloc' HX hn hg
 clear hn hg
 go_wp2_with fail
 generalize hn : w1.alloc _ = w2
 generalize hg : w1.heap.size = g_sk
 replace HX := alloc' HX hn hg
 clear hn hg
 refine skipn HX H0 ?_; clear HX; intro w3 HX
 go_wp2_with fail
 generalize hn : w3.alloc _ = w4
 generalize hg : w3.heap.size = g_sk
 replace HX := alloc' HX hn hg
 clear hn hg
 refine skipn HX H1 ?_; clear HX; intro w5 HX
 go_wp2_with fail
 generalize hn : w5.alloc _ = w6
 generalize hg : w5.heap.size = g_sk
 replace HX := alloc' HX hn hg
 clear hn hg
 refine skipn HX H2 ?_; clear HX; intro w7 HX
 replace HX := negd HX (by decide)
 simp only [decW] at HX
 go_wp2_with fail
 generalize hn : w7.alloc _ = w8
 generalize hg : w7.heap.size = g_sk
 replace HX := alloc' HX hn hg
 clear hn hg
 refine skipd HX ?_ ?_
 ·
  clear HX; intro w9 h10 HX
  go_wp2_with fail
  refine callrowd HX (HH.out.vars) (fun _ h => ⟨rfl, h⟩) ?_; clear HX; intro w11 q12 x_v a_v c_v h13 HX
  simp only [dataK] at HX
  go_wp2_with fail
  refine taked HX (by decide) (fun _ h => ⟨rfl, h⟩) ?_; clear HX; intro w14 st_n h15 HX
  go_wp2_with fail
  refine mustd HX (fun _ h => ⟨rfl, h⟩) ?_; clear HX; intro w16 h17 HX
  go_wp2_with fail
  refine callrowd HX (some_con enters29 HH.out.con ⟨#[124]⟩ n) (fun _ h => ⟨rfl, h⟩) ?_; clear HX; intro w18 q19 x_q a_q c_q h20 HX
  have D_r := d16 (bk 2 HX rfl)
  go_wp2_with fail
  clear D_r
  generalize hn : World.setCell _ ⟨g_r, 15, none⟩ _ = w21
  replace HX := put2 HX (pD hn)
  clear hn
  exact retd 2 HX rfl Tryz.underlying46 (by kernel_rfl) rfl rfl rfl rfl (hcD_mk 1 st_n (rw' 1 HX rfl) (rw' 0 HX rfl) (hx_nil _) hc_zT hc_zE)
 ·
  clear HX; intro w22 HX
  go_wp2_with fail
  generalize hn : w22.alloc _ = w23
  generalize hg : w22.heap.size = g_sk
  replace HX := alloc' HX hn hg
  clear hn hg
  refine skipd HX ?_ ?_
  ·
   clear HX; intro w24 h25 HX
   simp only [decX] at HX
   go_wp2_with fail
   refine callCd HX (HH.out.con) (fun _ h => ⟨rfl, h⟩) ?_; clear HX; intro w26 q27 x_e _ _ _ _ _ _ _ _ h28 HX
   have D_r := d16 (bk 1 HX rfl)
   have hl := lt_of_block (bk 1 HX rfl)
   go_wp2_with fail
   clear D_r
   clear hl
   generalize hg : w26.heap.size = g_arr
   generalize hn : World.setCell _ ⟨g_r, 15, none⟩ _ = w29
   generalize hm : w29.alloc _ = w30
   replace HX := late1 HX hg (pD hn) hm
   clear hg hn hm
   exact retd 2 HX rfl Tryz.underlying46 (by kernel_rfl) rfl rfl rfl rfl (hcD_mk (cn := [x_e]) 2 nob (hx_nil _) (one' 0 1 HX rfl rfl rfl (by decide)) (hx_nil _) hc_zT hc_zE)
  ·
   clear HX; intro w31 HX
   go_wp2_with fail
   generalize hn : w31.alloc _ = w32
   generalize hg : w31.heap.size = g_sk
   replace HX := alloc' HX hn hg
   clear hn hg
   refine skipd HX ?_ ?_
   ·
    clear HX; intro w33 h34 HX
    simp only [decR] at HX
    go_wp2_with fail
    refine taked HX (by decide) (fun _ h => ⟨rfl, h⟩) ?_; clear HX; intro w35 st_s h36 HX
    go_upto_region 19 with fail
    generalize hn : w35.alloc _ = w37
    generalize hg : w35.heap.size = g_t
    replace HX := alloc' HX hn hg
    clear hn hg
    go_wp2_with fail
    refine mustd HX (fun _ h => ⟨rfl, h⟩) ?_; clear HX; intro w38 h39 HX
    go_wp2_with fail
    refine callTd HX (HH.out.ty) (fun _ h => ⟨rfl, h⟩) ?_; clear HX; intro w40 q41 x_y _ _ _ _ _ _ h42 HX
    have D_t := d16 (bk 1 HX rfl)
    go_upto_region 21 with fail
    clear D_t
    generalize hn : World.setCell _ ⟨g_t, 8, none⟩ _ = w43
    replace HX := put1 HX (pD5 hn)
    clear hn
    go_wp2_with fail
    refine mustd HX (fun _ h => ⟨rfl, h⟩) ?_; clear HX; intro w44 h45 HX
    go_wp2_with fail
    refine callEd HX (HH.out.exp) (fun _ h => ⟨rfl, h⟩) ?_; clear HX; intro w46 q47 x_e _ _ _ _ _ _ _ _ _ _ _ _ _ h48 HX
    have D_t := d16 (bk 2 HX rfl)
    go_upto_region 23 with fail
    clear D_t
    generalize hn : World.setCell _ ⟨g_t, 15, none⟩ _ = w49
    replace HX := put2 HX (pD9 hn)
    clear hn
    have D_t := d16 (bk 2 HX rfl)
    have D_r := d16 (bk 3 HX rfl)
    go_wp2_with fail
    clear D_t D_r
    generalize hn : World.setCell _ ⟨g_r, 15, none⟩ _ = w50
    replace HX := put3 HX (pD hn)
    clear hn
    exact retd 3 HX rfl Tryz.underlying46 (by kernel_rfl) rfl rfl rfl rfl (hcD_mk 5 st_s (hx_nil _) (hx_nil _) (hx_nil _) (vl 1 HX rfl) (vl 0 HX rfl))
   ·
    clear HX; intro w51 HX
    go_wp2_with fail
    exact ⟨rfl, faild HX⟩
theorem dec_step {gp : Nat} {a : Option Addr} {c : Nat} {l : List Tok} {g : Gr} {n : Nat} (wh : Bool) (h : Oks gp a c l g) : CT gp a c l 12 [.bool wh] (stE xD) (g.pDec n wh) := dc (v := ⟨gp, a, c, l⟩) fun e HX => by
 cases h0 : seesB (l.getD e.p zTok) [⟨#[118, 97, 108]⟩] with
 | true => exact dec_val h HX h0
 | false =>
  cases h1 : seesB (l.getD e.p zTok) [⟨#[102, 117, 110]⟩] with
  | true => exact dec_fun h HX h0 h1
  | false =>
   cases h2 : seesB (l.getD e.p zTok) [⟨#[100, 111]⟩] with
   | true => exact dec_do h HX h0 h1 h2
   | false =>
    cases wh with
    | false => exact dec_nolet h HX h0 h1 h2
    | true => exact dec_more h HX h0 h1 h2
end Go.Proofs.YtjabhmepafofmaaGreatDoor
