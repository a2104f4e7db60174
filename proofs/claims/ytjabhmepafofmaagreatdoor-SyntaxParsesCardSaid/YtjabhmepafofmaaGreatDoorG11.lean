/- Wca, Wco, Wsb, Xb -/
import Derived.Test.YtjabhmepafofmaaGreatDoorG09
import Derived.Test.YtjabhmepafofmaaGreatDoorG08
import Derived.Test.YtjabhmepafofmaaGreatDoorG35
set_option linter.unusedVariables false
set_option linter.unusedSimpArgs false
namespace Go.Proofs.YtjabhmepafofmaaGreatDoor
open Go.RowKit
theorem startsd {β : Type} {v : Vd} {e : Ed β} {w : World} {q : Nat} {L : List It} {m : Pr β} {P0 : Ending → World → Prop} {B : Bool} (h : Hid (Dx v e w q L m)) (hB : Gr.startsB (v.l.getD q zTok) = B) (k : ∀ w', Hid (Dx v e w' q L m) → P0 (.returned (.bool B)) w') : Calls Tryz.prog 96 #[.pointer (some ⟨v.gp, 0, none⟩)] w P0 := by
 refine (starts_any (dpar h.out) hB).mono ?_
 rintro _ w' ⟨rfl, hf⟩
 exact k w' (dno h hf)
set_option maxHeartbeats 4000000 in
set_option maxRecDepth 100000 in
theorem calls_step' {v : Vd} {g : Gr} {n : Nat} (hpr : ∀ (p q : Nat) (x : E), Pr.run v.l g.prefix_ p = .ok x q → p < q) (h : Oks v.gp v.a v.c v.l g) : CT v.gp v.a v.c v.l 82 [] (stE xE) (g.pCalls n) := dc fun e HX => by
 have HH := Lib.hid h
 clear h
 simp only [Gr.pCalls] at HX
 have HPR := Lib.hid hpr
 clear hpr
 go_enter Tryz.func82, Tryz.ntmps82
 go_upto_region 1 with fail
 generalize hn : e.w.alloc _ = w1
 generalize hg : e.w.heap.size = g_r
 replace HX := alloc' HX hn hg
 clear hn hg
 go_wp2_with fail
 refine callEd HX (HH.out.prefix_) (fun _ h => ⟨rfl, h⟩) ?_; clear HX; intro w2 q3 x_a _ _ _ _ _ _ _ _ _ _ _ _ _ h4 HX
 go_upto_region 2 with fail
 generalize hn : w2.alloc _ = w5
 generalize hg : w2.heap.size = g_t
 replace HX := alloc' HX hn hg
 clear hn hg
 replace HX := mix0 HX
 go_loopw [] (fun wx => ∃ (q j : Nat) (x : E) (k : Nat) (sx : ByteArray) (nx : Int) (ux : ByteArray) (ax1 : Option Addr) (mx1 cx1 : Nat) (ax2 : Option Addr) (mx2 cx2 : Nat) (ax3 : Option Addr) (mx3 cx3 : Nat), posOf v.gp wx = q ∧ Hid (Dx v e wx q [.mix g_t g_r (xE x) [.int .u8 k, .string sx, .int .i64 nx, .string ux, .slice ax1 mx1 cx1, .slice ax2 mx2 cx2, .slice ax3 mx3 cx3], .blk g_t [.int .u8 k, .string sx, .int .i64 nx, .string ux, .slice ax1 mx1 cx1, .slice ax2 mx2 cx2, .slice ax3 mx3 cx3] 44, .blk g_r [.int .u8 0, .string ⟨#[]⟩, .int .i64 0, .string ⟨#[]⟩, .slice none 0 0, .slice none 0 0, .slice none 0 0] 44] (g.callsL j x))) (fun wx => v.l.length - posOf v.gp wx)
 case atStart => exact ⟨q3, n, x_a, _, _, _, _, _, _, _, _, _, _, _, _, _, posOf_at HX.out.st.blk, HX⟩
 case round =>
  clear HX
  obtain ⟨q, j, x, kx, sx, nx, ux, ax1, mx1, cx1, ax2, mx2, cx2, ax3, mx3, cx3, hpq, HX⟩ := hrel
  have hq := HX.out.dle
  obtain ⟨j2, HX⟩ := headd HX (fun h ho => calls_head h ho)
  go_wp2_with fail
  replace HX := dlook HX
  cases hz : Gr.startsB (v.l.getD q zTok) with
  | true =>
   refine startsd HX hz ?_; clear HX; intro w6 HX
   replace HX := posd HX (by rw [hz])
   clear hz
   go_upto_region 3 with fail
   refine reg' HX (e7 (bk 1 HX rfl)) [5] (by kernel_rfl) ?_; clear HX; intro w7 HX hHeld
   refine tk 0 rfl hHeld ?_
   try simp only [SA]
   refine tk 1 rfl hHeld ?_
   try simp only [SA]
   refine rdm 2 (by kernel_rfl) rfl fun K hK => ?_
   go_simp
   go_at_call 95
   refine callEpd HX HH.out.prefix_ HPR.out (fun _ h => ⟨rfl, h⟩) ?_; clear HX; intro w8 q9 x_e _ _ _ _ _ _ _ _ _ _ _ _ _ h10 HX
   refine hK.out _ _ ((e7 (bk 2 HX rfl)) _ (Fr.refl _ _)) (fun hHeld => ?_)
   clear hK K
   try dsimp only
   try simp only [SA]
   refine rdm 3 (by kernel_rfl) rfl fun K hK => ?_
   go_simp
   generalize hn : w8.alloc _ = w11
   generalize hg : w8.heap.size = g_arr
   replace HX := alloc' HX hn hg
   clear hn hg
   refine hK.out _ _ ((e7 (bk 3 HX rfl)) _ (Fr.refl _ _)) (fun hHeld => ?_)
   clear hK K
   try dsimp only
   try simp only [SA]
   refine tk 4 rfl hHeld ?_
   try simp only [SA]
   have D_t := d7 (bk 3 HX rfl)
   refine rdl 5 (by kernel_rfl) rfl (by kernel_rfl) fun K hK => ?_
   go_simp
   clear D_t
   generalize hn : World.setCell _ ⟨g_t, 6, none⟩ _ = w12
   replace HX := put3 HX (pE hn) ⟨.inl rfl, trivial⟩
   clear hn
   refine hK.out _ _ ?_
   clear hK K
   try dsimp only
   try simp only [SA]
   refine done_e (by kernel_rfl) ?_ _
   (try simp only [Exit.inBlock, Exit.then])
   go_wp2_with fail
   replace HX := mix2 (x' := xE (Gr.mkE 8 nob [x, x_e])) HX (hcE_kids 8 nob 0 nob (mtwo (k := 7) HX rfl rfl rfl (by decide)))
   exact ⟨⟨q9, j2, Gr.mkE 8 nob [x, x_e], 8, nob, 0, nob, _, _, _, _, _, _, _, _, _, posOf_at HX.out.st.blk, HX⟩, by rw [posOf_at HX.out.st.blk, hpq]; have := HX.out.dle; omega⟩
  | false =>
   refine startsd HX hz ?_; clear HX; intro w13 HX
   replace HX := negd HX (by rw [hz]; decide)
   clear hz
   have D_t := d7 (bk 1 HX rfl)
   have D_r := d7 (bk 2 HX rfl)
   go_wp2_with fail
   clear D_t D_r
   generalize hn : World.setCell _ ⟨g_r, 6, none⟩ _ = w14
   replace HX := put2 HX (pE hn) ⟨.inr rfl, trivial⟩
   clear hn
   exact retd 2 HX rfl Tryz.underlying44 (by kernel_rfl) rfl rfl rfl rfl (vm HX)
theorem calls_step {gp : Nat} {a : Option Addr} {c : Nat} {l : List Tok} {g : Gr} {n : Nat} (hpr : ∀ (p q : Nat) (x : E), Pr.run l g.prefix_ p = .ok x q → p < q) (h : Oks gp a c l g) : CT gp a c l 82 [] (stE xE) (g.pCalls n) := calls_step' (v := ⟨gp, a, c, l⟩) hpr h
end Go.Proofs.YtjabhmepafofmaaGreatDoor
namespace Go.Proofs.YtjabhmepafofmaaGreatDoor
open Go.RowKit
theorem pC15 {w w' : World} {g : Nat} {c0 c1 c2 c3 c4 c5 v1 v2 v3 v4 v5 : Value} (h : ((((w.setCell ⟨g, 1, none⟩ v1).setCell ⟨g, 2, none⟩ v2).setCell ⟨g, 3, none⟩ v3).setCell ⟨g, 4, none⟩ v4).setCell ⟨g, 5, none⟩ v5 = w') : Wq w w' g [c0, c1, c2, c3, c4, c5] [c0, v1, v2, v3, v4, v5] := Wr.qq (((((Wr.nil.snoc 1 v1).snoc 2 v2).snoc 3 v3).snoc 4 v4).snoc 5 v5) h rfl
set_option maxHeartbeats 4000000 in
set_option maxRecDepth 100000 in
theorem con_step' {v : Vd} {g : Gr} (h : Oks v.gp v.a v.c v.l g) : CT v.gp v.a v.c v.l 29 [] (stE xC) g.pCon := dc fun e HX => by
 have HH := Lib.hid h
 clear h
 simp only [Gr.pCon] at HX
 go_enter Tryz.func29, Tryz.ntmps29
 go_upto_region 1 with fail
 generalize hn : e.w.alloc _ = w1
 generalize hg : e.w.heap.size = g_r
 replace HX := alloc' HX hn hg
 clear hn hg
 go_wp2_with fail
 refine taked HX (by decide) (fun _ h => ⟨rfl, h⟩) ?_; clear HX; intro w2 st_s h3 HX
 go_upto_region 2 with fail
 generalize hn : w2.alloc _ = w4
 generalize hg : w2.heap.size = g_t
 replace HX := alloc' HX hn hg
 clear hn hg
 go_wp2_with fail
 generalize hn : w4.alloc _ = w5
 generalize hg : w4.heap.size = g_sk
 replace HX := alloc' HX hn hg
 clear hn hg
 refine skipd HX ?_ ?_
 ·
  clear HX; intro w6 h7 HX
  go_wp2_with fail
  refine callTd HX (HH.out.ty) (fun _ h => ⟨rfl, h⟩) ?_; clear HX; intro w8 q9 x_y _ _ _ _ _ _ h10 HX
  have D_t := d6 (bk 1 HX rfl)
  go_upto_region 4 with fail
  clear D_t
  generalize hn : World.setCell _ ⟨g_t, 5, none⟩ _ = w11
  replace HX := put1 HX (pC15 hn)
  clear hn
  have D_t := d6 (bk 1 HX rfl)
  have D_r := d6 (bk 2 HX rfl)
  go_wp2_with fail
  clear D_t D_r
  generalize hn : World.setCell _ ⟨g_r, 5, none⟩ _ = w12
  replace HX := put2 HX (pC hn)
  clear hn
  exact retd 2 HX rfl Tryz.underlying76 (by kernel_rfl) rfl rfl rfl rfl (hcC_mk st_s true (vl 0 HX rfl))
 ·
  clear HX; intro w13 HX
  have D_t := d6 (bk 0 HX rfl)
  have D_r := d6 (bk 1 HX rfl)
  go_wp2_with fail
  clear D_t D_r
  generalize hn : World.setCell _ ⟨g_r, 5, none⟩ _ = w14
  replace HX := put1 HX (pC hn)
  clear hn
  exact retd 1 HX rfl Tryz.underlying76 (by kernel_rfl) rfl rfl rfl rfl (hcC_mk st_s false hc_zT)
theorem con_step {gp : Nat} {a : Option Addr} {c : Nat} {l : List Tok} {g : Gr} (h : Oks gp a c l g) : CT gp a c l 29 [] (stE xC) g.pCon := con_step' (v := ⟨gp, a, c, l⟩) h
end Go.Proofs.YtjabhmepafofmaaGreatDoor
namespace Go.Proofs.YtjabhmepafofmaaGreatDoor
open Go.RowKit
set_option maxHeartbeats 4000000 in
set_option maxRecDepth 100000 in
theorem some_fun' {v : Vd} {one : Pr F} {f1 : FuncId} (he : ∀ (args : Array Value) (u : World), Sem.run Tryz.prog (callFunc f1 args) u = .ok (.enter f1 args) u) (h : CT v.gp v.a v.c v.l f1 [] (stE xF) one) (sb : ByteArray) (n : Nat) : CT v.gp v.a v.c v.l 25 [.string sb, .func (.func f1) #[v.ptr] #[]] (rowE 9 xF) (some_ n sb one) := dc fun e HX => by
 have HH := Lib.hid h
 clear h
 replace HX := taild HX
 simp only [some_, bind_assoc'] at HX
 go_enter Tryz.func25, Tryz.ntmps25
 go_wp2_with fail
 refine callFd HX (HH.out) (fun _ h => ⟨rfl, h⟩) ?_; clear HX; intro w1 q2 x_x _ _ _ _ _ _ _ _ _ _ _ _ _ _ _ _ _ h3 HX
 go_upto_region 2 with fail
 generalize hn : w1.alloc _ = w4
 generalize hg : w1.heap.size = g_arr
 replace HX := alloc' HX hn hg
 clear hn hg
 replace HX := lit' HX rfl
 go_wp2_with fail
 go_loopw [7] (fun u wx => ∃ (m q j : Nat) (acc : List F) (av : Option Addr) (cv : Nat), u = .slice av m cv ∧ m ≤ q + 1 ∧ Hid (Dx v e wx q [.out 71 9 (.slice av m cv) m (acc.map xF)] ((more sb one j acc).bind .ret))) (fun u _ => v.l.length + 2 - lenOf u)
 case atStart => exact ⟨1, q2, n, [x_x], _, _, rfl, by omega, HX⟩
 case round =>
  clear HX
  obtain ⟨m, q, j, acc, av, cv, rfl, hmq, HX⟩ := hrel
  have hm := fewd HX hmq
  have hq := HX.out.dle
  obtain ⟨j2, HX⟩ := moredh HX
  go_wp2_with fail
  generalize hn : wr.alloc _ = w5
  generalize hg : wr.heap.size = g_sk
  replace HX := alloc' HX hn hg
  clear hn hg
  refine skipd HX ?_ ?_
  ·
   clear HX; intro w6 h7 HX
   go_wp2_with fail
   refine callFd HX (HH.out) (fun _ h => ⟨rfl, h⟩) ?_; clear HX; intro w8 q9 x_y _ _ _ _ _ _ _ _ _ _ _ _ _ _ _ _ _ h10 HX
   go_wp2_with (at_builtin; refine push' (alloc' HX rfl rfl) elemF (by decide) hm rfl _ _ 37 rfl Tryz.underlying37 rfl rfl (by simp [Value.oneCell']) rfl ?_; clear HX; intro a3 c3 w11 HX)
   exact ⟨⟨m + 1, q9, j2, acc ++ [x_y], a3, c3, rfl, by omega, snoc' HX⟩, by simp [lenOf]; omega⟩
  ·
   clear HX; intro w12 HX
   replace HX := row_ HX (by decide)
   go_wp2_with fail
   go_ret
   exact retrd HX (rw' 0 HX rfl)
theorem some_fun {gp : Nat} {a : Option Addr} {c : Nat} {l : List Tok} {one : Pr F} {f1 : FuncId} (he : ∀ (args : Array Value) (u : World), Sem.run Tryz.prog (callFunc f1 args) u = .ok (.enter f1 args) u) (h1 : CT gp a c l f1 [] (stE xF) one) (sb : ByteArray) (n : Nat) : CT gp a c l 25 [.string sb, .func (.func f1) #[.pointer (some ⟨gp, 0, none⟩)] #[]] (rowE 9 xF) (some_ n sb one) := some_fun' (v := ⟨gp, a, c, l⟩) he h1 sb n
set_option maxHeartbeats 4000000 in
set_option maxRecDepth 100000 in
theorem some_con' {v : Vd} {one : Pr C} {f1 : FuncId} (he : ∀ (args : Array Value) (u : World), Sem.run Tryz.prog (callFunc f1 args) u = .ok (.enter f1 args) u) (h : CT v.gp v.a v.c v.l f1 [] (stE xC) one) (sb : ByteArray) (n : Nat) : CT v.gp v.a v.c v.l 28 [.string sb, .func (.func f1) #[v.ptr] #[]] (rowE 6 xC) (some_ n sb one) := dc fun e HX => by
 have HH := Lib.hid h
 clear h
 replace HX := taild HX
 simp only [some_, bind_assoc'] at HX
 go_enter Tryz.func28, Tryz.ntmps28
 go_wp2_with fail
 refine callCd HX (HH.out) (fun _ h => ⟨rfl, h⟩) ?_; clear HX; intro w1 q2 x_x _ _ _ _ _ _ _ _ h3 HX
 go_upto_region 2 with fail
 generalize hn : w1.alloc _ = w4
 generalize hg : w1.heap.size = g_arr
 replace HX := alloc' HX hn hg
 clear hn hg
 replace HX := lit' HX rfl
 go_wp2_with fail
 go_loopw [7] (fun u wx => ∃ (m q j : Nat) (acc : List C) (av : Option Addr) (cv : Nat), u = .slice av m cv ∧ m ≤ q + 1 ∧ Hid (Dx v e wx q [.out 76 6 (.slice av m cv) m (acc.map xC)] ((more sb one j acc).bind .ret))) (fun u _ => v.l.length + 2 - lenOf u)
 case atStart => exact ⟨1, q2, n, [x_x], _, _, rfl, by omega, HX⟩
 case round =>
  clear HX
  obtain ⟨m, q, j, acc, av, cv, rfl, hmq, HX⟩ := hrel
  have hm := fewd HX hmq
  have hq := HX.out.dle
  obtain ⟨j2, HX⟩ := moredh HX
  go_wp2_with fail
  generalize hn : wr.alloc _ = w5
  generalize hg : wr.heap.size = g_sk
  replace HX := alloc' HX hn hg
  clear hn hg
  refine skipd HX ?_ ?_
  ·
   clear HX; intro w6 h7 HX
   go_wp2_with fail
   refine callCd HX (HH.out) (fun _ h => ⟨rfl, h⟩) ?_; clear HX; intro w8 q9 x_y _ _ _ _ _ _ _ _ h10 HX
   go_wp2_with (at_builtin; refine push' (alloc' HX rfl rfl) elemC (by decide) hm rfl _ _ 36 rfl Tryz.underlying36 rfl rfl (by simp [Value.oneCell']) rfl ?_; clear HX; intro a3 c3 w11 HX)
   exact ⟨⟨m + 1, q9, j2, acc ++ [x_y], a3, c3, rfl, by omega, snoc' HX⟩, by simp [lenOf]; omega⟩
  ·
   clear HX; intro w12 HX
   replace HX := row_ HX (by decide)
   go_wp2_with fail
   go_ret
   exact retrd HX (rw' 0 HX rfl)
theorem some_con {gp : Nat} {a : Option Addr} {c : Nat} {l : List Tok} {one : Pr C} {f1 : FuncId} (he : ∀ (args : Array Value) (u : World), Sem.run Tryz.prog (callFunc f1 args) u = .ok (.enter f1 args) u) (h1 : CT gp a c l f1 [] (stE xC) one) (sb : ByteArray) (n : Nat) : CT gp a c l 28 [.string sb, .func (.func f1) #[.pointer (some ⟨gp, 0, none⟩)] #[]] (rowE 6 xC) (some_ n sb one) := some_con' (v := ⟨gp, a, c, l⟩) he h1 sb n
set_option maxHeartbeats 4000000 in
set_option maxRecDepth 100000 in
theorem some_str' {v : Vd} {one : Pr ByteArray} {f1 : FuncId} (he : ∀ (args : Array Value) (u : World), Sem.run Tryz.prog (callFunc f1 args) u = .ok (.enter f1 args) u) (h : CT v.gp v.a v.c v.l f1 [] (txE) one) (sb : ByteArray) (n : Nat) : CT v.gp v.a v.c v.l 56 [.string sb, .func (.func f1) #[v.ptr] #[]] (rowE 1 (fun s => [xb s])) (some_ n sb one) := dc fun e HX => by
 have HH := Lib.hid h
 clear h
 replace HX := taild HX
 simp only [some_, bind_assoc'] at HX
 go_enter Tryz.func56, Tryz.ntmps56
 go_wp2_with fail
 refine calltd HX (HH.out) (fun _ h => ⟨rfl, h⟩) ?_; clear HX; intro w1 q2 st_x h3 HX
 go_upto_region 2 with fail
 generalize hn : w1.alloc _ = w4
 generalize hg : w1.heap.size = g_arr
 replace HX := alloc' HX hn hg
 clear hn hg
 replace HX := lit' (str' HX) rfl
 go_wp2_with fail
 go_loopw [7] (fun u wx => ∃ (m q j : Nat) (acc : List ByteArray) (av : Option Addr) (cv : Nat), u = .slice av m cv ∧ m ≤ q + 1 ∧ Hid (Dx v e wx q [.out 9 1 (.slice av m cv) m (acc.map (fun s => [xb s]))] ((more sb one j acc).bind .ret))) (fun u _ => v.l.length + 2 - lenOf u)
 case atStart => exact ⟨1, q2, n, [st_x], _, _, rfl, by omega, HX⟩
 case round =>
  clear HX
  obtain ⟨m, q, j, acc, av, cv, rfl, hmq, HX⟩ := hrel
  have hm := fewd HX hmq
  have hq := HX.out.dle
  obtain ⟨j2, HX⟩ := moredh HX
  go_wp2_with fail
  generalize hn : wr.alloc _ = w5
  generalize hg : wr.heap.size = g_sk
  replace HX := alloc' HX hn hg
  clear hn hg
  refine skipd HX ?_ ?_
  ·
   clear HX; intro w6 h7 HX
   go_wp2_with fail
   refine calltd HX (HH.out) (fun _ h => ⟨rfl, h⟩) ?_; clear HX; intro w8 q9 st_y h10 HX
   go_wp2_with (at_builtin; refine push' (str' (alloc' HX rfl rfl)) elemS (by decide) hm rfl _ _ 35 rfl Tryz.underlying35 rfl rfl (by simp [Value.oneCell']) rfl ?_; clear HX; intro a3 c3 w11 HX)
   exact ⟨⟨m + 1, q9, j2, acc ++ [st_y], a3, c3, rfl, by omega, snoc' HX⟩, by simp [lenOf]; omega⟩
  ·
   clear HX; intro w12 HX
   replace HX := row_ HX (by decide)
   go_wp2_with fail
   go_ret
   exact retrd HX (rw' 0 HX rfl)
theorem some_str {gp : Nat} {a : Option Addr} {c : Nat} {l : List Tok} {one : Pr ByteArray} {f1 : FuncId} (he : ∀ (args : Array Value) (u : World), Sem.run Tryz.prog (callFunc f1 args) u = .ok (.enter f1 args) u) (h1 : CT gp a c l f1 [] (txE) one) (sb : ByteArray) (n : Nat) : CT gp a c l 56 [.string sb, .func (.func f1) #[.pointer (some ⟨gp, 0, none⟩)] #[]] (rowE 1 (fun s => [xb s])) (some_ n sb one) := some_str' (v := ⟨gp, a, c, l⟩) he h1 sb n
end Go.Proofs.YtjabhmepafofmaaGreatDoor
namespace Go.Proofs.YtjabhmepafofmaaGreatDoor
open Go.RowKit
section
variable {β : Type} {v : Vw} {e : Ev β} {w w' : World} {q q' : Nat} {b b' : Bool} {L : List It} {m : Pr β} {Post : Ending → World → Prop}
theorem look' {K : Tok → Pr β} (h : Hid (Cx v e w q b L (next.bind K))) : Hid (Cx v e w q b L (K (rtok v.l q b))) := as' h (stepV rfl step_next)
theorem starts' (h : Hid (Cx v e w q b L m)) (k : ∀ w', Hid (Cx v e w' q b L m) → Post (.returned (.bool (Gr.startsB (rtok v.l q b)))) w') : Calls Tryz.prog 100 #[.pointer (some ⟨v.gp, 0, none⟩)] w Post := by
  refine (startsr h.out.par).mono ?_
  rintro _ w' ⟨rfl, hf⟩
  exact k w' (no' h hf)
theorem nt1 {l : List Tok} {p : Nat} {b : Bool} (h : signB (rtok l p b) ⟨#[33]⟩ = true) (hb : b = false) : true = seesB (l.getD p zTok) [⟨#[33]⟩, ⟨#[126]⟩] := by
  subst hb
  rw [nt_eq, show signB (l.getD p zTok) ⟨#[33]⟩ = true from h]
  rfl
theorem nt2 {l : List Tok} {p : Nat} {b : Bool} (h : signB (rtok l p b) ⟨#[33]⟩ = false) (hb : b = false) : signB (rtok l p b) ⟨#[126]⟩ = seesB (l.getD p zTok) [⟨#[33]⟩, ⟨#[126]⟩] := by
  subst hb
  rw [nt_eq, show signB (l.getD p zTok) ⟨#[33]⟩ = false from h]
  rfl
theorem k7 {t : Tok} {s : ByteArray} (h : signB t s = true) : t.kind = 7 := by
  unfold signB at h
  simp only [Bool.and_eq_true, decide_eq_true_eq] at h
  exact h.1
theorem k6 {t : Tok} {s : ByteArray} (h : wordB t s = true) : t.kind = 6 := by
  unfold wordB at h
  simp only [Bool.and_eq_true, decide_eq_true_eq] at h
  exact h.1
theorem known' {t : Tok} (h : Hid (Cx v e w q b L m)) (ht : Hid (rtok v.l q b = t)) (hk : t.kind ≠ 0) : Hid (Cx v e w q false L m) ∧ q < v.l.length := by
  obtain ⟨rfl, h2⟩ := rtok_lt (l := v.l) (p := q) (b := b) (by rw [ht.out]; exact hk)
  exact ⟨h, h2⟩
theorem skip_some {α : Type} {l : List Tok} {L : List ByteArray} {k : Bool → Pr α} {p : Nat} {V : Re α} (h : runS l ((skip L).bind k) p false = V) (hs : seesB (l.getD p zTok) L = true) : runS l (k true) (p + 1) false = V := by
  refine stepV h ?_
  show Pr.run l (if seesB (l.getD p zTok) L = true then _ else _ : Pr Bool) p = _
  rw [hs]
  rfl
theorem skipadv' {S : List ByteArray} {k : Bool → Pr β} (h : Hid (Cx v e w q false L ((skip S).bind k))) (hs : seesB (v.l.getD q zTok) S = true) : Hid (Cx v e w q false L (.adv (k true))) := as' h (skip_some rfl hs)
theorem skipno' {S : List ByteArray} {k : Bool → Pr β} (h : Hid (Cx v e w q b L ((skip S).bind k))) (hs : b = false → seesB (v.l.getD q zTok) S = false) : Hid (Cx v e w q b L (k false)) := as' h (skip_none rfl hs)
theorem tk_sees {l : List Tok} {q : Nat} {b : Bool} {t : Tok} {S : List ByteArray} (ht : Hid (rtok l q b = t)) (hk : t.kind = 7) (hs : seesB t S = true) : seesB (l.getD q zTok) S = true := by
  obtain ⟨rfl, _⟩ := rtok_lt (l := l) (p := q) (b := b) (by rw [ht.out, hk]; decide)
  rw [show l.getD q zTok = t from ht.out]
  exact hs
theorem tk_sees2 {l : List Tok} {q : Nat} {b c : Bool} {t : Tok} {S : List ByteArray} (ht : Hid (rtok l q b = t)) (hb : b = false) (hs : seesB t S = c) : seesB (l.getD q zTok) S = c := by
  subst hb
  rw [show l.getD q zTok = t from ht.out]
  exact hs
theorem num' {f : Int → β} {t : Tok} (h : Hid (Cx v e w q' b' L (.ret (f (rtok v.l q false).num)))) (ht : b' = false → t = v.l.getD q zTok) : Hid (Cx v e w q' b' L (.ret (f t.num))) := by
  cases b' with
  | true => exact any' h
  | false =>
    rw [ht rfl]
    exact h
theorem rnd' {P : Prop} (h : Hid (Cx v e w q false L m)) (hr : Hid (m = .out ∨ P)) : P := by
  rcases hr.out with h1 | h1
  · subst h1
    exact absurd rfl (ne' h)
  · exact h1
theorem rndb' {α : Type} {m1 : Pr α} {k : α → Pr β} {P : Prop} (h : Hid (Cx v e w q false L (m1.bind k))) (hr : Hid (m1 = .out ∨ P)) : P := by
  rcases hr.out with h1 | h1
  · subst h1
    exact absurd rfl (ne' h)
  · exact h1
theorem mayb' {S : List ByteArray} {is : Bool} {k : Bool → Pr β} (h : Hid (Cx v e w q b L ((skip S).bind k))) (hc : b = false → is = seesB (v.l.getD q zTok) S) (kk : ∀ w' t q', Hid (t = true → b = false) → Hid (Cx v e w' q' b L (k t)) → Post (.returned (.bool t)) w') : Calls Tryz.prog 31 #[.pointer (some ⟨v.gp, 0, none⟩), .bool is] w Post := by
  refine (mayC h.out.par S is hc).mono ?_
  rintro _ w' ⟨t, q', rfl, hst, hf, hp, h1, _⟩
  exact kk w' t q' (Lib.hid fun x => (h1 x).1) (Lib.hid (h.out.go hf hp hst))
theorem mayn' {S : List ByteArray} {is : Bool} {A B : Pr β} (h : Hid (Cx v e w q b L ((skip S).bind fun x => if x = true then A else B))) (hc : b = false → is = seesB (v.l.getD q zTok) S) (hw : Hid (is = false)) (k : ∀ w', Hid (Cx v e w' q b L B) → Post (.returned (.bool false)) w') : Calls Tryz.prog 31 #[.pointer (some ⟨v.gp, 0, none⟩), .bool is] w Post := by
  have h2 := neg' (skipno' h (fun hb => by rw [← hc hb]; exact hw.out)) (by decide)
  rw [hw.out]
  exact mayf' h2 k
theorem mayy' {S : List ByteArray} {is : Bool} {A B : Pr β} (h : Hid (Cx v e w q b L ((skip S).bind fun x => if x = true then A else B))) (hc : b = false → is = seesB (v.l.getD q zTok) S) (hw : Hid (is = true)) (hb : is = true → b = false ∧ q < v.l.length) (k : ∀ w', Hid (Cx v e w' (q + 1) false L A) → Post (.returned (.bool true)) w') : Calls Tryz.prog 31 #[.pointer (some ⟨v.gp, 0, none⟩), .bool is] w Post := by
  obtain ⟨rfl, hlt⟩ := hb hw.out
  have h2 := skipadv' h (by rw [← hc rfl]; exact hw.out)
  rw [hw.out]
  exact mayt' h2 hlt (fun w' h3 => k w' (as' h3 rfl))
theorem word_lt {l : List Tok} {p : Nat} {b : Bool} {s : ByteArray} (h : wordB (rtok l p b) s = true) : b = false ∧ p < l.length := rtok_lt (l := l) (p := p) (b := b) (by rw [k6 h]; decide)
theorem startb {l : List Tok} {q : Nat} {b : Bool} (h : Gr.startsB (rtok l q b) = true) : b = false := by
  cases b with
  | true => cases h
  | false => rfl
end
end Go.Proofs.YtjabhmepafofmaaGreatDoor
