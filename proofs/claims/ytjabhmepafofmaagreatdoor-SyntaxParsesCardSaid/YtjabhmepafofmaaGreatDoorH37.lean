/- Wsb -/
import Derived.Test.YtjabhmepafofmaaGreatDoorH02
set_option linter.unusedVariables false
set_option linter.unusedSimpArgs false
namespace Go.Proofs.YtjabhmepafofmaaGreatDoor
open Go.RowKit
set_option maxHeartbeats 4000000 in
set_option maxRecDepth 100000 in
theorem some_fun' {v : Vd} {one : Pr F} {f1 : FuncId} (he : ∀ (args : Array Value) (u : World), Sem.run Tryz.prog (callFunc f1 args) u = .ok (.enter f1 args) u) (h : CT v.gp v.a v.c v.l f1 [] (stE xF) one) (sb : ByteArray) (n : Nat) : CT v.gp v.a v.c v.l 25 [.string sb, .func (.func f1) #[v.ptr] #[]] (rowE 9 xF) (some_ n sb one) := dc fun e HX => by
 have HH := Lib.hid h
 clear h
 replace HX := taild HX
 simp only [some_, bind_assoc'] at HX
 go_enter Tryz.func25, Tryz.ntmps25
 go_wp2_with fail
 refine callFd HX (HH.out) (fun _ h => ⟨rfl, h⟩) ?_; clear HX; intro w1 q2 x_x _ _ _ _ _ _ _ _ _ _ _ _ _ _ _ _ _ h3 HX
 go_upto_region 2 with fail
 generalize hn : w1.alloc _ = w4
 generalize hg : w1.heap.size = g_arr
 replace HX := alloc' HX hn hg
 clear hn hg
 replace HX := lit' HX rfl
 go_wp2_with fail
 go_loopw [7] (fun u wx => ∃ (m q j : Nat) (acc : List F) (av : Option Addr) (cv : Nat), u = .slice av m cv ∧ m ≤ q + 1 ∧ Hid (Dx v e wx q [.out 71 9 (.slice av m cv) m (acc.map xF)] ((more sb one j acc).bind .ret))) (fun u _ => v.l.length + 2 - lenOf u)
 case atStart => exact ⟨1, q2, n, [x_x], _, _, rfl, by omega, HX⟩
 case round =>
  clear HX
  obtain ⟨m, q, j, acc, av, cv, rfl, hmq, HX⟩ := hrel
  have hm := fewd HX hmq
  have hq := HX.out.dle
  obtain ⟨j2, HX⟩ := moredh HX
  go_wp2_with fail
  generalize hn : wr.alloc _ = w5
  generalize hg : wr.heap.size = g_sk
  replace HX := alloc' HX hn hg
  clear hn hg
  refine skipd HX ?_ ?_ (by rfl) (by rfl) (by decide)
  ·
   clear HX; intro w6 h7 HX
   go_wp2_with fail
   refine callFd HX (HH.out) (fun _ h => ⟨rfl, h⟩) ?_; clear HX; intro w8 q9 x_y _ _ _ _ _ _ _ _ _ _ _ _ _ _ _ _ _ h10 HX
   go_wp2_with (at_builtin; refine push' (alloc' HX rfl rfl) elemF (by decide) hm rfl _ _ 37 rfl Tryz.underlying37 rfl rfl (by simp [Value.oneCell']) rfl ?_; clear HX; intro a3 c3 w11 HX)
   exact ⟨⟨m + 1, q9, j2, acc ++ [x_y], a3, c3, rfl, by omega, snoc' HX⟩, by simp [lenOf]; omega⟩
  ·
   clear HX; intro w12 HX
   replace HX := row_ HX (by decide)
   go_wp2_with fail
   go_ret
   exact retrd HX (rw' 0 HX rfl)
theorem some_fun {gp : Nat} {a : Option Addr} {c : Nat} {l : List Tok} {one : Pr F} {f1 : FuncId} (he : ∀ (args : Array Value) (u : World), Sem.run Tryz.prog (callFunc f1 args) u = .ok (.enter f1 args) u) (h1 : CT gp a c l f1 [] (stE xF) one) (sb : ByteArray) (n : Nat) : CT gp a c l 25 [.string sb, .func (.func f1) #[.pointer (some ⟨gp, 0, none⟩)] #[]] (rowE 9 xF) (some_ n sb one) := some_fun' (v := ⟨gp, a, c, l⟩) he h1 sb n
set_option maxHeartbeats 4000000 in
set_option maxRecDepth 100000 in
theorem some_con' {v : Vd} {one : Pr C} {f1 : FuncId} (he : ∀ (args : Array Value) (u : World), Sem.run Tryz.prog (callFunc f1 args) u = .ok (.enter f1 args) u) (h : CT v.gp v.a v.c v.l f1 [] (stE xC) one) (sb : ByteArray) (n : Nat) : CT v.gp v.a v.c v.l 28 [.string sb, .func (.func f1) #[v.ptr] #[]] (rowE 6 xC) (some_ n sb one) := dc fun e HX => by
 have HH := Lib.hid h
 clear h
 replace HX := taild HX
 simp only [some_, bind_assoc'] at HX
 go_enter Tryz.func28, Tryz.ntmps28
 go_wp2_with fail
 refine callCd HX (HH.out) (fun _ h => ⟨rfl, h⟩) ?_; clear HX; intro w1 q2 x_x _ _ _ _ _ _ _ _ h3 HX
 go_upto_region 2 with fail
 generalize hn : w1.alloc _ = w4
 generalize hg : w1.heap.size = g_arr
 replace HX := alloc' HX hn hg
 clear hn hg
 replace HX := lit' HX rfl
 go_wp2_with fail
 go_loopw [7] (fun u wx => ∃ (m q j : Nat) (acc : List C) (av : Option Addr) (cv : Nat), u = .slice av m cv ∧ m ≤ q + 1 ∧ Hid (Dx v e wx q [.out 76 6 (.slice av m cv) m (acc.map xC)] ((more sb one j acc).bind .ret))) (fun u _ => v.l.length + 2 - lenOf u)
 case atStart => exact ⟨1, q2, n, [x_x], _, _, rfl, by omega, HX⟩
 case round =>
  clear HX
  obtain ⟨m, q, j, acc, av, cv, rfl, hmq, HX⟩ := hrel
  have hm := fewd HX hmq
  have hq := HX.out.dle
  obtain ⟨j2, HX⟩ := moredh HX
  go_wp2_with fail
  generalize hn : wr.alloc _ = w5
  generalize hg : wr.heap.size = g_sk
  replace HX := alloc' HX hn hg
  clear hn hg
  refine skipd HX ?_ ?_ (by rfl) (by rfl) (by decide)
  ·
   clear HX; intro w6 h7 HX
   go_wp2_with fail
   refine callCd HX (HH.out) (fun _ h => ⟨rfl, h⟩) ?_; clear HX; intro w8 q9 x_y _ _ _ _ _ _ _ _ h10 HX
   go_wp2_with (at_builtin; refine push' (alloc' HX rfl rfl) elemC (by decide) hm rfl _ _ 36 rfl Tryz.underlying36 rfl rfl (by simp [Value.oneCell']) rfl ?_; clear HX; intro a3 c3 w11 HX)
   exact ⟨⟨m + 1, q9, j2, acc ++ [x_y], a3, c3, rfl, by omega, snoc' HX⟩, by simp [lenOf]; omega⟩
  ·
   clear HX; intro w12 HX
   replace HX := row_ HX (by decide)
   go_wp2_with fail
   go_ret
   exact retrd HX (rw' 0 HX rfl)
theorem some_con {gp : Nat} {a : Option Addr} {c : Nat} {l : List Tok} {one : Pr C} {f1 : FuncId} (he : ∀ (args : Array Value) (u : World), Sem.run Tryz.prog (callFunc f1 args) u = .ok (.enter f1 args) u) (h1 : CT gp a c l f1 [] (stE xC) one) (sb : ByteArray) (n : Nat) : CT gp a c l 28 [.string sb, .func (.func f1) #[.pointer (some ⟨gp, 0, none⟩)] #[]] (rowE 6 xC) (some_ n sb one) := some_con' (v := ⟨gp, a, c, l⟩) he h1 sb n
set_option maxHeartbeats 4000000 in
set_option maxRecDepth 100000 in
theorem some_str' {v : Vd} {one : Pr ByteArray} {f1 : FuncId} (he : ∀ (args : Array Value) (u : World), Sem.run Tryz.prog (callFunc f1 args) u = .ok (.enter f1 args) u) (h : CT v.gp v.a v.c v.l f1 [] (txE) one) (sb : ByteArray) (n : Nat) : CT v.gp v.a v.c v.l 56 [.string sb, .func (.func f1) #[v.ptr] #[]] (rowE 1 (fun s => [xb s])) (some_ n sb one) := dc fun e HX => by
 have HH := Lib.hid h
 clear h
 replace HX := taild HX
 simp only [some_, bind_assoc'] at HX
 go_enter Tryz.func56, Tryz.ntmps56
 go_wp2_with fail
 refine calltd HX (HH.out) (fun _ h => ⟨rfl, h⟩) ?_; clear HX; intro w1 q2 st_x h3 HX
 go_upto_region 2 with fail
 generalize hn : w1.alloc _ = w4
 generalize hg : w1.heap.size = g_arr
 replace HX := alloc' HX hn hg
 clear hn hg
 replace HX := lit' (str' HX) rfl
 go_wp2_with fail
 go_loopw [7] (fun u wx => ∃ (m q j : Nat) (acc : List ByteArray) (av : Option Addr) (cv : Nat), u = .slice av m cv ∧ m ≤ q + 1 ∧ Hid (Dx v e wx q [.out 9 1 (.slice av m cv) m (acc.map (fun s => [xb s]))] ((more sb one j acc).bind .ret))) (fun u _ => v.l.length + 2 - lenOf u)
 case atStart => exact ⟨1, q2, n, [st_x], _, _, rfl, by omega, HX⟩
 case round =>
  clear HX
  obtain ⟨m, q, j, acc, av, cv, rfl, hmq, HX⟩ := hrel
  have hm := fewd HX hmq
  have hq := HX.out.dle
  obtain ⟨j2, HX⟩ := moredh HX
  go_wp2_with fail
  generalize hn : wr.alloc _ = w5
  generalize hg : wr.heap.size = g_sk
  replace HX := alloc' HX hn hg
  clear hn hg
  refine skipd HX ?_ ?_ (by rfl) (by rfl) (by decide)
  ·
   clear HX; intro w6 h7 HX
   go_wp2_with fail
   refine calltd HX (HH.out) (fun _ h => ⟨rfl, h⟩) ?_; clear HX; intro w8 q9 st_y h10 HX
   go_wp2_with (at_builtin; refine push' (str' (alloc' HX rfl rfl)) elemS (by decide) hm rfl _ _ 35 rfl Tryz.underlying35 rfl rfl (by simp [Value.oneCell']) rfl ?_; clear HX; intro a3 c3 w11 HX)
   exact ⟨⟨m + 1, q9, j2, acc ++ [st_y], a3, c3, rfl, by omega, snoc' HX⟩, by simp [lenOf]; omega⟩
  ·
   clear HX; intro w12 HX
   replace HX := row_ HX (by decide)
   go_wp2_with fail
   go_ret
   exact retrd HX (rw' 0 HX rfl)
theorem some_str {gp : Nat} {a : Option Addr} {c : Nat} {l : List Tok} {one : Pr ByteArray} {f1 : FuncId} (he : ∀ (args : Array Value) (u : World), Sem.run Tryz.prog (callFunc f1 args) u = .ok (.enter f1 args) u) (h1 : CT gp a c l f1 [] (txE) one) (sb : ByteArray) (n : Nat) : CT gp a c l 56 [.string sb, .func (.func f1) #[.pointer (some ⟨gp, 0, none⟩)] #[]] (rowE 1 (fun s => [xb s])) (some_ n sb one) := some_str' (v := ⟨gp, a, c, l⟩) he h1 sb n
end Go.Proofs.YtjabhmepafofmaaGreatDoor
