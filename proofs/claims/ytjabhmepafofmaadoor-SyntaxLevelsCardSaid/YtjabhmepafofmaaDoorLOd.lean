/- What comes in: a row of declarations, and how many parts it has. -/
import Derived.Test.YtjabhmepafofmaaDoorG25
import Derived.Test.YtjabhmepafofmaaDoorLRn
set_option linter.unusedVariables false
set_option linter.unusedSimpArgs false
namespace Go.Proofs.YtjabhmepafofmaaDoor
open Go.ChangeShapes Go.WideShapes Go.ChangeAt Go.RowKit Go.Deep

theorem cofT : Tryd.prog.cellsOf 37 = 4 := by kernel_rfl
theorem cofP : Tryd.prog.cellsOf 74 = 4 := by kernel_rfl
theorem cofE : Tryd.prog.cellsOf 32 = 7 := by kernel_rfl
theorem cofR : Tryd.prog.cellsOf 76 = 11 := by kernel_rfl
theorem cofC : Tryd.prog.cellsOf 86 = 6 := by kernel_rfl
theorem cofF : Tryd.prog.cellsOf 82 = 9 := by kernel_rfl
theorem cofD : Tryd.prog.cellsOf 39 = 16 := by kernel_rfl
theorem cofS : Tryd.prog.cellsOf 9 = 1 := by kernel_rfl
theorem cofTs : Tryd.prog.cellsOf 35 = 1 := by kernel_rfl
theorem cofPs : Tryd.prog.cellsOf 72 = 1 := by kernel_rfl
theorem cofEs : Tryd.prog.cellsOf 29 = 1 := by kernel_rfl
theorem cofRs : Tryd.prog.cellsOf 30 = 1 := by kernel_rfl
theorem cofCs : Tryd.prog.cellsOf 33 = 1 := by kernel_rfl
theorem cofFs : Tryd.prog.cellsOf 34 = 1 := by kernel_rfl
theorem cofDs : Tryd.prog.cellsOf 23 = 1 := by kernel_rfl
theorem cofSs : Tryd.prog.cellsOf 22 = 1 := by kernel_rfl
theorem cofB : Tryd.prog.cellsOf 4 = 1 := by kernel_rfl
theorem cofK : Tryd.prog.cellsOf 5 = 1 := by kernel_rfl
theorem cofI : Tryd.prog.cellsOf 3 = 1 := by kernel_rfl
theorem cofJ : Tryd.prog.cellsOf 2 = 1 := by kernel_rfl
section
variable {H : Type} {enc : TypeId × Value → H} {W : World} {sp : Nat → Bool} {held : Bool}
/-- every reading of a type is one of a tree -/
def Opens (enc : TypeId × Value → H) (W : World) (sp : Nat → Bool) (held : Bool) {α : Type} (x : α → List X) (n : α → Nat) (e fuel : Nat) : Prop :=
 ∀ (cs : List Value) (y : DataW H × List MemPlace), DataW.trod enc Tryd.prog W 0 sp held fuel e cs = some y → ∃ t : α, Hc (fun b => b < W.heap.size) W (x t) cs ∧ n t ≤ Rows.uptoBulk y.1
theorem bulk_sum {α : Type} {n : α → Nat} {ns : List α → Nat} (hns0 : ns [] = 0) (hns : ∀ t r, ns (t :: r) = n t + ns r) : ∀ (l : List α) (ds : List (DataW H × List MemPlace)), (∀ (j : Nat) (t : α), l[j]? = some t → ∃ y, ds[j]? = some y ∧ n t ≤ Rows.uptoBulk y.1) → ns l ≤ Rows.uptoBulkAll (ds.map (·.1))
 | [], ds, _ => by rw [hns0]; exact Nat.zero_le _
 | t :: l, [], h => by
  obtain ⟨y, hy, _⟩ := h 0 t rfl
  cases hy
 | t :: l, y :: ds, h => by
  obtain ⟨y', hy, hn⟩ := h 0 t rfl
  cases hy
  have ih := bulk_sum hns0 hns l ds (fun j u hu => by
   have := h (j + 1) u (by simpa using hu)
   simpa using this)
  rw [hns]
  simp only [List.map_cons, Rows.uptoBulkAll]
  exact Nat.add_le_add hn ih
theorem open_rowX {α : Type} {x : α → List X} {n : α → Nat} {ns : List α → Nat} {s e k : Nat} (hns0 : ns [] = 0) (hns : ∀ t r, ns (t :: r) = n t + ns r) (hs : Tryd.prog.underlying s = some (.slice e)) (hk : Tryd.prog.cellsOf e = k) (h0 : 0 < k) {fuel : Nat}
  (ih : ∀ m, m < fuel → Opens enc W sp held x n e m) {cs : List Value} {y : DataW H × List MemPlace} (h : DataW.trod enc Tryd.prog W 0 sp held fuel s cs = some y) :
  ∃ (a : Option Addr) (l : List α) (cap : Nat), cs = [.slice a l.length cap] ∧ Hx (fun b => b < W.heap.size) W (.row k (l.map x)) (.slice a l.length cap) ∧ ns l ≤ Rows.uptoBulk y.1 := by
 rcases DataW.trod_slice hs h with ⟨hcs, _⟩ | ⟨a, len, cap, elems, rest, m, hm, hcs, hy, _, hlc, hcm, hle, hel, _⟩
 ·
  exact ⟨none, [], 0, hcs, hx_nil _, by rw [hns0]; exact Nat.zero_le _⟩
 ·
  rw [hk] at hel
  have key : ∀ i, i < len → ∃ t : α, ∃ cs' y', W.cells? 0 (a.add (i * k)) k = some cs' ∧ elems[i]? = some y' ∧ Hc (fun b => b < W.heap.size) W (x t) cs' ∧ n t ≤ Rows.uptoBulk y'.1 := fun i hi => by
   have h1 := hel i hi
   rw [List.getElem?_eq_getElem (by omega)] at h1
   obtain ⟨cs', h2, h3⟩ := Option.bind_eq_some_iff.1 h1
   obtain ⟨t, h4, h5⟩ := ih m (by omega) cs' _ h3
   exact ⟨t, cs', _, h2, List.getElem?_eq_getElem (by omega), h4, h5⟩
  obtain ⟨l, hl, hall⟩ := list_of len key
  refine ⟨some a, l, cap, by rw [hcs, hl], ?_, ?_⟩
  ·
   simp only [Hx, List.length_map]
   refine ⟨some a, cap, rfl, (fun e => by cases e), ⟨by omega, hcm⟩, Hrow.of_at h0 0 _ fun j z hz => ?_⟩
   rw [List.getElem?_map] at hz
   obtain ⟨t, ht, rfl⟩ := Option.map_eq_some_iff.1 hz
   have hjl : j < len := by rw [← hl]; exact (List.getElem?_eq_some_iff.1 ht).1
   obtain ⟨cs', y', h2, _, h4, _⟩ := hall j t ht
   obtain ⟨t0, ht0⟩ : ∃ t0, l[0]? = some t0 := ⟨_, List.getElem?_eq_getElem (by omega)⟩
   obtain ⟨cs0, y0, h20, _⟩ := hall 0 t0 ht0
   obtain ⟨_, hcl, hcell⟩ := World.cells?_some h2
   obtain ⟨_, hcl0, hcell0⟩ := World.cells?_some h20
   have h00 : ∃ v, W.cell? (a.add 0) = some v := by
    have h := hcell0 0 h0
    rw [add_add] at h
    obtain ⟨v0, hv0⟩ : ∃ v, cs0[0]? = some v := ⟨_, List.getElem?_eq_getElem (by omega)⟩
    exact ⟨v0, by simpa using h.trans hv0⟩
   have get : ∀ (m : Nat) (u : Value), cs'[m]? = some u → ∃ b off, a = ⟨b, off, none⟩ ∧ W.cell? ⟨b, off + (j * k + m), none⟩ = some u := fun m u hu => by
    have hm := (List.getElem?_eq_some_iff.1 hu).1
    have h := hcell m (by omega)
    rw [add_add, hu] at h
    exact plain_addr h h00
   obtain ⟨b, off, rfl, hb⟩ := get 0 _ (List.getElem?_eq_getElem (by omega))
   refine ⟨b, off, cs', rfl, World.block_lt_of_cell? W _ hb, hcl, fun m u hu => ?_, h4⟩
   obtain ⟨b', off', e, hc⟩ := get m u hu
   cases e
   rw [Nat.zero_add, Nat.add_assoc]
   exact hc
  ·
   rw [hy]
   simp only [Rows.uptoBulk]
   have := bulk_sum hns0 hns l elems fun j t ht => by
    obtain ⟨_, y', _, h3, _, h5⟩ := hall j t ht
    exact ⟨y', h3, h5⟩
   omega
theorem open_k {fuel : Nat} {c : List Value} {y : DataW H × List MemPlace} (h : DataW.trod enc Tryd.prog W 0 sp held fuel 5 c = some y) : ∃ k : Nat, c = [.int .u8 k] := by
 obtain ⟨k, e, _, hw⟩ := DataW.trod_int Tryd.underlying5 h
 have h1 : IntKind.u8.min ≤ k ∧ k ≤ IntKind.u8.max := by simpa [Lit.wf] using hw
 have e1 : IntKind.u8.min = 0 := rfl
 exact ⟨k.toNat, by rw [show ((k.toNat : Nat) : Int) = k by omega]; exact e⟩
theorem open_names {fuel : Nat} {cs : List Value} {y : DataW H × List MemPlace} (h : DataW.trod enc Tryd.prog W 0 sp held fuel 22 cs = some y) :
  ∃ (a : Option Addr) (l : List ByteArray) (cap : Nat), cs = [.slice a l.length cap] ∧ Hx (fun b => b < W.heap.size) W (.row 1 (l.map fun s => [xb s])) (.slice a l.length cap) := by
 obtain ⟨a, l, cap, h1, h2, _⟩ := open_rowX (x := fun s : ByteArray => [xb s]) (n := fun _ => 0) (ns := fun _ => 0) rfl (fun _ _ => rfl) Tryd.underlying22 cofS (by decide) (fun m _ cs y h => by
  obtain ⟨s, e, _⟩ := DataW.trod_string Tryd.underlying9 h
  rw [e]
  exact ⟨s, hc_cons (hx_lit _) hc_end, Nat.zero_le _⟩) h
 exact ⟨a, l, cap, h1, h2⟩
theorem take1 {cs : List Value} {i : Nat} {v : Value} (h : (cs.drop i).take 1 = [v]) : cs[i]? = some v := by
 have h2 := congrArg (fun l => l[0]?) h
 simpa using h2
theorem ext4 {cs : List Value} {a b c d : Value} (hl : cs.length = 4) (h0 : (cs.drop 0).take 1 = [a]) (h1 : (cs.drop 1).take 1 = [b]) (h2 : (cs.drop 2).take 1 = [c]) (h3 : (cs.drop 3).take 1 = [d]) : cs = [a, b, c, d] := by
 match cs, hl with
 | [_, _, _, _], _ => simp at h0 h1 h2 h3; simp [h0, h1, h2, h3]
theorem ext7 {cs : List Value} {a b c d e f g : Value} (hl : cs.length = 7) (h0 : (cs.drop 0).take 1 = [a]) (h1 : (cs.drop 1).take 1 = [b]) (h2 : (cs.drop 2).take 1 = [c]) (h3 : (cs.drop 3).take 1 = [d]) (h4 : (cs.drop 4).take 1 = [e]) (h5 : (cs.drop 5).take 1 = [f]) (h6 : (cs.drop 6).take 1 = [g]) : cs = [a, b, c, d, e, f, g] := by
 match cs, hl with
 | [_, _, _, _, _, _, _], _ => simp at h0 h1 h2 h3 h4 h5 h6; simp [h0, h1, h2, h3, h4, h5, h6]
theorem map_sum {ys : List (DataW H × List MemPlace)} {i : Nat} {y : DataW H × List MemPlace} (h : ys[i]? = some y) : Rows.uptoBulk y.1 ≤ Rows.uptoBulkAll (ys.map (·.1)) := by
 induction ys generalizing i with
 | nil => cases h
 | cons z r ih =>
  simp only [List.map_cons, Rows.uptoBulkAll]
  cases i with
  | zero => simp at h; subst h; omega
  | succ i =>
   have := ih (by simpa using h)
   omega
theorem open_ty : ∀ fuel, Opens enc W sp held xT nT 37 fuel := by
 intro fuel
 induction fuel using Nat.strongRecOn with
 | _ fuel ih =>
  intro cs y h
  obtain ⟨ys, n, rfl, rfl, hlen, hxl, hf⟩ := DataW.trod_struct Tryd.underlying37 h
  rw [cofT] at hlen
  have hxl4 : ys.length = 4 := hxl
  have f0 : DataW.trod enc Tryd.prog W 0 sp held n 5 ((cs.drop 0).take (Tryd.prog.cellsOf 5)) = ys[0]? := hf 0 _ rfl
  have f1 : DataW.trod enc Tryd.prog W 0 sp held n 9 ((cs.drop 1).take (Tryd.prog.cellsOf 9)) = ys[1]? := hf 1 _ rfl
  have f2 : DataW.trod enc Tryd.prog W 0 sp held n 3 ((cs.drop 2).take (Tryd.prog.cellsOf 3)) = ys[2]? := hf 2 _ rfl
  have f3 : DataW.trod enc Tryd.prog W 0 sp held n 35 ((cs.drop 3).take (Tryd.prog.cellsOf 35)) = ys[3]? := hf 3 _ rfl
  have hy3 : ys[3]? = some (ys[3]'(by omega)) := List.getElem?_eq_getElem (by omega)
  rw [cofK, List.getElem?_eq_getElem (by omega)] at f0
  rw [cofS, List.getElem?_eq_getElem (by omega)] at f1
  rw [cofI, List.getElem?_eq_getElem (by omega)] at f2
  rw [cofTs, hy3] at f3
  obtain ⟨k, e0⟩ := open_k f0
  obtain ⟨s, e1, _⟩ := DataW.trod_string Tryd.underlying9 f1
  obtain ⟨m, e2, _⟩ := DataW.trod_int Tryd.underlying3 f2
  obtain ⟨a, l, cap, e3, hx, hn⟩ := open_rowX (x := xT) (n := nT) (ns := nTs) (by simp only [nTs]) (fun t r => by simp only [nTs]) Tryd.underlying35 cofT (by decide) (fun m hm => ih m (by omega)) f3
  refine ⟨.mk k s m l, ?_, ?_⟩
  ·
   rw [ext4 hlen e0 e1 e2 e3]
   exact hcT_mk k s m hx
  ·
   have := map_sum hy3
   simp only [nT, Rows.uptoBulk]
   omega
theorem open_pat : ∀ fuel, Opens enc W sp held xT nT 74 fuel := by
 intro fuel
 induction fuel using Nat.strongRecOn with
 | _ fuel ih =>
  intro cs y h
  obtain ⟨ys, n, rfl, rfl, hlen, hxl, hf⟩ := DataW.trod_struct Tryd.underlying74 h
  rw [cofP] at hlen
  have hxl4 : ys.length = 4 := hxl
  have f0 : DataW.trod enc Tryd.prog W 0 sp held n 5 ((cs.drop 0).take (Tryd.prog.cellsOf 5)) = ys[0]? := hf 0 _ rfl
  have f1 : DataW.trod enc Tryd.prog W 0 sp held n 9 ((cs.drop 1).take (Tryd.prog.cellsOf 9)) = ys[1]? := hf 1 _ rfl
  have f2 : DataW.trod enc Tryd.prog W 0 sp held n 2 ((cs.drop 2).take (Tryd.prog.cellsOf 2)) = ys[2]? := hf 2 _ rfl
  have f3 : DataW.trod enc Tryd.prog W 0 sp held n 72 ((cs.drop 3).take (Tryd.prog.cellsOf 72)) = ys[3]? := hf 3 _ rfl
  have hy3 : ys[3]? = some (ys[3]'(by omega)) := List.getElem?_eq_getElem (by omega)
  rw [cofK, List.getElem?_eq_getElem (by omega)] at f0
  rw [cofS, List.getElem?_eq_getElem (by omega)] at f1
  rw [cofJ, List.getElem?_eq_getElem (by omega)] at f2
  rw [cofPs, hy3] at f3
  obtain ⟨k, e0⟩ := open_k f0
  obtain ⟨s, e1, _⟩ := DataW.trod_string Tryd.underlying9 f1
  obtain ⟨m, e2, _⟩ := DataW.trod_int Tryd.underlying2 f2
  obtain ⟨a, l, cap, e3, hx, hn⟩ := open_rowX (x := xT) (n := nT) (ns := nTs) (by simp only [nTs]) (fun t r => by simp only [nTs]) Tryd.underlying72 cofP (by decide) (fun m hm => ih m (by omega)) f3
  refine ⟨.mk k s m l, ?_, ?_⟩
  ·
   rw [ext4 hlen e0 e1 e2 e3]
   exact hcT_mk k s m hx
  ·
   have := map_sum hy3
   simp only [nT, Rows.uptoBulk]
   omega
theorem split2 {cs : List Value} {i j : Nat} (h : cs.length = i + j) : cs = (cs.drop 0).take i ++ (cs.drop i).take j := by
 rw [List.drop_zero, List.take_of_length_le (l := cs.drop i) (by simp; omega), List.take_append_drop]
theorem split3 {cs : List Value} {a b : Value} {j : Nat} (h : cs.length = 2 + j) (h0 : (cs.drop 0).take 1 = [a]) (h1 : (cs.drop 1).take 1 = [b]) : cs = a :: b :: (cs.drop 2).take j := by
 match cs, h with
 | [], h => simp at h; omega
 | [_], h => simp at h; omega
 | x :: y :: r, h =>
  simp at h0 h1 h
  subst h0 h1
  simp only [List.drop_succ_cons, List.drop_zero]
  rw [List.take_of_length_le (by omega)]
theorem split16 {cs : List Value} {a b c d e : Value} (h : cs.length = 16) (h0 : (cs.drop 0).take 1 = [a]) (h1 : (cs.drop 1).take 1 = [b]) (h2 : (cs.drop 2).take 1 = [c]) (h3 : (cs.drop 3).take 1 = [d]) (h4 : (cs.drop 4).take 1 = [e]) : cs = a :: b :: c :: d :: e :: ((cs.drop 5).take 4 ++ (cs.drop 9).take 7) := by
 match cs, h with
 | [_, _, _, _, _, _, _, _, _, _, _, _, _, _, _, _], _ => simp at h0 h1 h2 h3 h4; simp [h0, h1, h2, h3, h4]
theorem open_con (fuel : Nat) : Opens enc W sp held xC (fun c => nT c.ty) 86 fuel := by
 intro cs y h
 obtain ⟨ys, n, rfl, rfl, hlen, hxl, hf⟩ := DataW.trod_struct Tryd.underlying86 h
 rw [cofC] at hlen
 have hxl4 : ys.length = 3 := hxl
 have f0 : DataW.trod enc Tryd.prog W 0 sp held n 9 ((cs.drop 0).take (Tryd.prog.cellsOf 9)) = ys[0]? := hf 0 _ rfl
 have f1 : DataW.trod enc Tryd.prog W 0 sp held n 4 ((cs.drop 1).take (Tryd.prog.cellsOf 4)) = ys[1]? := hf 1 _ rfl
 have f2 : DataW.trod enc Tryd.prog W 0 sp held n 37 ((cs.drop 2).take (Tryd.prog.cellsOf 37)) = ys[2]? := hf 2 _ rfl
 have hy : ys[2]? = some (ys[2]'(by omega)) := List.getElem?_eq_getElem (by omega)
 rw [cofS, List.getElem?_eq_getElem (by omega)] at f0
 rw [cofB, List.getElem?_eq_getElem (by omega)] at f1
 rw [cofT, hy] at f2
 obtain ⟨s, e0, _⟩ := DataW.trod_string Tryd.underlying9 f0
 obtain ⟨b, e1, _⟩ := DataW.trod_bool Tryd.underlying4 f1
 obtain ⟨t, ht, hn⟩ := open_ty n _ _ f2
 refine ⟨⟨s, b, t⟩, ?_, ?_⟩
 ·
  rw [split3 (j := 4) hlen e0 e1]
  exact hcC_mk s b ht
 ·
  have := map_sum hy
  simp only [Rows.uptoBulk]
  omega
theorem nCs_cons (c : C) (r : List C) : nCs (c :: r) = nT c.ty + nCs r := by simp only [nCs]
theorem open_all : ∀ fuel, Opens enc W sp held xE nE 32 fuel ∧ Opens enc W sp held xR nR 76 fuel ∧ Opens enc W sp held xF nF 82 fuel ∧ Opens enc W sp held xD nD 39 fuel := by
 intro fuel
 induction fuel using Nat.strongRecOn with
 | _ fuel ih =>
  refine ⟨fun cs y h => ?_, fun cs y h => ?_, fun cs y h => ?_, fun cs y h => ?_⟩
  ·
   obtain ⟨ys, n, rfl, rfl, hlen, hxl, hf⟩ := DataW.trod_struct Tryd.underlying32 h
   rw [cofE] at hlen
   have hxl4 : ys.length = 7 := hxl
   have f0 : DataW.trod enc Tryd.prog W 0 sp held n 5 ((cs.drop 0).take (Tryd.prog.cellsOf 5)) = ys[0]? := hf 0 _ rfl
   have f1 : DataW.trod enc Tryd.prog W 0 sp held n 9 ((cs.drop 1).take (Tryd.prog.cellsOf 9)) = ys[1]? := hf 1 _ rfl
   have f2 : DataW.trod enc Tryd.prog W 0 sp held n 2 ((cs.drop 2).take (Tryd.prog.cellsOf 2)) = ys[2]? := hf 2 _ rfl
   have f3 : DataW.trod enc Tryd.prog W 0 sp held n 9 ((cs.drop 3).take (Tryd.prog.cellsOf 9)) = ys[3]? := hf 3 _ rfl
   have f4 : DataW.trod enc Tryd.prog W 0 sp held n 29 ((cs.drop 4).take (Tryd.prog.cellsOf 29)) = ys[4]? := hf 4 _ rfl
   have f5 : DataW.trod enc Tryd.prog W 0 sp held n 30 ((cs.drop 5).take (Tryd.prog.cellsOf 30)) = ys[5]? := hf 5 _ rfl
   have f6 : DataW.trod enc Tryd.prog W 0 sp held n 23 ((cs.drop 6).take (Tryd.prog.cellsOf 23)) = ys[6]? := hf 6 _ rfl
   match ys, hxl4 with
   | [y0, y1, y2, y3, y4, y5, y6], _ =>
    simp only [List.getElem?_cons_zero, List.getElem?_cons_succ] at f0 f1 f2 f3 f4 f5 f6
    rw [cofK] at f0
    rw [cofS] at f1 f3
    rw [cofJ] at f2
    rw [cofEs] at f4
    rw [cofRs] at f5
    rw [cofDs] at f6
    obtain ⟨k, e0⟩ := open_k f0
    obtain ⟨s, e1, _⟩ := DataW.trod_string Tryd.underlying9 f1
    obtain ⟨m, e2, _⟩ := DataW.trod_int Tryd.underlying2 f2
    obtain ⟨u, e3, _⟩ := DataW.trod_string Tryd.underlying9 f3
    obtain ⟨a4, l4, c4, e4, hx4, hn4⟩ := open_rowX (x := xE) (n := nE) (ns := nEs) (by simp only [nEs]) (fun t r => by simp only [nEs]) Tryd.underlying29 cofE (by decide) (fun m hm => (ih m (by omega)).1) f4
    obtain ⟨a5, l5, c5, e5, hx5, hn5⟩ := open_rowX (x := xR) (n := nR) (ns := nRs) (by simp only [nRs]) (fun t r => by simp only [nRs]) Tryd.underlying30 cofR (by decide) (fun m hm => (ih m (by omega)).2.1) f5
    obtain ⟨a6, l6, c6, e6, hx6, hn6⟩ := open_rowX (x := xD) (n := nD) (ns := nDs) (by simp only [nDs]) (fun t r => by simp only [nDs]) Tryd.underlying23 cofD (by decide) (fun m hm => (ih m (by omega)).2.2.2) f6
    refine ⟨.mk k s m u l4 l5 l6, ?_, ?_⟩
    ·
     rw [ext7 hlen e0 e1 e2 e3 e4 e5 e6]
     exact hcE_mk k s m u hx4 hx5 hx6
    ·
     simp only [nE, Rows.uptoBulk, List.map_cons, List.map_nil, Rows.uptoBulkAll]
     omega
  ·
   obtain ⟨ys, n, rfl, rfl, hlen, hxl, hf⟩ := DataW.trod_struct Tryd.underlying76 h
   rw [cofR] at hlen
   have hxl4 : ys.length = 2 := hxl
   have f0 : DataW.trod enc Tryd.prog W 0 sp held n 74 ((cs.drop 0).take (Tryd.prog.cellsOf 74)) = ys[0]? := hf 0 _ rfl
   have f1 : DataW.trod enc Tryd.prog W 0 sp held n 32 ((cs.drop 4).take (Tryd.prog.cellsOf 32)) = ys[1]? := hf 1 _ rfl
   match ys, hxl4 with
   | [y0, y1], _ =>
    simp only [List.getElem?_cons_zero, List.getElem?_cons_succ] at f0 f1
    rw [cofP] at f0
    rw [cofE] at f1
    obtain ⟨p, hp, hn0⟩ := open_pat n _ _ f0
    obtain ⟨x, hx, hn1⟩ := (ih n (by omega)).1 _ _ f1
    refine ⟨.mk p x, ?_, ?_⟩
    ·
     rw [split2 (i := 4) (j := 7) hlen]
     exact hcR_mk hp hx
    ·
     simp only [nR, Rows.uptoBulk, List.map_cons, List.map_nil, Rows.uptoBulkAll]
     omega
  ·
   obtain ⟨ys, n, rfl, rfl, hlen, hxl, hf⟩ := DataW.trod_struct Tryd.underlying82 h
   rw [cofF] at hlen
   have hxl4 : ys.length = 3 := hxl
   have f0 : DataW.trod enc Tryd.prog W 0 sp held n 9 ((cs.drop 0).take (Tryd.prog.cellsOf 9)) = ys[0]? := hf 0 _ rfl
   have f1 : DataW.trod enc Tryd.prog W 0 sp held n 22 ((cs.drop 1).take (Tryd.prog.cellsOf 22)) = ys[1]? := hf 1 _ rfl
   have f2 : DataW.trod enc Tryd.prog W 0 sp held n 32 ((cs.drop 2).take (Tryd.prog.cellsOf 32)) = ys[2]? := hf 2 _ rfl
   match ys, hxl4 with
   | [y0, y1, y2], _ =>
    simp only [List.getElem?_cons_zero, List.getElem?_cons_succ] at f0 f1 f2
    rw [cofS] at f0
    rw [cofSs] at f1
    rw [cofE] at f2
    obtain ⟨s, e0, _⟩ := DataW.trod_string Tryd.underlying9 f0
    obtain ⟨a1, l1, c1, e1, hx1⟩ := open_names f1
    obtain ⟨x, hx, hn2⟩ := (ih n (by omega)).1 _ _ f2
    refine ⟨.mk s l1 x, ?_, ?_⟩
    ·
     rw [split3 (j := 7) hlen e0 e1]
     exact hcF_mk s hx1 hx
    ·
     simp only [nF, Rows.uptoBulk, List.map_cons, List.map_nil, Rows.uptoBulkAll]
     omega
  ·
   obtain ⟨ys, n, rfl, rfl, hlen, hxl, hf⟩ := DataW.trod_struct Tryd.underlying39 h
   rw [cofD] at hlen
   have hxl4 : ys.length = 7 := hxl
   have f0 : DataW.trod enc Tryd.prog W 0 sp held n 5 ((cs.drop 0).take (Tryd.prog.cellsOf 5)) = ys[0]? := hf 0 _ rfl
   have f1 : DataW.trod enc Tryd.prog W 0 sp held n 9 ((cs.drop 1).take (Tryd.prog.cellsOf 9)) = ys[1]? := hf 1 _ rfl
   have f2 : DataW.trod enc Tryd.prog W 0 sp held n 22 ((cs.drop 2).take (Tryd.prog.cellsOf 22)) = ys[2]? := hf 2 _ rfl
   have f3 : DataW.trod enc Tryd.prog W 0 sp held n 33 ((cs.drop 3).take (Tryd.prog.cellsOf 33)) = ys[3]? := hf 3 _ rfl
   have f4 : DataW.trod enc Tryd.prog W 0 sp held n 34 ((cs.drop 4).take (Tryd.prog.cellsOf 34)) = ys[4]? := hf 4 _ rfl
   have f5 : DataW.trod enc Tryd.prog W 0 sp held n 37 ((cs.drop 5).take (Tryd.prog.cellsOf 37)) = ys[5]? := hf 5 _ rfl
   have f6 : DataW.trod enc Tryd.prog W 0 sp held n 32 ((cs.drop 9).take (Tryd.prog.cellsOf 32)) = ys[6]? := hf 6 _ rfl
   match ys, hxl4 with
   | [y0, y1, y2, y3, y4, y5, y6], _ =>
    simp only [List.getElem?_cons_zero, List.getElem?_cons_succ] at f0 f1 f2 f3 f4 f5 f6
    rw [cofK] at f0
    rw [cofS] at f1
    rw [cofSs] at f2
    rw [cofCs] at f3
    rw [cofFs] at f4
    rw [cofT] at f5
    rw [cofE] at f6
    obtain ⟨k, e0⟩ := open_k f0
    obtain ⟨s, e1, _⟩ := DataW.trod_string Tryd.underlying9 f1
    obtain ⟨a2, l2, c2, e2, hx2⟩ := open_names f2
    obtain ⟨a3, l3, c3, e3, hx3, hn3⟩ := open_rowX (x := xC) (n := fun c => nT c.ty) (ns := nCs) (by simp only [nCs]) nCs_cons Tryd.underlying33 cofC (by decide) (fun m hm => open_con m) f3
    obtain ⟨a4, l4, c4, e4, hx4, hn4⟩ := open_rowX (x := xF) (n := nF) (ns := nFs) (by simp only [nFs]) (fun t r => by simp only [nFs]) Tryd.underlying34 cofF (by decide) (fun m hm => (ih m (by omega)).2.2.1) f4
    obtain ⟨t, ht, hn5⟩ := open_ty n _ _ f5
    obtain ⟨x, hx, hn6⟩ := (ih n (by omega)).1 _ _ f6
    refine ⟨.mk k s l2 l3 l4 t x, ?_, ?_⟩
    ·
     rw [split16 hlen e0 e1 e2 e3 e4]
     exact hcD_mk k s hx2 hx3 hx4 ht hx
    ·
     simp only [nD, Rows.uptoBulk, List.map_cons, List.map_nil, Rows.uptoBulkAll]
     omega
set_option maxRecDepth 100000 in
/-- an argument that is a row of declarations -/
theorem open_decs {v : Value} {d : DataW H} {p : List MemPlace} {r : Reach} {b0 : Nat} (hv : Value.okWide Tryd.prog W r b0 23 v) (h : DataW.Trod enc Tryd.prog W 0 sp held 23 v d p) :
  ∃ (l : List D), Hx (fun b => b < W.heap.size) W (.row 16 (l.map xD)) v ∧ nDs l ≤ Rows.uptoBulk d := by
 obtain ⟨a0, len, cap, rfl⟩ := okWide_slice Tryd.underlying23 hv
 obtain ⟨fuel, hf⟩ := h
 obtain ⟨a, l, cap', e, hx, hn⟩ := open_rowX (x := xD) (n := nD) (ns := nDs) (by simp only [nDs]) (fun t r => by simp only [nDs]) Tryd.underlying23 cofD (by decide) (fun m _ => (open_all m).2.2.2) hf
 simp only [Value.cells, List.cons.injEq, and_true] at e
 rw [e]
 exact ⟨l, hx, hn⟩
end
end Go.Proofs.YtjabhmepafofmaaDoor
