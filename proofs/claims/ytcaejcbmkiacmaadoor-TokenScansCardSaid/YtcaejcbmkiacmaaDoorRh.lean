/- Bytes that are watched. -/
import Derived.Test.YtcaejcbmkiacmaaDoorRg
import Derived.ArgAppend
namespace Go.Proofs.YtcaejcbmkiacmaaDoor
open Go.RowKit

def tail6 : Bs := [98, 101, 104, 105, 110, 100]
theorem tail_any (w : World) : Calls Tryd.prog 21 #[] w fun e w' => e = .returned (.slice (some ⟨w.heap.size, 0, none⟩) 6 6) ∧ SrcAt w' (some ⟨w.heap.size, 0, none⟩) tail6 ∧ Below w.heap.size w w' := by
  have hcv := fun (u : World) (C : Array Value) (n c : Nat) => Lib.run_convert_bytes_const (P := Tryd.prog) u 22 5 C n c Tryd.underlying22 Tryd.underlying5
  go_enter Tryd.func21, Tryd.ntmps21
  go_wp2_with fail
  go_ret
  exact ⟨rfl, srcAt_new w tail6 _ _ _ rfl, below_alloc w _⟩
set_option maxHeartbeats 1000000 in
theorem copy_any (l : Bs) (a : Option Addr) (n cap : Nat) (w : World) (hl : Hid (l.length = n)) (hS : Hid (SrcAt w a l)) :
    Calls Tryd.prog 20 #[.slice a n cap] w fun e w' => e = .returned (.slice (some ⟨w.heap.size, 0, none⟩) n (grownCap w n 0 5)) ∧
      w' = w.drew.alloc (.cells (bytesRow (mk l) (grownCap w n 0 5)) 5 ((bytesRow (mk l) (grownCap w n 0 5)).size, (bytesRow (mk l) (grownCap w n 0 5)).size + 1)) := by
  have h1 := hS.out.spells n cap hl.out 9 Tryd.underlying9
  have h2 := fun u => run_bytes_of_string (P := Tryd.prog) u 9 22 5 (mk l) Tryd.underlying9 Tryd.underlying22 Tryd.underlying5
  have h3 : (mk l).size = n := by rw [mk_size, hl.out]
  go_enter Tryd.func20, Tryd.ntmps20
  go_wp2_with fail
  go_ret
  exact ⟨rfl, rfl⟩
theorem below_setCells {B b : Nat} {w : World} (hb : B ≤ b) : ∀ (vs : List Value) (o : Nat) (w' : World), Below B w w' → Below B w (w'.setCells b o vs)
  | [], _, _, h => h
  | v :: r, o, w', h => below_setCells hb r (o + 1) _ (below_setCell h hb o v)
theorem srcAt_ext {w : World} {g n : Nat} {l : Bs} (hl : l.length = n) (hs : SrcAt w (some ⟨g, 0, none⟩) l) (hc : ∀ j, j < 6 → (w.cell? ⟨g, n + j, none⟩).isSome = true) :
    SrcAt (w.setCells g n (bytesV tail6)) (some ⟨g, 0, none⟩) (l ++ tail6) := by
  intro i x hi
  refine ⟨g, 0, rfl, ?_⟩
  rcases Nat.lt_or_ge i l.length with h | h
  · rw [List.getElem?_append_left h] at hi
    rw [World.cell?_setCells_out g (bytesV tail6) n w ⟨g, 0 + i, none⟩ (fun _ _ => .inl (by show 0 + i < _; omega))]
    obtain ⟨b', off', e1, e2⟩ := hs i x hi
    simp only [Option.some.injEq, Addr.mk.injEq, and_true] at e1
    obtain ⟨rfl, rfl⟩ := e1
    exact e2
  · rw [List.getElem?_append_right h] at hi
    have hj : i - l.length < tail6.length := (List.getElem?_eq_some_iff.1 hi).1
    have hj6 : i - l.length < (bytesV tail6).length := by unfold bytesV; rw [List.length_map]; exact hj
    have := World.cell?_setCells_in g (bytesV tail6) n w (fun j hj => hc j (by simpa [bytesV, tail6] using hj)) (i - l.length) hj6
    have e : n + (i - l.length) = 0 + i := by omega
    rw [e] at this
    have h2 : (bytesV tail6)[i - l.length]? = some (.int .u8 (x.toNat : Nat)) := by unfold bytesV; rw [List.getElem?_map, hi]; rfl
    rw [List.getElem?_eq_getElem hj6] at h2
    exact this.trans h2
theorem bytesRow_size (s : ByteArray) (c : Nat) (h : s.size ≤ c) : (bytesRow s c).size = c := by
  have : s.data.size = s.size := rfl
  simp [bytesRow]
  omega
theorem cell_some {w : World} {g : Nat} {C : Array Value} {t : TypeId} {z : Nat × Nat} (h : w.heap[g]? = some (.cells C t z)) {j : Nat} (hj : j < C.size) : (w.cell? ⟨g, j, none⟩).isSome = true := by
  simp [World.cell?, h, hj]
theorem cell_free {w : World} {g : Nat} {C : Array Value} {t : TypeId} (h : w.heap[g]? = some (.cells C t (C.size, C.size + 1))) {j : Nat} (hj : j < C.size) : w.frozen? ⟨g, j, none⟩ = false := by
  simp [World.frozen?, h]
  omega
def Watched (w : World) (l : Bs) (n : Nat) (e : Ending) (w' : World) : Prop :=
  ∃ g o, e = .returned (.slice (some ⟨g, o, none⟩) n (n + 6)) ∧ SrcAt w' (some ⟨g, o, none⟩) (l ++ tail6) ∧ Below w.heap.size w w'
set_option maxHeartbeats 2000000 in
theorem roomy_any (l : Bs) (a : Option Addr) (n cap : Nat) (w : World) (hn : n ≤ 65536) (hl : Hid (l.length = n)) (hS : Hid (SrcAt w a l)) :
    Calls Tryd.prog 10 #[.slice a n cap] w (Watched w l n) := by
  have hge := grownCap_ge w n 0 5
  have hcm := grownCap_le_maxLen w n 0 5 (by unfold maxLen; omega)
  obtain ⟨c, hc⟩ : ∃ c, grownCap w n 0 5 = c := ⟨_, rfl⟩
  have hcopy := copy_any l a n cap w hl hS
  rw [hc] at hcopy hge hcm
  have HC := Lib.hid hcopy
  obtain ⟨i0, hi, hz0, hz1, hz2⟩ := info5
  have HI := Lib.hid (And.intro hi (And.intro hz0 (And.intro hz1 hz2)))
  clear hc hcopy hi hz0 hz1 hz2
  go_enter Tryd.func10, Tryd.ntmps10
  go_upto_region 1 with fail
  go_cut [3] from 4 to 7 (fun v wx => ∃ g' o' c', v = .slice (some ⟨g', o', none⟩) (n + 6) c' ∧ n + 6 ≤ c' ∧ c' ≤ maxLen ∧ SrcAt wx (some ⟨g', o', none⟩) (l ++ tail6) ∧ Below w.heap.size w wx)
  case first =>
    go_wp2_with fail
    refine HC.out.mono ?_
    rintro e w1 ⟨rfl, hw1⟩
    have hblk : w1.heap[w.heap.size]? = some (.cells (bytesRow (mk l) c) 5 ((bytesRow (mk l) c).size, (bytesRow (mk l) c).size + 1)) := by
      rw [hw1]
      exact last_block w.drew _
    have hsrc : SrcAt w1 (some ⟨w.heap.size, 0, none⟩) l := by rw [hw1]; exact srcAt_bytes w l _ _ _
    have hb1 : Below w.heap.size w w1 := by rw [hw1]; exact below_bytes w _
    have hrs : (bytesRow (mk l) c).size = c := bytesRow_size _ _ (by rw [mk_size, hl.out]; exact hge)
    have HBLK := Lib.hid hblk
    have HSRC := Lib.hid hsrc
    have HB1 := Lib.hid hb1
    have HRS := Lib.hid hrs
    clear hw1 hblk hsrc hb1 hrs
    go_wp2_with fail
    refine (tail_any w1).mono ?_
    rintro e w2 ⟨rfl, ht2, hb2⟩
    have HBLK2 := Lib.hid ((hb2.block _ (row_lt HBLK.out)).trans HBLK.out)
    have HSRC2 := Lib.hid (HSRC.out.below hb2)
    have HB2 := Lib.hid (HB1.out.trans (hb2.mono HB1.out.size))
    have HT2 := Lib.hid ht2
    generalize w1.heap.size = g1 at HT2
    clear hb2 ht2 HBLK HSRC
    obtain ⟨g, hg⟩ : ∃ g, w.heap.size = g := ⟨_, rfl⟩
    rw [hg] at HBLK2 HSRC2 ⊢
    have hgb : w.heap.size ≤ g := by omega
    clear hg
    go_wp2_with (at_builtin; refine wpList_append_arg w2 rfl _ _ 22 rfl 5 i0 (.int .u8 0) 1 1 Tryd.underlying22 HI.out.1 HI.out.2.1 HI.out.2.2.1 HI.out.2.2.2 rfl (by decide) g 0 n c (bytesV l) rfl (by rw [bytesV, List.length_map, hl.out, Nat.mul_one]) (fun j u hj => by have h := HSRC2.out.cells j u hj; rwa [Addr.add_lit] at h) ⟨g1, 0, none⟩ 6 6 (bytesV tail6) rfl rfl HT2.out.cells (bytesV_one tail6) (fun hr j hj => ?hsp) (by unfold maxLen; omega) (by omega) (fun hr => ?hroom) (fun hr v' w6 hown6 hgrow6 => ?hgrow))
    · have hj6 : j < 6 := hj
      exact ⟨cell_some HBLK2.out (by rw [HRS.out]; omega), cell_free HBLK2.out (by rw [HRS.out]; omega)⟩
    · go_meet
      have hcs : ∀ j, j < 6 → (w2.cell? ⟨g, n + j, none⟩).isSome = true := fun j hj => cell_some HBLK2.out (by rw [HRS.out]; omega)
      exact ⟨g, 0, c, rfl, hr, hcm, srcAt_ext hl.out HSRC2.out hcs, below_setCells hgb _ _ _ HB2.out⟩
    · obtain ⟨a6, c6, rfl, hs6, hc6, hm6⟩ := srcAt_own (own_app (l2 := tail6) hown6 hl.out rfl rfl)
      have hlen : (l ++ tail6).length = n + 6 := by rw [List.length_append, hl.out]; rfl
      rw [hlen] at hc6 ⊢
      have hs7 := hs6.some_of (by rw [hlen]; omega)
      obtain ⟨b6, o6, rfl⟩ := hs7
      have hbg : Below w.heap.size w w6 := HB2.out.trans (⟨hgrow6.os, hgrow6.tape, hgrow6.output, hgrow6.size, fun k hk => hgrow6.block k (Nat.lt_of_lt_of_le hk HB2.out.size) (by simp)⟩)
      have HS6 := Lib.hid hs6
      have HBG := Lib.hid hbg
      clear hown6 hgrow6 hs6 hbg
      go_meet
      exact ⟨b6, o6, c6, rfl, hc6, hm6, HS6.out, HBG.out⟩
  case rest =>
    obtain ⟨g', o', c', rfl, hc1, hc2, hsr, hbw⟩ := hcut
    have HSR := Lib.hid hsr
    have HBW := Lib.hid hbw
    clear hsr hbw
    go_wp2_with fail
    go_ret
    exact ⟨g', o', rfl, HSR.out, HBW.out⟩
end Go.Proofs.YtcaejcbmkiacmaaDoor
