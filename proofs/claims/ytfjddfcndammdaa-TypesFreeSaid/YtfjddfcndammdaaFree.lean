/- The law TypesFree: the walk. -/
import Derived.Test.YtfjddfcndammdaaBooks
import Derived.Test.YtfjddfcndammdaaFrp
import Derived.Test.YtfjddfcndammdaaOpenP
import Derived.Test.YtfjddfcndammdaaVast
import Derived.Deep.CutRange
namespace Go.Proofs.Ytfjddfcndammdaa
open Go.RowKit

theorem PRow.no {B : Nat} {w w' : World} {a : Option Addr} {l : List (T × T)} (h : PRow B w a l) (hf : Fr No w w') : PRow B w' a l := by
  intro j p hj
  obtain ⟨b, off, c0, c1, c2, c3, d0, d1, d2, d3, e, ⟨h0, h1, h2, h3⟩, ⟨g0, g1, g2, g3⟩, i1, i2⟩ := h j p hj
  exact ⟨b, off, c0, c1, c2, c3, d0, d1, d2, d3, e, ⟨hf.cell h0, hf.cell h1, hf.cell h2, hf.cell h3⟩, ⟨hf.cell g0, hf.cell g1, hf.cell g2, hf.cell g3⟩, i1.no hf, i2.no hf⟩
theorem info4 : ∃ i, Try.prog.info? 4 = some i ∧ i.zero = some (.bool false) ∧ i.size = 1 ∧ i.bytes = 1 := ⟨_, rfl, rfl, rfl, rfl⟩
theorem madeCells_at (z : Value) (n k : Nat) (hk : k < n) : (madeCells #[z] n)[k]? = some z := by
  rw [← Array.getElem?_toList, toList_madeCells_one, List.getElem?_replicate, if_pos hk]
theorem make12 (u : World) : (Instr.makeSlice 44 (.int .i64 12) (.int .i64 12)).run Try.prog u = .ok (.slice (some ⟨u.heap.size, 0, none⟩) 12 12) (u.alloc (.cells (madeCells #[.bool false] 12) 4)) := by
  obtain ⟨i0, hi, hz0, hz1, hz2⟩ := info4
  have h := run_make (P := Try.prog) u 44 4 i0 (.bool false) Try.underlying44 hi hz0 .i64 .i64 12 12 (by omega) (Int.le_refl _) (by rw [hz2]; omega) (by omega)
  simpa [hz1, Value.cells] using h
/-- the flags' block is written: types stay, the book stays -/
theorem Stays.flag {base gz : Nat} {ok : Nat → Prop} {w w' : World} {cs : Array Value} {z : Nat × Nat} (hf : Fr (Just gz) w w') (hgl : w.heap[gz]? = some (.cells cs 4 z)) (hb : base ≤ gz) : Stays base ok w w' := fun b hbs _ hs =>
  hf.block b hbs fun e => by
    have e : b = gz := e
    subst e
    rcases hs with hs | ⟨cs', z', hs⟩
    · omega
    · rw [hgl] at hs
      simp at hs
theorem Bk.flag {base g many gz : Nat} {l : Bs} {w w' : World} {cs : Array Value} {z : Nat × Nat} (h : Bk base w g many l) (hf : Fr (Just gz) w w') (hgl : w.heap[gz]? = some (.cells cs 4 z)) (hb : base ≤ gz) : Bk base w' g many l :=
  h.own hf (fun k e => by rw [show k = gz from e, hgl]; exact ⟨by simp [Bobj], hb⟩) (fun k cs' z' e => by rw [show k = gz from e, hgl]; simp)
theorem Nums.flag {base gz : Nat} {w w' : World} {v : Value} {l : List Int} {cs : Array Value} {z : Nat × Nat} (h : Nums base w v l) (hf : Fr (Just gz) w w') (hgl : w.heap[gz]? = some (.cells cs 4 z)) : Nums base w' v l :=
  owns_fr h hf fun b hb e => by
    obtain ⟨_, cs', h2⟩ := own_three h hb
    rw [show b = gz from e, hgl] at h2
    simp at h2
theorem take_snocA {α : Type} {l : List α} {k : Nat} {t : α} (h : l[k]? = some t) : l.take (k + 1) = l.take k ++ [t] := by
  rw [List.take_add_one, h]
  rfl
/-- which numbers were seen -/
def Seen (w : World) (gz : Nat) (ns : List Int) : Prop := ∃ cs, w.heap[gz]? = some (.cells cs 4 (0, 0)) ∧ ∀ j : Nat, j < 12 → cs[j]? = some (.bool (decide ((j : Int) ∈ ns)))
theorem seen_nil {w : World} {gz : Nat} (h : w.heap[gz]? = some (.cells (madeCells #[.bool false] 12) 4 (0, 0))) : Seen w gz [] := by
  refine ⟨_, h, fun j hj => ?_⟩
  rw [madeCells_at _ _ _ hj]
  simp
theorem seen_set {w : World} {gz x : Nat} {ns : List Int} (h : Seen w gz ns) (hx : x < 12) : Seen (w.setCell ⟨gz, x, none⟩ (.bool true)) gz (ns ++ [(x : Int)]) := by
  obtain ⟨cs, h1, h2⟩ := h
  refine ⟨_, block_setCell h1 x (.bool true), fun j hj => ?_⟩
  rw [Array.getElem?_setIfInBounds]
  by_cases e : x = j
  · subst e
    have : x < cs.size := (Array.getElem?_eq_some_iff.1 (h2 x hx)).1
    simp [this]
  · rw [if_neg e, h2 j hj]
    have : ¬ (j : Int) = (x : Int) := by omega
    simp [this]

set_option maxHeartbeats 16000000 in
set_option maxRecDepth 100000 in
theorem free_any (n : Nat) (hn : n < 256) (l : List (T × T)) (hsl : ShortP l) (m : Nat) (hml : l.length = m) (a : Option Addr) (cap : Nat) (t : T) (hst : Short t) (vt : Value) (w : World) (hrow : PRow w.heap.size w a l) (hit : IsT w.heap.size w t vt) :
    Calls Try.prog 5 #[.int .u8 n, .slice a m cap, vt] w (SaidT w true) := by
  obtain ⟨many, hmany⟩ : ∃ many, n % 12 = many := ⟨_, rfl⟩
  have hm12 : many < 12 := by omega
  have hrem : ((n : Int)).tmod 12 = (many : Int) := by rw [Int.tmod_eq_emod_of_nonneg (by omega)]; omega
  have HMANY := Lib.hid hmany
  clear hmany
  have HTV := Lib.hid (fun w' (hf : Fr No w w') => vast_any w.heap.size t hst vt w' hf.size (hit.no hf))
  have HLV := Lib.hid (fun (x : T) (hx : Short x) v w' (hf : Fr No w w') (hi : IsT w.heap.size w' x v) => vast_any w.heap.size x hx v w' hf.size hi)
  have HROW := Lib.hid (fun w' (hf : Fr No w w') => hrow.no hf)
  have HM := Lib.hid hml
  have HSL := Lib.hid hsl
  obtain ⟨x0, x1, x2, x3, rfl⟩ := is_agg hit
  obtain ⟨k2, s2, n2, aa2, mm2, cc2, rfl, rfl, rfl, rfl⟩ := is_cells hit
  have HIT := Lib.hid (fun B w' (hB : w.heap.size ≤ B) (hf : Fr No w w') => is_base hB t _ (hit.no hf))
  obtain ⟨w0, hw0⟩ : ∃ w0, w0 = w.alloc (.cells #[.int .u8 k2, .string s2, .int .i64 n2, .slice aa2 mm2 cc2] 24) := ⟨_, rfl⟩
  have hR1 : w0.heap[w.heap.size]? = some (.cells #[.int .u8 k2, .string s2, .int .i64 n2, .slice aa2 mm2 cc2] 24 (0, 0)) := by rw [hw0]; exact new_block w _
  have HF0 : Hid (Fr No w w0) := Lib.hid (by rw [hw0]; exact Fr.alloc _ _)
  clear hit hrow hst hsl hml
  go_enter Try.func5, Try.ntmps5
  go_upto_region 1 with fail
  rw [← hw0]
  obtain ⟨gt, hgt⟩ : ∃ gt, w.heap.size = gt := ⟨_, rfl⟩
  have HGS := Lib.hid hgt
  rw [hgt] at hR1 ⊢
  have HCT : Hid (∀ w', Fr No w0 w' → (w'.cell? ⟨gt, 0, none⟩ = some (.int .u8 k2) ∧ w'.cell? ⟨gt, 1, none⟩ = some (.string s2) ∧ w'.cell? ⟨gt, 2, none⟩ = some (.int .i64 n2) ∧ w'.cell? ⟨gt, 3, none⟩ = some (.slice aa2 mm2 cc2))) := Lib.hid (fun w' hf => ⟨cell_of (hf.keeps hR1 no_one) 0, cell_of (hf.keeps hR1 no_one) 1, cell_of (hf.keeps hR1 no_one) 2, cell_of (hf.keeps hR1 no_one) 3⟩)
  clear hw0 hgt hR1
  obtain ⟨d0, d1, d2, d3⟩ := HCT.out _ (Fr.refl No w0)
  by_cases hlen : (10 : Int) < (m : Int)
  · clear d0 d1 d2 d3
    go_wp2_with fail
    refine (works_any _).mono ?_
    rintro e w9 ⟨rfl, hf9⟩
    go_wp2_with fail
    go_ret
    exact ⟨rfl, HF0.out.then hf9⟩
  have hdl : decide ((10 : Int) < (m : Int)) = false := decide_eq_false hlen
  go_wp2_with fail
  refine (HTV.out _ HF0.out).mono ?_
  rintro e w2 ⟨rfl, hf2⟩
  have HF2 : Hid (Fr No w0 w2) := Lib.hid hf2
  clear hf2 d0 d1 d2 d3
  cases hvt : vast t with
  | true =>
    clear hvt
    go_wp2_with fail
    refine (works_any _).mono ?_
    rintro e w9 ⟨rfl, hf9⟩
    go_wp2_with fail
    go_ret
    exact ⟨rfl, (HF0.out.then HF2.out).then hf9⟩
  | false =>
  have HVT := Lib.hid hvt
  have HSM : Hid (parts t ≤ 400) := Lib.hid (vast_small hvt).1
  clear hvt
  go_wp2_with fail
  refine (books_any n many HMANY.out hn _).mono ?_
  rintro e w4 ⟨g, gr, rfl, hbk, hf4⟩
  obtain ⟨bs, hbs⟩ : ∃ bs, w2.heap.size = bs := ⟨_, rfl⟩
  rw [hbs] at hbk
  have HB4 := Lib.hid hbk
  have HF4 : Hid (Fr No w0 w4) := Lib.hid (HF2.out.then hf4)
  have HBS : Hid (w.heap.size ≤ bs ∧ w0.heap.size ≤ bs) := Lib.hid (by have := HF0.out.size; have := HF2.out.size; omega)
  have HIA : Hid (∀ w', Fr No w0 w' → IsT bs w' t (.agg #[.int .u8 k2, .string s2, .int .i64 n2, .slice aa2 mm2 cc2])) := Lib.hid (fun w' hf => HIT.out bs w' HBS.out.1 (HF0.out.then hf))
  clear hbk hf4 hbs
  go_wp2_with fail
  go_loopw [9] (fun i wr => ∃ (q : Nat) (lb : Bs), q ≤ m ∧ i = .int .i64 q ∧ Hid (Fr No w0 wr) ∧ Hid (Bk bs wr g many lb) ∧ Hid (Bd many lb)) (fun i _ => m - (intOf i).toNat)
  case atStart => exact ⟨0, [], Nat.zero_le _, rfl, HF4, HB4, Lib.hid (bd_nil (by omega))⟩
  case round =>
    obtain ⟨q, lb, hq, rfl, HF, HB, HBD⟩ := hrel
    by_cases hqm : q = m
    · clear HB4 HF4 HF2
      obtain ⟨we, hwe⟩ : ∃ we, we = wr := ⟨wr, rfl⟩
      rw [← hwe] at HF HB ⊢
      have HFE := HF
      have HBE := HB
      clear hwe HF HB wr
      obtain ⟨c0, c1, c2, c3⟩ := HCT.out _ HFE.out
      go_wp2_with fail
      refine (rright_any 1048576 t (by have := HSM.out; omega) (by decide) _ _ _ _ (HIA.out _ HFE.out)).mono ?_
      rintro e wx ⟨rfl, hfx⟩
      obtain ⟨we', hwe'⟩ : ∃ we', we' = wx := ⟨wx, rfl⟩
      have HFX : Hid (Fr No w0 we') := Lib.hid (by rw [hwe']; exact HFE.out.then hfx)
      have HBX : Hid (Bk bs we' g many lb) := Lib.hid (by rw [hwe']; exact HBE.out.no hfx)
      rw [← hwe']
      clear c0 c1 c2 c3 hfx hwe' HFE HBE wx we
      obtain ⟨we, hwe⟩ : ∃ we, we = we' := ⟨we', rfl⟩
      rw [← hwe] at HFX HBX ⊢
      have HFE := HFX
      have HBE := HBX
      clear hwe HFX HBX we'
      cases hrt : right t with
      | false =>
        have HFR := Lib.hid (free_not (many := many) (l := lb) hrt)
        clear hrt
        go_upto_region 11 with fail
        refine region_e (fun w' => (w'.cell? ⟨gt, 0, none⟩ = some (.int .u8 k2) ∧ w'.cell? ⟨gt, 1, none⟩ = some (.string s2) ∧ w'.cell? ⟨gt, 2, none⟩ = some (.int .i64 n2) ∧ w'.cell? ⟨gt, 3, none⟩ = some (.slice aa2 mm2 cc2))) [] (by kernel_rfl) ?_ (fun hHeld => ?_)
        · exact HCT.out _ (HFE.out.then (Fr.drew _))
        refine take_op 0 (some 63) (Op.move ( .tmp 7)) 27 ?_ (by kernel_rfl) (by kernel_rfl) (by kernel_rfl) (fun _ _ _ h => h) ?_ (by assumption) ?_
        rotate_left
        · intro w hSw; (try dsimp only at hSw); go_simp; (try (with_reducible rfl))
        try simp only [Act.put, List.setIfInBounds_toArray, List.set_cons_zero, List.set_cons_succ]
        refine take_op 1 (some 64) (Op.load 24 ( .tmp 5)) 24 ?_ (by kernel_rfl) (by kernel_rfl) (by kernel_rfl) (fun _ _ _ h => h) ?_ (by assumption) ?_
        rotate_left
        · intro w hSw; (try dsimp only at hSw); go_simp; (try (with_reducible rfl))
        try simp only [Act.put, List.setIfInBounds_toArray, List.set_cons_zero, List.set_cons_succ]
        refine ready_e (rs := [2]) (by kernel_rfl) (by simp) ?_
        refine do_mid (o := _) rfl (fun K hK => ?_) none_e -- slot 65 F18
        go_simp
        go_at_call 18
        refine (Free_any bs _ g many lb HBD.out.wf.fine t [] (by have := HSM.out; omega) HFR.out.1 _ _ (HBE.out.no (Fr.drew _)).reads (Nat.le_refl _) (HIA.out _ (HFE.out.then (Fr.drew _)))).mono ?_
        rintro e' y1 ⟨v1, rfl, hn1, hf1⟩
        obtain ⟨va, vcap, rfl, _⟩ := hn1.slice
        have HY1 : Hid (Fr No we y1) := Lib.hid ((Fr.drew we).then hf1)
        clear hn1 hf1
        refine hK.out _ _ ?_ (fun hHeld => ?_)
        · exact HCT.out _ (HFE.out.then HY1.out)
        clear hK K
        try dsimp only
        try simp only [Act.put, List.setIfInBounds_toArray, List.set_cons_zero, List.set_cons_succ]
        refine take_op 3 (some 66) (Op.call { callee := Callee.builtin Builtin.len, args := #[ .tmp 65], argTypes := #[42] }) 3 ?_ (by kernel_rfl) (by kernel_rfl) (by kernel_rfl) (fun _ _ _ h => h) ?_ (by assumption) ?_
        rotate_left
        · intro w hSw; (try dsimp only at hSw); go_simp; (try (with_reducible rfl))
        try simp only [Act.put, List.setIfInBounds_toArray, List.set_cons_zero, List.set_cons_succ]
        refine take_op 4 (some 67) (Op.binOp BinOp.eql 3 ( .tmp 66) ( .const (.int .i64 0)) 3) 4 ?_ (by kernel_rfl) (by kernel_rfl) (by kernel_rfl) (fun _ _ _ h => h) ?_ (by assumption) ?_
        rotate_left
        · intro w hSw; (try dsimp only at hSw); go_simp; (try (with_reducible rfl))
        try simp only [Act.put, List.setIfInBounds_toArray, List.set_cons_zero, List.set_cons_succ]
        refine take_op 5 (some 68) (Op.move ( .tmp 67)) 4 ?_ (by kernel_rfl) (by kernel_rfl) (by kernel_rfl) (fun _ _ _ h => h) ?_ (by assumption) ?_
        rotate_left
        · intro w hSw; (try dsimp only at hSw); go_simp; (try (with_reducible rfl))
        try simp only [Act.put, List.setIfInBounds_toArray, List.set_cons_zero, List.set_cons_succ]
        refine take_op 6 (some 69) (Op.move ( .tmp 7)) 27 ?_ (by kernel_rfl) (by kernel_rfl) (by kernel_rfl) (fun _ _ _ h => h) ?_ (by assumption) ?_
        rotate_left
        · intro w hSw; (try dsimp only at hSw); go_simp; (try (with_reducible rfl))
        try simp only [Act.put, List.setIfInBounds_toArray, List.set_cons_zero, List.set_cons_succ]
        refine take_op 7 (some 70) (Op.load 24 ( .tmp 5)) 24 ?_ (by kernel_rfl) (by kernel_rfl) (by kernel_rfl) (fun _ _ _ h => h) ?_ (by assumption) ?_
        rotate_left
        · intro w hSw; (try dsimp only at hSw); go_simp; (try (with_reducible rfl))
        try simp only [Act.put, List.setIfInBounds_toArray, List.set_cons_zero, List.set_cons_succ]
        refine take_op 9 (some 72) (Op.load 24 ( .tmp 5)) 24 ?_ (by kernel_rfl) (by kernel_rfl) (by kernel_rfl) (fun _ _ _ h => h) ?_ (by assumption) ?_
        rotate_left
        · intro w hSw; (try dsimp only at hSw); go_simp; (try (with_reducible rfl))
        try simp only [Act.put, List.setIfInBounds_toArray, List.set_cons_zero, List.set_cons_succ]
        refine ready_e (rs := [8]) (by kernel_rfl) (by simp) ?_
        refine do_mid (o := _) rfl (fun K hK => ?_) none_e -- slot 71 F14
        go_simp
        go_at_call 14
        refine (Apply_any bs _ g many lb HBD.out.wf.fine t t (by have := HSM.out; omega) HFR.out.2 _ _ (HBE.out.no HY1.out).reads (Nat.le_refl _) (HIA.out _ (HFE.out.then HY1.out))).mono ?_
        rintro e' y2 ⟨v2, rfl, hi2, hf2⟩
        obtain ⟨x0, x1, x2, x3, rfl⟩ := is_agg hi2
        obtain ⟨kk5, ss5, nn5, ab5, mb5, cb5, rfl, rfl, rfl, rfl⟩ := is_cells hi2
        have HI5 := Lib.hid hi2
        have HY2 : Hid (Fr No we y2) := Lib.hid (HY1.out.then hf2)
        clear hi2 hf2
        refine hK.out _ _ ?_ (fun hHeld => ?_)
        · exact HCT.out _ (HFE.out.then HY2.out)
        clear hK K
        try dsimp only
        try simp only [Act.put, List.setIfInBounds_toArray, List.set_cons_zero, List.set_cons_succ]
        refine ready_e (rs := [10]) (by kernel_rfl) (by simp) ?_
        refine do_mid (o := _) rfl (fun K hK => ?_) none_e -- slot 73 F13
        go_simp
        go_at_call 13
        refine (rsame_ok t t (by have := HSM.out; omega) (by have := HSM.out; omega) _ _ _ _ _ _ _ HI5.out (HIA.out _ (HFE.out.then HY2.out))).mono ?_
        rintro e' y3 ⟨rfl, hf3⟩
        have HY3 : Hid (Fr No we y3) := Lib.hid (HY2.out.then hf3)
        have HSS := Lib.hid (same_self t)
        rw [HSS.out]
        clear hf3
        refine hK.out _ _ ?_ (fun hHeld => ?_)
        · exact HCT.out _ (HFE.out.then HY3.out)
        clear hK K
        try dsimp only
        try simp only [Act.put, List.setIfInBounds_toArray, List.set_cons_zero, List.set_cons_succ]
        refine take_op 11 (some 74) (Op.pick ( .tmp 68) ( .tmp 73) ( .const (Value.bool false))) 4 ?_ (by kernel_rfl) (by kernel_rfl) (by kernel_rfl) (fun _ _ _ h => h) ?_ (by assumption) ?_
        rotate_left
        · intro w hSw; (try dsimp only at hSw); go_simp; (try (with_reducible rfl))
        try simp only [Act.put, List.setIfInBounds_toArray, List.set_cons_zero, List.set_cons_succ]
        refine take_op 12 (some 75) (Op.move ( .tmp 74)) 4 ?_ (by kernel_rfl) (by kernel_rfl) (by kernel_rfl) (fun _ _ _ h => h) ?_ (by assumption) ?_
        rotate_left
        · intro w hSw; (try dsimp only at hSw); go_simp; (try (with_reducible rfl))
        try simp only [Act.put, List.setIfInBounds_toArray, List.set_cons_zero, List.set_cons_succ]
        refine ready_e (rs := [13]) (by kernel_rfl) (by simp) ?_
        refine do_mid (o := _) rfl (fun K hK => ?_) none_e -- slot 76 F9
        go_simp
        go_at_call 9
        refine (works_any _).mono ?_
        rintro e' y4 ⟨rfl, hf4⟩
        have HY4 : Hid (Fr No we y4) := Lib.hid (HY3.out.then hf4)
        clear hf4
        refine hK.out _ _ ?_ (fun hHeld => ?_)
        · exact HCT.out _ (HFE.out.then HY4.out)
        clear hK K
        try dsimp only
        try simp only [Act.put, List.setIfInBounds_toArray, List.set_cons_zero, List.set_cons_succ]
        refine take_op 14 (some 77) (Op.pick ( .tmp 75) ( .tmp 76) ( .const (Value.bool false))) 4 ?_ (by kernel_rfl) (by kernel_rfl) (by kernel_rfl) (fun _ _ _ h => h) ?_ (by assumption) ?_
        rotate_left
        · intro w hSw; (try dsimp only at hSw); go_simp; (try (with_reducible rfl))
        try simp only [Act.put, List.setIfInBounds_toArray, List.set_cons_zero, List.set_cons_succ]
        refine take_op 15 (some 6) (Op.assign ( .tmp 77)) 4 ?_ (by kernel_rfl) (by kernel_rfl) (by kernel_rfl) (fun _ _ _ h => h) ?_ (by assumption) ?_
        rotate_left
        · intro w hSw; (try dsimp only at hSw); go_simp; (try (with_reducible rfl))
        try simp only [Act.put, List.setIfInBounds_toArray, List.set_cons_zero, List.set_cons_succ]
        refine done_e (by kernel_rfl) ?_ _
        go_wp2_with fail
        go_ret
        exact ⟨rfl, HF0.out.then (HFE.out.then HY4.out)⟩
      | true =>
        obtain ⟨x, ns, hax, hfr, hpx, hor⟩ := free_ok HBD.out (t := t) (by have := HSM.out; omega) hrt
        have HAT := Lib.hid hax
        have HFR := Lib.hid hfr
        have HPX := Lib.hid hpx
        have HOR := Lib.hid hor
        clear hrt hax hfr hpx hor
        obtain ⟨c0, c1, c2, c3⟩ := HCT.out _ HFE.out
        go_wp2_with fail
        refine (Apply_any bs _ g many lb HBD.out.wf.fine t x (by have := HSM.out; omega) HAT.out _ _ HBE.out.reads (Nat.le_refl _) (HIA.out _ HFE.out)).mono ?_
        rintro e w5 ⟨v5, rfl, hi5, hf5⟩
        obtain ⟨x0, x1, x2, x3, rfl⟩ := is_agg hi5
        obtain ⟨kx, sx, nx, aax, mmx, ccx, rfl, rfl, rfl, rfl⟩ := is_cells hi5
        have HXK := Lib.hid (is_kind hi5)
        have HI5 := Lib.hid hi5
        have HF5 := Lib.hid (HFE.out.then hf5)
        have HB5 := Lib.hid (HBE.out.no hf5)
        clear hi5 hf5 HFE HBE c0 c1 c2 c3
        go_upto_region 13 with fail
        obtain ⟨w6, hw6⟩ : ∃ w6, w5.alloc (.cells #[.int .u8 kx, .string sx, .int .i64 nx, .slice aax mmx ccx] 24) = w6 := ⟨_, rfl⟩
        obtain ⟨gx, hgx⟩ : ∃ gx, w5.heap.size = gx := ⟨_, rfl⟩
        have hR6 : w6.heap[gx]? = some (.cells #[.int .u8 kx, .string sx, .int .i64 nx, .slice aax mmx ccx] 24 (0, 0)) := by rw [← hw6, ← hgx]; exact new_block w5 _
        have HR6 := Lib.hid hR6
        have HF6 : Hid (Fr No w0 w6) := Lib.hid (by rw [← hw6]; exact HF5.out.then (Fr.alloc _ _))
        have HB6 : Hid (Bk bs w6 g many lb) := Lib.hid (by rw [← hw6]; exact HB5.out.no (Fr.alloc _ _))
        have HIX : Hid (∀ w', Fr No w6 w' → IsT bs w' x (.agg #[.int .u8 kx, .string sx, .int .i64 nx, .slice aax mmx ccx])) := Lib.hid (fun w' hf => IsT.of0 (HI5.out.no ((Fr.alloc _ _).then (by rw [hw6]; exact hf))))
        rw [hw6, hgx]
        clear hw6 hgx HF5 HB5 HI5
        have p0 : w6.cell? ⟨gx, 0, none⟩ = some (.int .u8 kx) := cell_of hR6 0
        obtain ⟨c0, c1, c2, c3⟩ := HCT.out _ HF6.out
        clear hR6
        by_cases hk : kx = 0
        · have hns : ns = [] := by
            rcases HOR.out with ⟨_, h⟩ | ⟨h, _⟩
            · exact h
            · exact absurd (HXK.out.trans hk) h
          subst hns
          have hkb : ((kx : Int) == 0) = true := by simp [hk]
          clear hk
          go_wp2_with fail
          refine (Free_any bs _ g many lb HBD.out.wf.fine t [] (by have := HSM.out; omega) HFR.out _ _ HB6.out.reads (Nat.le_refl _) (HIA.out _ HF6.out)).mono ?_
          rintro e w7 ⟨v7, rfl, hn7, hf7⟩
          obtain ⟨va, vcap, rfl, _⟩ := hn7.slice
          have HF7 := Lib.hid (HF6.out.then hf7)
          clear hn7 hf7 c0 c1 c2 c3 p0
          go_wp2_with fail
          refine (works_any _).mono ?_
          rintro e w9 ⟨rfl, hf9⟩
          go_wp2_with fail
          go_ret
          exact ⟨rfl, (HF0.out.then HF7.out).then hf9⟩
        · obtain ⟨hkn, hax, hnd, hok⟩ : x.kind ≠ 0 ∧ Applied many lb x x ∧ ns.Nodup ∧ ∀ n ∈ ns, UnkOk many lb x n := by
            rcases HOR.out with ⟨h, _⟩ | h
            · exact absurd (HXK.out.symm.trans h) hk
            · exact h
          have HAX := Lib.hid hax
          have HND := Lib.hid hnd
          have HOKS := Lib.hid hok
          have hkb : ((kx : Int) == 0) = false := by simp only [beq_eq_false_iff_ne, ne_eq]; omega
          have hmk := make12
          clear hk hkn hax hnd hok
          go_wp2_with fail
          refine (Free_any bs _ g many lb HBD.out.wf.fine t ns (by have := HSM.out; omega) HFR.out _ _ HB6.out.reads (Nat.le_refl _) (HIA.out _ HF6.out)).mono ?_
          rintro e w7 ⟨v7, rfl, hn7, hf7⟩
          have HN7 := Lib.hid hn7
          obtain ⟨va, vcap, rfl, _⟩ := hn7.slice
          obtain ⟨nl, hnl⟩ : ∃ nl, ns.length = nl := ⟨_, rfl⟩
          have HNL := Lib.hid hnl
          have hnlm : nl ≤ many := by rw [← hnl]; exact nodup_lt many ns HND.out (fun x hx => ⟨(HOKS.out x hx).lo, (HOKS.out x hx).hi⟩)
          rw [hnl] at HN7 ⊢
          have HF7 := Lib.hid (HF6.out.then hf7)
          have HZ7 : Hid (Fr No w6 w7) := Lib.hid hf7
          clear hn7 hf7 c0 c1 c2 c3 p0 hnl
          obtain ⟨w8, hw8⟩ : ∃ w8, w7.alloc (.cells (madeCells #[.bool false] 12) 4) = w8 := ⟨_, rfl⟩
          obtain ⟨gz, hgz⟩ : ∃ gz, w7.heap.size = gz := ⟨_, rfl⟩
          have HZ8 : Hid (w8.heap[gz]? = some (.cells (madeCells #[.bool false] 12) 4 (0, 0))) := Lib.hid (by rw [← hw8, ← hgz]; exact new_block w7 _)
          have HZA : Hid (Fr No w7 w8) := Lib.hid (by rw [← hw8]; exact Fr.alloc _ _)
          have HF8 : Hid (Fr No w0 w8) := Lib.hid (HF7.out.then HZA.out)
          have hbz : bs ≤ gz ∧ gx < gz ∧ w0.heap.size ≤ gz := by
            have h1 := (HB6.out.no HZ7.out).lt
            have h2 := lt_of_block (HZ7.out.keeps HR6.out no_one)
            have h3 := HF7.out.size
            omega
          have HBW : Hid (∀ w', Fr (Just gz) w8 w' → Bk bs w' g many lb) := Lib.hid (fun w' hf => (HB6.out.no (HZ7.out.then HZA.out)).flag hf HZ8.out hbz.1)
          have HXW : Hid (∀ w', Fr (Just gz) w8 w' → IsT bs w' x (.agg #[.int .u8 kx, .string sx, .int .i64 nx, .slice aax mmx ccx])) := Lib.hid (fun w' hf => (HIX.out w8 (HZ7.out.then HZA.out)).keep (Stays.flag hf HZ8.out hbz.1) (fun _ h => h))
          have HCX : Hid (∀ w', Fr (Just gz) w8 w' → (w'.cell? ⟨gx, 0, none⟩ = some (.int .u8 kx) ∧ w'.cell? ⟨gx, 1, none⟩ = some (.string sx) ∧ w'.cell? ⟨gx, 2, none⟩ = some (.int .i64 nx) ∧ w'.cell? ⟨gx, 3, none⟩ = some (.slice aax mmx ccx))) := Lib.hid (fun w' hf => by
            have h := hf.keeps ((HZ7.out.then HZA.out).keeps HR6.out no_one) (fun e => by rw [show gx = gz from e] at hbz; omega)
            exact ⟨cell_of h 0, cell_of h 1, cell_of h 2, cell_of h 3⟩)
          have HNW : Hid (∀ w', Fr (Just gz) w8 w' → ∀ (j : Nat) (y : Int), ns[j]? = some y → ∃ b, va = some ⟨b, 0, none⟩ ∧ w'.cell? ⟨b, j, none⟩ = some (.int .i64 y)) := Lib.hid (fun w' hf => by
            obtain ⟨a2, c2, e2, h2⟩ := ((HN7.out.no HZA.out).flag hf HZ8.out).slice
            simp only [Value.slice.injEq] at e2
            rw [e2.1]
            exact h2)
          go_wp2_with fail
          (try rw [hw8])
          (try rw [hgz])
          clear hw8 hgz HF7 HZ7 HN7 HZA HIX HB6 HF6
          go_loopw [13] (fun i wr => ∃ q : Nat, q ≤ nl ∧ i = .int .i64 q ∧ Hid (Fr (Just gz) w8 wr) ∧ Hid (Seen wr gz (ns.take q))) (fun i _ => nl - (intOf i).toNat)
          case atStart => exact ⟨0, Nat.zero_le _, rfl, Lib.hid (Fr.refl _ _), Lib.hid (seen_nil HZ8.out)⟩
          case round =>
            obtain ⟨q, hq, rfl, HZR, HSE⟩ := hrel
            by_cases hqn : q = nl
            · subst hqn
              go_upto_region 23 with fail
              refine region_e (fun w' => (w'.cell? ⟨gx, 0, none⟩ = some (.int .u8 kx) ∧ w'.cell? ⟨gx, 1, none⟩ = some (.string sx) ∧ w'.cell? ⟨gx, 2, none⟩ = some (.int .i64 nx) ∧ w'.cell? ⟨gx, 3, none⟩ = some (.slice aax mmx ccx))) [] (by kernel_rfl) ?_ (fun hHeld => ?_)
              · exact HCX.out _ (HZR.out.then (Fr.drew _))
              refine take_op 0 (some 157) (Op.move ( .tmp 7)) 27 ?_ (by kernel_rfl) (by kernel_rfl) (by kernel_rfl) (fun _ _ _ h => h) ?_ (by assumption) ?_
              rotate_left
              · intro w hSw; (try dsimp only at hSw); go_simp; (try (with_reducible rfl))
              try simp only [Act.put, List.setIfInBounds_toArray, List.set_cons_zero, List.set_cons_succ]
              refine take_op 1 (some 158) (Op.load 24 ( .tmp 10)) 24 ?_ (by kernel_rfl) (by kernel_rfl) (by kernel_rfl) (fun _ _ _ h => h) ?_ (by assumption) ?_
              rotate_left
              · intro w hSw; (try dsimp only at hSw); go_simp; (try (with_reducible rfl))
              try simp only [Act.put, List.setIfInBounds_toArray, List.set_cons_zero, List.set_cons_succ]
              refine take_op 3 (some 160) (Op.load 24 ( .tmp 10)) 24 ?_ (by kernel_rfl) (by kernel_rfl) (by kernel_rfl) (fun _ _ _ h => h) ?_ (by assumption) ?_
              rotate_left
              · intro w hSw; (try dsimp only at hSw); go_simp; (try (with_reducible rfl))
              try simp only [Act.put, List.setIfInBounds_toArray, List.set_cons_zero, List.set_cons_succ]
              refine ready_e (rs := [2]) (by kernel_rfl) (by simp) ?_
              refine do_mid (o := _) rfl (fun K hK => ?_) none_e -- slot 159 F14
              go_simp
              go_at_call 14
              refine (Apply_any bs _ g many lb HBD.out.wf.fine x x HPX.out HAX.out _ _ (HBW.out _ (HZR.out.then (Fr.drew _))).reads (Nat.le_refl _) (HXW.out _ (HZR.out.then (Fr.drew _)))).mono ?_
              rintro e' y1 ⟨v1, rfl, hi1, hf1⟩
              obtain ⟨x0, x1, x2, x3, rfl⟩ := is_agg hi1
              obtain ⟨kk5, ss5, nn5, ab5, mb5, cb5, rfl, rfl, rfl, rfl⟩ := is_cells hi1
              have HI5 := Lib.hid hi1
              have HY1 : Hid (Fr No wr y1) := Lib.hid ((Fr.drew wr).then hf1)
              clear hi1 hf1
              refine hK.out _ _ ?_ (fun hHeld => ?_)
              · exact HCX.out _ (HZR.out.then HY1.out)
              clear hK K
              try dsimp only
              try simp only [Act.put, List.setIfInBounds_toArray, List.set_cons_zero, List.set_cons_succ]
              refine ready_e (rs := [4]) (by kernel_rfl) (by simp) ?_
              refine do_mid (o := _) rfl (fun K hK => ?_) none_e -- slot 161 F13
              go_simp
              go_at_call 13
              refine (rsame_ok x x HPX.out HPX.out _ _ _ _ _ _ _ HI5.out (HXW.out _ (HZR.out.then HY1.out))).mono ?_
              rintro e' y2 ⟨rfl, hf2⟩
              have HY2 : Hid (Fr No wr y2) := Lib.hid (HY1.out.then hf2)
              have HSS := Lib.hid (same_self x)
              rw [HSS.out]
              clear hf2
              refine hK.out _ _ ?_ (fun hHeld => ?_)
              · exact HCX.out _ (HZR.out.then HY2.out)
              clear hK K
              try dsimp only
              try simp only [Act.put, List.setIfInBounds_toArray, List.set_cons_zero, List.set_cons_succ]
              refine take_op 5 (some 162) (Op.move ( .tmp 161)) 4 ?_ (by kernel_rfl) (by kernel_rfl) (by kernel_rfl) (fun _ _ _ h => h) ?_ (by assumption) ?_
              rotate_left
              · intro w hSw; (try dsimp only at hSw); go_simp; (try (with_reducible rfl))
              try simp only [Act.put, List.setIfInBounds_toArray, List.set_cons_zero, List.set_cons_succ]
              refine ready_e (rs := [6]) (by kernel_rfl) (by simp) ?_
              refine do_mid (o := _) rfl (fun K hK => ?_) none_e -- slot 163 F9
              go_simp
              go_at_call 9
              refine (works_any _).mono ?_
              rintro e' y3 ⟨rfl, hf3⟩
              have HY3 : Hid (Fr No wr y3) := Lib.hid (HY2.out.then hf3)
              clear hf3
              refine hK.out _ _ ?_ (fun hHeld => ?_)
              · exact HCX.out _ (HZR.out.then HY3.out)
              clear hK K
              try dsimp only
              try simp only [Act.put, List.setIfInBounds_toArray, List.set_cons_zero, List.set_cons_succ]
              refine take_op 7 (some 164) (Op.pick ( .tmp 162) ( .tmp 163) ( .const (Value.bool false))) 4 ?_ (by kernel_rfl) (by kernel_rfl) (by kernel_rfl) (fun _ _ _ h => h) ?_ (by assumption) ?_
              rotate_left
              · intro w hSw; (try dsimp only at hSw); go_simp; (try (with_reducible rfl))
              try simp only [Act.put, List.setIfInBounds_toArray, List.set_cons_zero, List.set_cons_succ]
              refine take_op 8 (some 6) (Op.assign ( .tmp 164)) 4 ?_ (by kernel_rfl) (by kernel_rfl) (by kernel_rfl) (fun _ _ _ h => h) ?_ (by assumption) ?_
              rotate_left
              · intro w hSw; (try dsimp only at hSw); go_simp; (try (with_reducible rfl))
              try simp only [Act.put, List.setIfInBounds_toArray, List.set_cons_zero, List.set_cons_succ]
              refine done_e (by kernel_rfl) ?_ _
              go_wp2_with fail
              go_ret
              exact ⟨rfl, HF0.out.then (HF8.out.own (HZR.out.then HY3.out) (fun i e => by rw [show i = gz from e]; exact hbz.2.2))⟩
            · obtain ⟨y, hy⟩ : ∃ y, ns[q]? = some y := ⟨_, List.getElem?_eq_getElem (by rw [HNL.out]; omega)⟩
              have hok := HOKS.out y (List.mem_of_getElem? hy)
              obtain ⟨xn, rfl⟩ : ∃ xn : Nat, y = xn := ⟨y.toNat, by have := hok.lo; omega⟩
              have hxm : xn < many := by have := hok.hi; omega
              have HOK := Lib.hid hok
              have HOC := Lib.hid hok.stands
              obtain ⟨bn, rfl, _⟩ := HNW.out wr HZR.out q xn hy
              have HYQ := Lib.hid hy
              have HNOT : Hid ((xn : Int) ∉ ns.take q) := Lib.hid (fun hmem => by
                obtain ⟨j, hj⟩ := List.getElem?_of_mem hmem
                rw [List.getElem?_take] at hj
                split at hj
                · rename_i hlt
                  have := ((List.getElem?_inj (i := j) (j := q) (List.getElem?_eq_some_iff.1 hj).1 HND.out).1 (hj.trans hy.symm))
                  omega
                · cases hj)
              have HRR : Hid (∀ w', Fr No wr w' → w'.cell? ⟨bn, q, none⟩ = some (.int .i64 xn) ∧ w'.cell? ⟨gz, xn, none⟩ = some (.bool false) ∧ (w'.cell? ⟨gx, 0, none⟩ = some (.int .u8 kx) ∧ w'.cell? ⟨gx, 1, none⟩ = some (.string sx) ∧ w'.cell? ⟨gx, 2, none⟩ = some (.int .i64 nx) ∧ w'.cell? ⟨gx, 3, none⟩ = some (.slice aax mmx ccx))) := Lib.hid (fun w' hf => by
                obtain ⟨b2, e2, h2⟩ := HNW.out w' (HZR.out.then hf) q xn HYQ.out
                simp only [Option.some.injEq, Addr.mk.injEq, and_true] at e2
                obtain ⟨cs, h3, h4⟩ := HSE.out
                refine ⟨by rw [e2]; exact h2, ?_, HCX.out w' (HZR.out.then hf)⟩
                rw [cell_of (hf.keeps h3 no_one), h4 xn (by omega)]
                simp [HNOT.out])
              have hltq : (q : Int) < (nl : Int) := by omega
              have hwr : IntKind.i64.wrap (n : Int) = n := by rw [IntKind.wrap_i64]; omega
              have hd1 : decide ((xn : Int) < 0) = false := decide_eq_false (by omega)
              have hd2 : decide ((IntKind.i64.wrap (n : Int)).tmod 12 ≤ (xn : Int)) = false := decide_eq_false (by rw [hwr, hrem]; omega)
              have hd3 : decide ((many : Int) ≤ (xn : Int)) = false := decide_eq_false (by omega)
              have hd4 : decide (many ≤ xn) = false := decide_eq_false (by omega)
              have hx12 : (xn : Int) < 12 := by omega
              clear hy hok
              go_upto_region 20 with fail
              refine region_e (fun w' => w'.cell? ⟨bn, q, none⟩ = some (.int .i64 xn) ∧ w'.cell? ⟨gz, xn, none⟩ = some (.bool false) ∧ (w'.cell? ⟨gx, 0, none⟩ = some (.int .u8 kx) ∧ w'.cell? ⟨gx, 1, none⟩ = some (.string sx) ∧ w'.cell? ⟨gx, 2, none⟩ = some (.int .i64 nx) ∧ w'.cell? ⟨gx, 3, none⟩ = some (.slice aax mmx ccx))) [] (by kernel_rfl) ?_ (fun hHeld => ?_)
              · exact HRR.out _ (Fr.drew _)
              refine take_op 0 (some 102) (Op.move ( .tmp 11)) 42 ?_ (by kernel_rfl) (by kernel_rfl) (by kernel_rfl) (fun _ _ _ h => h) ?_ (by assumption) ?_
              rotate_left
              · intro w hSw; (try dsimp only at hSw); go_simp; (try (with_reducible rfl))
              try simp only [Act.put, List.setIfInBounds_toArray, List.set_cons_zero, List.set_cons_succ]
              refine take_op 1 (some 103) (Op.move ( .tmp 13)) 3 ?_ (by kernel_rfl) (by kernel_rfl) (by kernel_rfl) (fun _ _ _ h => h) ?_ (by assumption) ?_
              rotate_left
              · intro w hSw; (try dsimp only at hSw); go_simp; (try (with_reducible rfl))
              try simp only [Act.put, List.setIfInBounds_toArray, List.set_cons_zero, List.set_cons_succ]
              refine take_op 2 (some 104) (Op.indexAddr 42 ( .tmp 102) ( .tmp 103)) 0 ?_ (by kernel_rfl) (by kernel_rfl) (by kernel_rfl) (fun _ _ _ h => h) ?_ (by assumption) ?_
              rotate_left
              · intro w hSw; (try dsimp only at hSw); go_simp; (try (with_reducible rfl))
              try simp only [Act.put, List.setIfInBounds_toArray, List.set_cons_zero, List.set_cons_succ]
              refine take_op 3 (some 105) (Op.load 3 ( .tmp 104)) 3 ?_ (by kernel_rfl) (by kernel_rfl) (by kernel_rfl) (fun _ _ _ h => h) ?_ (by assumption) ?_
              rotate_left
              · intro w hSw; (try dsimp only at hSw); go_simp; (try (with_reducible rfl))
              try simp only [Act.put, List.setIfInBounds_toArray, List.set_cons_zero, List.set_cons_succ]
              refine take_op 4 (some 106) (Op.binOp BinOp.lss 3 ( .tmp 105) ( .const (.int .i64 0)) 3) 4 ?_ (by kernel_rfl) (by kernel_rfl) (by kernel_rfl) (fun _ _ _ h => h) ?_ (by assumption) ?_
              rotate_left
              · intro w hSw; (try dsimp only at hSw); go_simp; (try (with_reducible rfl))
              try simp only [Act.put, List.setIfInBounds_toArray, List.set_cons_zero, List.set_cons_succ]
              try rw [hd1]
              refine take_op 5 (some 107) (Op.move ( .tmp 106)) 4 ?_ (by kernel_rfl) (by kernel_rfl) (by kernel_rfl) (fun _ _ _ h => h) ?_ (by assumption) ?_
              rotate_left
              · intro w hSw; (try dsimp only at hSw); go_simp; (try (with_reducible rfl))
              try simp only [Act.put, List.setIfInBounds_toArray, List.set_cons_zero, List.set_cons_succ]
              refine take_op 6 (some 108) (Op.move ( .tmp 11)) 42 ?_ (by kernel_rfl) (by kernel_rfl) (by kernel_rfl) (fun _ _ _ h => h) ?_ (by assumption) ?_
              rotate_left
              · intro w hSw; (try dsimp only at hSw); go_simp; (try (with_reducible rfl))
              try simp only [Act.put, List.setIfInBounds_toArray, List.set_cons_zero, List.set_cons_succ]
              refine take_op 7 (some 109) (Op.move ( .tmp 13)) 3 ?_ (by kernel_rfl) (by kernel_rfl) (by kernel_rfl) (fun _ _ _ h => h) ?_ (by assumption) ?_
              rotate_left
              · intro w hSw; (try dsimp only at hSw); go_simp; (try (with_reducible rfl))
              try simp only [Act.put, List.setIfInBounds_toArray, List.set_cons_zero, List.set_cons_succ]
              refine take_op 8 (some 110) (Op.indexAddr 42 ( .tmp 108) ( .tmp 109)) 0 ?_ (by kernel_rfl) (by kernel_rfl) (by kernel_rfl) (fun _ _ _ h => h) ?_ (by assumption) ?_
              rotate_left
              · intro w hSw; (try dsimp only at hSw); go_simp; (try (with_reducible rfl))
              try simp only [Act.put, List.setIfInBounds_toArray, List.set_cons_zero, List.set_cons_succ]
              refine take_op 9 (some 111) (Op.load 3 ( .tmp 110)) 3 ?_ (by kernel_rfl) (by kernel_rfl) (by kernel_rfl) (fun _ _ _ h => h) ?_ (by assumption) ?_
              rotate_left
              · intro w hSw; (try dsimp only at hSw); go_simp; (try (with_reducible rfl))
              try simp only [Act.put, List.setIfInBounds_toArray, List.set_cons_zero, List.set_cons_succ]
              refine take_op 10 (some 112) (Op.move ( .tmp 0)) 5 ?_ (by kernel_rfl) (by kernel_rfl) (by kernel_rfl) (fun _ _ _ h => h) ?_ (by assumption) ?_
              rotate_left
              · intro w hSw; (try dsimp only at hSw); go_simp; (try (with_reducible rfl))
              try simp only [Act.put, List.setIfInBounds_toArray, List.set_cons_zero, List.set_cons_succ]
              refine take_op 11 (some 113) (Op.convert 5 3 ( .tmp 112)) 3 ?_ (by kernel_rfl) (by kernel_rfl) (by kernel_rfl) (fun _ _ _ h => h) ?_ (by assumption) ?_
              rotate_left
              · intro w hSw; (try dsimp only at hSw); go_simp; (try (with_reducible rfl))
              try simp only [Act.put, List.setIfInBounds_toArray, List.set_cons_zero, List.set_cons_succ]
              refine take_op 12 (some 114) (Op.binOp BinOp.rem 3 ( .tmp 113) ( .const (.int .i64 12)) 3) 3 ?_ (by kernel_rfl) (by kernel_rfl) (by kernel_rfl) (fun _ _ _ h => h) ?_ (by assumption) ?_
              rotate_left
              · intro w hSw; (try dsimp only at hSw); go_simp; (try (with_reducible rfl))
              try simp only [Act.put, List.setIfInBounds_toArray, List.set_cons_zero, List.set_cons_succ]
              refine take_op 13 (some 115) (Op.binOp BinOp.geq 3 ( .tmp 111) ( .tmp 114) 3) 4 ?_ (by kernel_rfl) (by kernel_rfl) (by kernel_rfl) (fun _ _ _ h => h) ?_ (by assumption) ?_
              rotate_left
              · intro w hSw; (try dsimp only at hSw); go_simp; (try (with_reducible rfl))
              try simp only [Act.put, List.setIfInBounds_toArray, List.set_cons_zero, List.set_cons_succ]
              try rw [hd2]
              try rw [hd3]
              try rw [hd4]
              refine take_op 14 (some 116) (Op.pick ( .tmp 107) ( .const (Value.bool true)) ( .tmp 115)) 4 ?_ (by kernel_rfl) (by kernel_rfl) (by kernel_rfl) (fun _ _ _ h => h) ?_ (by assumption) ?_
              rotate_left
              · intro w hSw; (try dsimp only at hSw); go_simp; (try (with_reducible rfl))
              try simp only [Act.put, List.setIfInBounds_toArray, List.set_cons_zero, List.set_cons_succ]
              refine take_op 15 (some 117) (Op.move ( .tmp 116)) 4 ?_ (by kernel_rfl) (by kernel_rfl) (by kernel_rfl) (fun _ _ _ h => h) ?_ (by assumption) ?_
              rotate_left
              · intro w hSw; (try dsimp only at hSw); go_simp; (try (with_reducible rfl))
              try simp only [Act.put, List.setIfInBounds_toArray, List.set_cons_zero, List.set_cons_succ]
              refine take_op 16 (some 118) (Op.move ( .tmp 12)) 44 ?_ (by kernel_rfl) (by kernel_rfl) (by kernel_rfl) (fun _ _ _ h => h) ?_ (by assumption) ?_
              rotate_left
              · intro w hSw; (try dsimp only at hSw); go_simp; (try (with_reducible rfl))
              try simp only [Act.put, List.setIfInBounds_toArray, List.set_cons_zero, List.set_cons_succ]
              refine take_op 17 (some 119) (Op.move ( .tmp 11)) 42 ?_ (by kernel_rfl) (by kernel_rfl) (by kernel_rfl) (fun _ _ _ h => h) ?_ (by assumption) ?_
              rotate_left
              · intro w hSw; (try dsimp only at hSw); go_simp; (try (with_reducible rfl))
              try simp only [Act.put, List.setIfInBounds_toArray, List.set_cons_zero, List.set_cons_succ]
              refine take_op 18 (some 120) (Op.move ( .tmp 13)) 3 ?_ (by kernel_rfl) (by kernel_rfl) (by kernel_rfl) (fun _ _ _ h => h) ?_ (by assumption) ?_
              rotate_left
              · intro w hSw; (try dsimp only at hSw); go_simp; (try (with_reducible rfl))
              try simp only [Act.put, List.setIfInBounds_toArray, List.set_cons_zero, List.set_cons_succ]
              refine take_op 19 (some 121) (Op.indexAddr 42 ( .tmp 119) ( .tmp 120)) 0 ?_ (by kernel_rfl) (by kernel_rfl) (by kernel_rfl) (fun _ _ _ h => h) ?_ (by assumption) ?_
              rotate_left
              · intro w hSw; (try dsimp only at hSw); go_simp; (try (with_reducible rfl))
              try simp only [Act.put, List.setIfInBounds_toArray, List.set_cons_zero, List.set_cons_succ]
              refine take_op 20 (some 122) (Op.load 3 ( .tmp 121)) 3 ?_ (by kernel_rfl) (by kernel_rfl) (by kernel_rfl) (fun _ _ _ h => h) ?_ (by assumption) ?_
              rotate_left
              · intro w hSw; (try dsimp only at hSw); go_simp; (try (with_reducible rfl))
              try simp only [Act.put, List.setIfInBounds_toArray, List.set_cons_zero, List.set_cons_succ]
              refine take_op 21 (some 123) (Op.indexAddr 44 ( .tmp 118) ( .tmp 122)) 0 ?_ (by kernel_rfl) (by kernel_rfl) (by kernel_rfl) (fun _ _ _ h => h) ?_ (by assumption) ?_
              rotate_left
              · intro w hSw; (try dsimp only at hSw); go_simp; (try (with_reducible rfl))
              try simp only [Act.put, List.setIfInBounds_toArray, List.set_cons_zero, List.set_cons_succ]
              refine take_op 22 (some 124) (Op.load 4 ( .tmp 123)) 4 ?_ (by kernel_rfl) (by kernel_rfl) (by kernel_rfl) (fun _ _ _ h => h) ?_ (by assumption) ?_
              rotate_left
              · intro w hSw; (try dsimp only at hSw); go_simp; (try (with_reducible rfl))
              try simp only [Act.put, List.setIfInBounds_toArray, List.set_cons_zero, List.set_cons_succ]
              refine take_op 23 (some 125) (Op.pick ( .tmp 117) ( .const (Value.bool true)) ( .tmp 124)) 4 ?_ (by kernel_rfl) (by kernel_rfl) (by kernel_rfl) (fun _ _ _ h => h) ?_ (by assumption) ?_
              rotate_left
              · intro w hSw; (try dsimp only at hSw); go_simp; (try (with_reducible rfl))
              try simp only [Act.put, List.setIfInBounds_toArray, List.set_cons_zero, List.set_cons_succ]
              refine take_op 24 (some 126) (Op.move ( .tmp 125)) 4 ?_ (by kernel_rfl) (by kernel_rfl) (by kernel_rfl) (fun _ _ _ h => h) ?_ (by assumption) ?_
              rotate_left
              · intro w hSw; (try dsimp only at hSw); go_simp; (try (with_reducible rfl))
              try simp only [Act.put, List.setIfInBounds_toArray, List.set_cons_zero, List.set_cons_succ]
              refine take_op 25 (some 127) (Op.load 24 ( .tmp 10)) 24 ?_ (by kernel_rfl) (by kernel_rfl) (by kernel_rfl) (fun _ _ _ h => h) ?_ (by assumption) ?_
              rotate_left
              · intro w hSw; (try dsimp only at hSw); go_simp; (try (with_reducible rfl))
              try simp only [Act.put, List.setIfInBounds_toArray, List.set_cons_zero, List.set_cons_succ]
              refine take_op 26 (some 128) (Op.move ( .tmp 11)) 42 ?_ (by kernel_rfl) (by kernel_rfl) (by kernel_rfl) (fun _ _ _ h => h) ?_ (by assumption) ?_
              rotate_left
              · intro w hSw; (try dsimp only at hSw); go_simp; (try (with_reducible rfl))
              try simp only [Act.put, List.setIfInBounds_toArray, List.set_cons_zero, List.set_cons_succ]
              refine take_op 27 (some 129) (Op.move ( .tmp 13)) 3 ?_ (by kernel_rfl) (by kernel_rfl) (by kernel_rfl) (fun _ _ _ h => h) ?_ (by assumption) ?_
              rotate_left
              · intro w hSw; (try dsimp only at hSw); go_simp; (try (with_reducible rfl))
              try simp only [Act.put, List.setIfInBounds_toArray, List.set_cons_zero, List.set_cons_succ]
              refine take_op 28 (some 130) (Op.indexAddr 42 ( .tmp 128) ( .tmp 129)) 0 ?_ (by kernel_rfl) (by kernel_rfl) (by kernel_rfl) (fun _ _ _ h => h) ?_ (by assumption) ?_
              rotate_left
              · intro w hSw; (try dsimp only at hSw); go_simp; (try (with_reducible rfl))
              try simp only [Act.put, List.setIfInBounds_toArray, List.set_cons_zero, List.set_cons_succ]
              refine take_op 29 (some 131) (Op.load 3 ( .tmp 130)) 3 ?_ (by kernel_rfl) (by kernel_rfl) (by kernel_rfl) (fun _ _ _ h => h) ?_ (by assumption) ?_
              rotate_left
              · intro w hSw; (try dsimp only at hSw); go_simp; (try (with_reducible rfl))
              try simp only [Act.put, List.setIfInBounds_toArray, List.set_cons_zero, List.set_cons_succ]
              refine ready_e (rs := [30]) (by kernel_rfl) (by simp) ?_
              refine do_mid (o := _) rfl (fun K hK => ?_) none_e -- slot 132 F19
              go_simp
              go_at_call 19
              refine (stands_any xn (parts x) x (Nat.le_refl _) HPX.out bs _ _ _ (HXW.out _ (HZR.out.then (Fr.drew _)))).mono ?_
              rintro e' y1 ⟨rfl, hf1⟩
              have HY1 : Hid (Fr No wr y1) := Lib.hid ((Fr.drew wr).then hf1)
              rw [HOC.out]
              clear hf1
              refine hK.out _ _ ?_ (fun hHeld => ?_)
              · exact HRR.out _ HY1.out
              clear hK K
              try dsimp only
              try simp only [Act.put, List.setIfInBounds_toArray, List.set_cons_zero, List.set_cons_succ]
              refine take_op 31 (some 133) (Op.unOp UnOp.not 4 ( .tmp 132)) 4 ?_ (by kernel_rfl) (by kernel_rfl) (by kernel_rfl) (fun _ _ _ h => h) ?_ (by assumption) ?_
              rotate_left
              · intro w hSw; (try dsimp only at hSw); go_simp; (try (with_reducible rfl))
              try simp only [Act.put, List.setIfInBounds_toArray, List.set_cons_zero, List.set_cons_succ]
              refine take_op 32 (some 134) (Op.pick ( .tmp 126) ( .const (Value.bool true)) ( .tmp 133)) 4 ?_ (by kernel_rfl) (by kernel_rfl) (by kernel_rfl) (fun _ _ _ h => h) ?_ (by assumption) ?_
              rotate_left
              · intro w hSw; (try dsimp only at hSw); go_simp; (try (with_reducible rfl))
              try simp only [Act.put, List.setIfInBounds_toArray, List.set_cons_zero, List.set_cons_succ]
              refine take_op 33 (some 135) (Op.move ( .tmp 134)) 4 ?_ (by kernel_rfl) (by kernel_rfl) (by kernel_rfl) (fun _ _ _ h => h) ?_ (by assumption) ?_
              rotate_left
              · intro w hSw; (try dsimp only at hSw); go_simp; (try (with_reducible rfl))
              try simp only [Act.put, List.setIfInBounds_toArray, List.set_cons_zero, List.set_cons_succ]
              refine take_op 34 (some 136) (Op.move ( .tmp 7)) 27 ?_ (by kernel_rfl) (by kernel_rfl) (by kernel_rfl) (fun _ _ _ h => h) ?_ (by assumption) ?_
              rotate_left
              · intro w hSw; (try dsimp only at hSw); go_simp; (try (with_reducible rfl))
              try simp only [Act.put, List.setIfInBounds_toArray, List.set_cons_zero, List.set_cons_succ]
              refine take_op 35 (some 137) (Op.move ( .tmp 11)) 42 ?_ (by kernel_rfl) (by kernel_rfl) (by kernel_rfl) (fun _ _ _ h => h) ?_ (by assumption) ?_
              rotate_left
              · intro w hSw; (try dsimp only at hSw); go_simp; (try (with_reducible rfl))
              try simp only [Act.put, List.setIfInBounds_toArray, List.set_cons_zero, List.set_cons_succ]
              refine take_op 36 (some 138) (Op.move ( .tmp 13)) 3 ?_ (by kernel_rfl) (by kernel_rfl) (by kernel_rfl) (fun _ _ _ h => h) ?_ (by assumption) ?_
              rotate_left
              · intro w hSw; (try dsimp only at hSw); go_simp; (try (with_reducible rfl))
              try simp only [Act.put, List.setIfInBounds_toArray, List.set_cons_zero, List.set_cons_succ]
              refine take_op 37 (some 139) (Op.indexAddr 42 ( .tmp 137) ( .tmp 138)) 0 ?_ (by kernel_rfl) (by kernel_rfl) (by kernel_rfl) (fun _ _ _ h => h) ?_ (by assumption) ?_
              rotate_left
              · intro w hSw; (try dsimp only at hSw); go_simp; (try (with_reducible rfl))
              try simp only [Act.put, List.setIfInBounds_toArray, List.set_cons_zero, List.set_cons_succ]
              refine take_op 38 (some 140) (Op.load 3 ( .tmp 139)) 3 ?_ (by kernel_rfl) (by kernel_rfl) (by kernel_rfl) (fun _ _ _ h => h) ?_ (by assumption) ?_
              rotate_left
              · intro w hSw; (try dsimp only at hSw); go_simp; (try (with_reducible rfl))
              try simp only [Act.put, List.setIfInBounds_toArray, List.set_cons_zero, List.set_cons_succ]
              refine take_op 41 (some 143) (Op.move ( .tmp 11)) 42 ?_ (by kernel_rfl) (by kernel_rfl) (by kernel_rfl) (fun _ _ _ h => h) ?_ (by assumption) ?_
              rotate_left
              · intro w hSw; (try dsimp only at hSw); go_simp; (try (with_reducible rfl))
              try simp only [Act.put, List.setIfInBounds_toArray, List.set_cons_zero, List.set_cons_succ]
              refine take_op 42 (some 144) (Op.move ( .tmp 13)) 3 ?_ (by kernel_rfl) (by kernel_rfl) (by kernel_rfl) (fun _ _ _ h => h) ?_ (by assumption) ?_
              rotate_left
              · intro w hSw; (try dsimp only at hSw); go_simp; (try (with_reducible rfl))
              try simp only [Act.put, List.setIfInBounds_toArray, List.set_cons_zero, List.set_cons_succ]
              refine take_op 43 (some 145) (Op.indexAddr 42 ( .tmp 143) ( .tmp 144)) 0 ?_ (by kernel_rfl) (by kernel_rfl) (by kernel_rfl) (fun _ _ _ h => h) ?_ (by assumption) ?_
              rotate_left
              · intro w hSw; (try dsimp only at hSw); go_simp; (try (with_reducible rfl))
              try simp only [Act.put, List.setIfInBounds_toArray, List.set_cons_zero, List.set_cons_succ]
              refine take_op 44 (some 146) (Op.load 3 ( .tmp 145)) 3 ?_ (by kernel_rfl) (by kernel_rfl) (by kernel_rfl) (fun _ _ _ h => h) ?_ (by assumption) ?_
              rotate_left
              · intro w hSw; (try dsimp only at hSw); go_simp; (try (with_reducible rfl))
              try simp only [Act.put, List.setIfInBounds_toArray, List.set_cons_zero, List.set_cons_succ]
              refine ready_e (rs := [39]) (by kernel_rfl) (by simp) ?_
              refine do_mid (o := _) rfl (fun K hK => ?_) none_e -- slot 141 F16
              go_simp
              go_at_call 16
              refine (var_any xn _).mono ?_
              rintro e' y2 ⟨rfl, hf2⟩
              have HY2 : Hid (Fr No wr y2) := Lib.hid (HY1.out.then hf2)
              clear hf2
              refine hK.out _ _ ?_ (fun hHeld => ?_)
              · exact HRR.out _ HY2.out
              clear hK K
              try dsimp only
              try simp only [Act.put, List.setIfInBounds_toArray, List.set_cons_zero, List.set_cons_succ]
              refine ready_e (rs := [40]) (by kernel_rfl) (by simp) ?_
              refine do_mid (o := _) rfl (fun K hK => ?_) none_e -- slot 142 F14
              go_simp
              go_at_call 14
              refine (Apply_any bs _ g many lb HBD.out.wf.fine (varT xn) (varT xn) (by simp [varT, parts, partsL]) HOK.out.self _ _ (HBW.out _ (HZR.out.then HY2.out)).reads (Nat.le_refl _) (is_var _ xn)).mono ?_
              rintro e' y3 ⟨v3, rfl, hi3, hf3⟩
              obtain ⟨x0, x1, x2, x3, rfl⟩ := is_agg hi3
              obtain ⟨kk7, ss7, nn7, ab7, mb7, cb7, rfl, rfl, rfl, rfl⟩ := is_cells hi3
              have HI7 := Lib.hid hi3
              have HY3 : Hid (Fr No wr y3) := Lib.hid (HY2.out.then hf3)
              clear hi3 hf3
              refine hK.out _ _ ?_ (fun hHeld => ?_)
              · exact HRR.out _ HY3.out
              clear hK K
              try dsimp only
              try simp only [Act.put, List.setIfInBounds_toArray, List.set_cons_zero, List.set_cons_succ]
              refine ready_e (rs := [45]) (by kernel_rfl) (by simp) ?_
              refine do_mid (o := _) rfl (fun K hK => ?_) none_e -- slot 147 F16
              go_simp
              go_at_call 16
              refine (var_any xn _).mono ?_
              rintro e' y4 ⟨rfl, hf4⟩
              have HI8 := Lib.hid (HI7.out.no hf4)
              have HY4 : Hid (Fr No wr y4) := Lib.hid (HY3.out.then hf4)
              clear hf4
              refine hK.out _ _ ?_ (fun hHeld => ?_)
              · exact HRR.out _ HY4.out
              clear hK K
              try dsimp only
              try simp only [Act.put, List.setIfInBounds_toArray, List.set_cons_zero, List.set_cons_succ]
              refine ready_e (rs := [46]) (by kernel_rfl) (by simp) ?_
              refine do_mid (o := _) rfl (fun K hK => ?_) none_e -- slot 148 F13
              go_simp
              go_at_call 13
              refine (rsame_ok (varT xn) (varT xn) (by simp [varT, parts, partsL]) (by simp [varT, parts, partsL]) _ _ 0 (fun _ => True) _ _ _ HI8.out (is_var (base := 0) _ xn)).mono ?_
              rintro e' y5 ⟨rfl, hf5⟩
              have HY5 : Hid (Fr No wr y5) := Lib.hid (HY4.out.then hf5)
              have HSS := Lib.hid (same_self (varT xn))
              rw [HSS.out]
              clear hf5
              refine hK.out _ _ ?_ (fun hHeld => ?_)
              · exact HRR.out _ HY5.out
              clear hK K
              try dsimp only
              try simp only [Act.put, List.setIfInBounds_toArray, List.set_cons_zero, List.set_cons_succ]
              refine take_op 47 (some 149) (Op.unOp UnOp.not 4 ( .tmp 148)) 4 ?_ (by kernel_rfl) (by kernel_rfl) (by kernel_rfl) (fun _ _ _ h => h) ?_ (by assumption) ?_
              rotate_left
              · intro w hSw; (try dsimp only at hSw); go_simp; (try (with_reducible rfl))
              try simp only [Act.put, List.setIfInBounds_toArray, List.set_cons_zero, List.set_cons_succ]
              refine take_op 48 (some 150) (Op.pick ( .tmp 135) ( .const (Value.bool true)) ( .tmp 149)) 4 ?_ (by kernel_rfl) (by kernel_rfl) (by kernel_rfl) (fun _ _ _ h => h) ?_ (by assumption) ?_
              rotate_left
              · intro w hSw; (try dsimp only at hSw); go_simp; (try (with_reducible rfl))
              try simp only [Act.put, List.setIfInBounds_toArray, List.set_cons_zero, List.set_cons_succ]
              refine done_e (by kernel_rfl) ?_ _
              have HSY : Hid (Seen y5 gz (ns.take q)) := Lib.hid (by
                obtain ⟨cs, h3, h4⟩ := HSE.out
                exact ⟨cs, HY5.out.keeps h3 no_one, h4⟩)
              have HSZ := Lib.hid (seen_set HSY.out (x := xn) (by omega))
              have HFZ : Hid (Fr (Just gz) w8 (y5.setCell ⟨gz, xn, none⟩ (.bool true))) := Lib.hid ((HZR.out.then HY5.out).just (Fr.setCell y5 ⟨gz, xn, none⟩ (.bool true)))
              obtain ⟨k0, k1, k2⟩ := HRR.out _ HY5.out
              have f0 : y5.frozen? ⟨gz, xn, none⟩ = false := by
                obtain ⟨cs, h3, h4⟩ := HSY.out
                exact free_of h3 xn
              clear k2
              go_wp2_with fail
              exact ⟨⟨q + 1, by omega, by go_num, HFZ, Lib.hid (by rw [take_snocA HYQ.out]; exact HSZ.out)⟩, by simp [intOf]; omega⟩
    · obtain ⟨p, hp⟩ : ∃ p, l[q]? = some p := ⟨_, List.getElem?_eq_getElem (by rw [HM.out]; omega)⟩
      obtain ⟨b, off, y0, y1, y2, y3, z0, z1, z2, z3, rfl, ⟨e0, e1, e2, e3⟩, ⟨g0, g1, g2, g3⟩, hi1, hi2⟩ := HROW.out w (Fr.refl _ _) q p hp
      have HPSH := Lib.hid (HSL.out p (List.mem_of_getElem? hp))
      have HC1 := Lib.hid (fun w' hf => HLV.out p.1 HPSH.out.1 _ w' hf (hi1.no hf))
      have HC2 := Lib.hid (fun w' hf => HLV.out p.2 HPSH.out.2 _ w' hf (hi2.no hf))
      obtain ⟨k5, s5, n5, aa5, mm5, cc5, rfl, rfl, rfl, rfl⟩ := is_cells hi1
      obtain ⟨k6, s6, n6, aa6, mm6, cc6, rfl, rfl, rfl, rfl⟩ := is_cells hi2
      have hbw := World.block_lt_of_cell? w _ e0
      have hltq : (q : Int) < (m : Int) := by omega
      have HPB : Hid (∀ w' : World, w'.heap[b]? = w.heap[b]? → (w'.cell? ⟨b, off + q * 8, none⟩ = some (.int .u8 k5) ∧ w'.cell? ⟨b, off + q * 8 + 1, none⟩ = some (.string s5) ∧ w'.cell? ⟨b, off + q * 8 + 2, none⟩ = some (.int .i64 n5) ∧ w'.cell? ⟨b, off + q * 8 + 3, none⟩ = some (.slice aa5 mm5 cc5)) ∧ (w'.cell? ⟨b, off + q * 8 + 4, none⟩ = some (.int .u8 k6) ∧ w'.cell? ⟨b, off + q * 8 + 5, none⟩ = some (.string s6) ∧ w'.cell? ⟨b, off + q * 8 + 6, none⟩ = some (.int .i64 n6) ∧ w'.cell? ⟨b, off + q * 8 + 7, none⟩ = some (.slice aa6 mm6 cc6))) := Lib.hid (fun w' hf => ⟨⟨(World.cell?_of_block hf).trans e0, (World.cell?_of_block hf).trans e1, (World.cell?_of_block hf).trans e2, (World.cell?_of_block hf).trans e3⟩, ⟨(World.cell?_of_block hf).trans g0, (World.cell?_of_block hf).trans g1, (World.cell?_of_block hf).trans g2, (World.cell?_of_block hf).trans g3⟩⟩)
      have HPW : Hid (∀ w', Fr No w0 w' → w'.heap[b]? = w.heap[b]?) := Lib.hid (fun w' hf => (HF0.out.then hf).block b hbw no_one)
      have HIP : Hid (∀ w', Fr No w0 w' → IsT bs w' p.1 (.agg #[.int .u8 k5, .string s5, .int .i64 n5, .slice aa5 mm5 cc5]) ∧ IsT bs w' p.2 (.agg #[.int .u8 k6, .string s6, .int .i64 n6, .slice aa6 mm6 cc6])) := Lib.hid (fun w' hf => ⟨is_base HBS.out.1 _ _ (hi1.no (HF0.out.then hf)), is_base HBS.out.1 _ _ (hi2.no (HF0.out.then hf))⟩)
      clear hp e0 e1 e2 e3 g0 g1 g2 g3 hi1 hi2
      obtain ⟨⟨e0, e1, e2, e3⟩, ⟨g0, g1, g2, g3⟩⟩ := HPB.out wr (HPW.out wr HF.out)
      go_wp2_with fail
      refine (HC1.out wr (HF0.out.then HF.out)).mono ?_
      rintro e w5 ⟨rfl, hf5⟩
      have HP1 : Hid (Fr No wr w5) := Lib.hid hf5
      clear hf5 e0 e1 e2 e3 g0 g1 g2 g3
      obtain ⟨⟨e0, e1, e2, e3⟩, ⟨g0, g1, g2, g3⟩⟩ := HPB.out w5 (HPW.out w5 (HF.out.then HP1.out))
      cases hv1 : vast p.1 with
      | true =>
        clear hv1 e0 e1 e2 e3 g0 g1 g2 g3
        go_wp2_with fail
        refine (works_any _).mono ?_
        rintro e w9 ⟨rfl, hf9⟩
        go_wp2_with fail
        go_ret
        exact ⟨rfl, (HF0.out.then (HF.out.then HP1.out)).then hf9⟩
      | false =>
      have HV1 := Lib.hid (vast_small hv1)
      clear hv1
      go_wp2_with fail
      refine (HC2.out w5 (HF0.out.then (HF.out.then HP1.out))).mono ?_
      rintro e w6 ⟨rfl, hf6⟩
      have HP2 : Hid (Fr No wr w6) := Lib.hid (HP1.out.then hf6)
      clear hf6 e0 e1 e2 e3 g0 g1 g2 g3
      cases hv2 : vast p.2 with
      | true =>
        clear hv2
        go_wp2_with fail
        refine (works_any _).mono ?_
        rintro e w9 ⟨rfl, hf9⟩
        go_wp2_with fail
        go_ret
        exact ⟨rfl, (HF0.out.then (HF.out.then HP2.out)).then hf9⟩
      | false =>
      have HV2 := Lib.hid (vast_small hv2)
      clear hv2
      have HPS : Hid (parts p.1 ≤ 400 ∧ parts p.2 ≤ 400) := Lib.hid ⟨HV1.out.1, HV2.out.1⟩
      obtain ⟨e0, l', hU, hBd, hne⟩ := unif_ex HBD.out (s := p.1) (t := p.2) (by have := HPS.out.1; omega) (by have := HPS.out.2; omega)
      have HU := Lib.hid hU
      have HBD' := Lib.hid hBd
      clear hU hBd hne
      have HPC : Hid (∀ w', Fr No w6 w' → (w'.cell? ⟨b, off + q * 8, none⟩ = some (.int .u8 k5) ∧ w'.cell? ⟨b, off + q * 8 + 1, none⟩ = some (.string s5) ∧ w'.cell? ⟨b, off + q * 8 + 2, none⟩ = some (.int .i64 n5) ∧ w'.cell? ⟨b, off + q * 8 + 3, none⟩ = some (.slice aa5 mm5 cc5)) ∧ (w'.cell? ⟨b, off + q * 8 + 4, none⟩ = some (.int .u8 k6) ∧ w'.cell? ⟨b, off + q * 8 + 5, none⟩ = some (.string s6) ∧ w'.cell? ⟨b, off + q * 8 + 6, none⟩ = some (.int .i64 n6) ∧ w'.cell? ⟨b, off + q * 8 + 7, none⟩ = some (.slice aa6 mm6 cc6))) := Lib.hid (fun w' hf => HPB.out w' (HPW.out w' (HF.out.then (HP2.out.then hf))))
      have HPI : Hid (∀ w', Fr No w6 w' → IsT bs w' p.1 (.agg #[.int .u8 k5, .string s5, .int .i64 n5, .slice aa5 mm5 cc5]) ∧ IsT bs w' p.2 (.agg #[.int .u8 k6, .string s6, .int .i64 n6, .slice aa6 mm6 cc6])) := Lib.hid (fun w' hf => HIP.out w' (HF.out.then (HP2.out.then hf)))
      have HPC2 : Hid (∀ w', Fb bs w6 w' → (w'.cell? ⟨b, off + q * 8, none⟩ = some (.int .u8 k5) ∧ w'.cell? ⟨b, off + q * 8 + 1, none⟩ = some (.string s5) ∧ w'.cell? ⟨b, off + q * 8 + 2, none⟩ = some (.int .i64 n5) ∧ w'.cell? ⟨b, off + q * 8 + 3, none⟩ = some (.slice aa5 mm5 cc5)) ∧ (w'.cell? ⟨b, off + q * 8 + 4, none⟩ = some (.int .u8 k6) ∧ w'.cell? ⟨b, off + q * 8 + 5, none⟩ = some (.string s6) ∧ w'.cell? ⟨b, off + q * 8 + 6, none⟩ = some (.int .i64 n6) ∧ w'.cell? ⟨b, off + q * 8 + 7, none⟩ = some (.slice aa6 mm6 cc6))) := Lib.hid (fun w' hf => HPB.out w' ((hf.block b (by have := (HF0.out.then (HF.out.then HP2.out)).size; omega) (fun h => by have := h.1; have := HBS.out.1; omega)).trans (HPW.out w6 (HF.out.then HP2.out))))
      go_upto_region 9 with fail
      refine region_e (fun w' => (w'.cell? ⟨b, off + q * 8, none⟩ = some (.int .u8 k5) ∧ w'.cell? ⟨b, off + q * 8 + 1, none⟩ = some (.string s5) ∧ w'.cell? ⟨b, off + q * 8 + 2, none⟩ = some (.int .i64 n5) ∧ w'.cell? ⟨b, off + q * 8 + 3, none⟩ = some (.slice aa5 mm5 cc5)) ∧ (w'.cell? ⟨b, off + q * 8 + 4, none⟩ = some (.int .u8 k6) ∧ w'.cell? ⟨b, off + q * 8 + 5, none⟩ = some (.string s6) ∧ w'.cell? ⟨b, off + q * 8 + 6, none⟩ = some (.int .i64 n6) ∧ w'.cell? ⟨b, off + q * 8 + 7, none⟩ = some (.slice aa6 mm6 cc6))) [] (by kernel_rfl) ?_ (fun hHeld => ?_)
      · exact HPC.out _ (Fr.drew _)
      refine take_op 0 (some 48) (Op.move ( .tmp 7)) 27 ?_ (by kernel_rfl) (by kernel_rfl) (by kernel_rfl) (fun _ _ _ h => h) ?_ (by assumption) ?_
      rotate_left
      · intro w hSw; (try dsimp only at hSw); go_simp; (try (with_reducible rfl))
      try simp only [Act.put, List.setIfInBounds_toArray, List.set_cons_zero, List.set_cons_succ]
      refine take_op 1 (some 49) (Op.move ( .tmp 1)) 39 ?_ (by kernel_rfl) (by kernel_rfl) (by kernel_rfl) (fun _ _ _ h => h) ?_ (by assumption) ?_
      rotate_left
      · intro w hSw; (try dsimp only at hSw); go_simp; (try (with_reducible rfl))
      try simp only [Act.put, List.setIfInBounds_toArray, List.set_cons_zero, List.set_cons_succ]
      refine take_op 2 (some 50) (Op.move ( .tmp 9)) 3 ?_ (by kernel_rfl) (by kernel_rfl) (by kernel_rfl) (fun _ _ _ h => h) ?_ (by assumption) ?_
      rotate_left
      · intro w hSw; (try dsimp only at hSw); go_simp; (try (with_reducible rfl))
      try simp only [Act.put, List.setIfInBounds_toArray, List.set_cons_zero, List.set_cons_succ]
      refine take_op 3 (some 51) (Op.indexAddr 39 ( .tmp 49) ( .tmp 50)) 0 ?_ (by kernel_rfl) (by kernel_rfl) (by kernel_rfl) (fun _ _ _ h => h) ?_ (by assumption) ?_
      rotate_left
      · intro w hSw; (try dsimp only at hSw); go_simp; (try (with_reducible rfl))
      try simp only [Act.put, List.setIfInBounds_toArray, List.set_cons_zero, List.set_cons_succ]
      refine take_op 4 (some 52) (Op.fieldAddr 41 ( .tmp 51) 0) 0 ?_ (by kernel_rfl) (by kernel_rfl) (by kernel_rfl) (fun _ _ _ h => h) ?_ (by assumption) ?_
      rotate_left
      · intro w hSw; (try dsimp only at hSw); go_simp; (try (with_reducible rfl))
      try simp only [Act.put, List.setIfInBounds_toArray, List.set_cons_zero, List.set_cons_succ]
      refine take_op 5 (some 53) (Op.load 24 ( .tmp 52)) 24 ?_ (by kernel_rfl) (by kernel_rfl) (by kernel_rfl) (fun _ _ _ h => h) ?_ (by assumption) ?_
      rotate_left
      · intro w hSw; (try dsimp only at hSw); go_simp; (try (with_reducible rfl))
      try simp only [Act.put, List.setIfInBounds_toArray, List.set_cons_zero, List.set_cons_succ]
      refine take_op 6 (some 54) (Op.move ( .tmp 1)) 39 ?_ (by kernel_rfl) (by kernel_rfl) (by kernel_rfl) (fun _ _ _ h => h) ?_ (by assumption) ?_
      rotate_left
      · intro w hSw; (try dsimp only at hSw); go_simp; (try (with_reducible rfl))
      try simp only [Act.put, List.setIfInBounds_toArray, List.set_cons_zero, List.set_cons_succ]
      refine take_op 7 (some 55) (Op.move ( .tmp 9)) 3 ?_ (by kernel_rfl) (by kernel_rfl) (by kernel_rfl) (fun _ _ _ h => h) ?_ (by assumption) ?_
      rotate_left
      · intro w hSw; (try dsimp only at hSw); go_simp; (try (with_reducible rfl))
      try simp only [Act.put, List.setIfInBounds_toArray, List.set_cons_zero, List.set_cons_succ]
      refine take_op 8 (some 56) (Op.indexAddr 39 ( .tmp 54) ( .tmp 55)) 0 ?_ (by kernel_rfl) (by kernel_rfl) (by kernel_rfl) (fun _ _ _ h => h) ?_ (by assumption) ?_
      rotate_left
      · intro w hSw; (try dsimp only at hSw); go_simp; (try (with_reducible rfl))
      try simp only [Act.put, List.setIfInBounds_toArray, List.set_cons_zero, List.set_cons_succ]
      refine take_op 9 (some 57) (Op.fieldAddr 41 ( .tmp 56) 1) 0 ?_ (by kernel_rfl) (by kernel_rfl) (by kernel_rfl) (fun _ _ _ h => h) ?_ (by assumption) ?_
      rotate_left
      · intro w hSw; (try dsimp only at hSw); go_simp; (try (with_reducible rfl))
      try simp only [Act.put, List.setIfInBounds_toArray, List.set_cons_zero, List.set_cons_succ]
      refine take_op 10 (some 58) (Op.load 24 ( .tmp 57)) 24 ?_ (by kernel_rfl) (by kernel_rfl) (by kernel_rfl) (fun _ _ _ h => h) ?_ (by assumption) ?_
      rotate_left
      · intro w hSw; (try dsimp only at hSw); go_simp; (try (with_reducible rfl))
      try simp only [Act.put, List.setIfInBounds_toArray, List.set_cons_zero, List.set_cons_succ]
      refine ready_e (rs := [11]) (by kernel_rfl) (by simp) ?_
      refine do_mid (o := _) rfl (fun K hK => ?_) none_e -- slot 59 F11
      go_simp
      go_at_call 11
      refine (Unify_any bs g many lb l' HBD.out.wf p.1 p.2 (by have := HPS.out.1; omega) (by have := HPS.out.2; omega) e0 HU.out _ _ _ (HB.out.no ((Fr.then HP2.out (Fr.drew _)))) (HPI.out _ (Fr.drew _)).1 (HPI.out _ (Fr.drew _)).2).mono ?_
      rintro e' w7 ⟨rfl, hb7, hf7⟩
      have HB7 := Lib.hid hb7
      have HF7 : Hid (Fr No w0 w7) := Lib.hid ((HF.out.then (HP2.out.then (Fr.drew _))).own hf7 (fun i h => Nat.le_trans HBS.out.2 h.1))
      have HK7 : Hid ((w7.cell? ⟨b, off + q * 8, none⟩ = some (.int .u8 k5) ∧ w7.cell? ⟨b, off + q * 8 + 1, none⟩ = some (.string s5) ∧ w7.cell? ⟨b, off + q * 8 + 2, none⟩ = some (.int .i64 n5) ∧ w7.cell? ⟨b, off + q * 8 + 3, none⟩ = some (.slice aa5 mm5 cc5)) ∧ (w7.cell? ⟨b, off + q * 8 + 4, none⟩ = some (.int .u8 k6) ∧ w7.cell? ⟨b, off + q * 8 + 5, none⟩ = some (.string s6) ∧ w7.cell? ⟨b, off + q * 8 + 6, none⟩ = some (.int .i64 n6) ∧ w7.cell? ⟨b, off + q * 8 + 7, none⟩ = some (.slice aa6 mm6 cc6))) := Lib.hid (HPC2.out _ ((Fb.ofNo (base := bs) (Fr.drew _)).trans hf7))
      clear hb7 hf7
      refine hK.out _ _ ?_ (fun hHeld => ?_)
      · exact HK7.out
      clear hK K
      try dsimp only
      try simp only [Act.put, List.setIfInBounds_toArray, List.set_cons_zero, List.set_cons_succ]
      refine done_e (by kernel_rfl) ?_ _
      go_wp2_with fail
      exact ⟨⟨q + 1, l', by omega, by go_num, HF7, HB7, HBD'⟩, by simp [intOf]; omega⟩
theorem free_law (x : Int) (hx : (Lit.int .u8 x).wf = true) (l : List (T × T)) (hsl : ShortP l) (a : Option Addr) (cap : Nat) (t : T) (hst : Short t) (vt : Value) (w : World) (hrow : PRow w.heap.size w a l) (hit : IsT w.heap.size w t vt) :
    Calls Try.prog 5 #[.int .u8 x, .slice a l.length cap, vt] w (SaidT w true) := by
  obtain ⟨n, rfl, hn⟩ := u8_wf hx
  exact free_any n hn l hsl l.length rfl a cap t hst vt w hrow hit
end Go.Proofs.Ytfjddfcndammdaa
