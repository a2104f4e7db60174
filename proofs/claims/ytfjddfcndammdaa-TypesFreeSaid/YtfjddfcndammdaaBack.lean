/- How many bindings there are; bindings undone. -/
import Derived.Test.YtfjddfcndammdaaBk
import Derived.Test.YtfjddfcndammdaaWe
import Derived.Deep.RegionHeld3
import Derived.StillTailTactics
import Derived.IntWalk
import Derived.Deep.LoopGhost
namespace Go.Proofs.Ytfjddfcndammdaa
open Go.RowKit

theorem trail_slice {w : World} {base n : Nat} {tr : Value} {xs : List Value} (h : w.ownsRow base 3 1 tr n xs) : ∃ a cap, tr = .slice a n cap := by
  rcases h.2 with ⟨rfl, rfl⟩ | ⟨g, cap, cur, rfl, _⟩
  · exact ⟨_, _, rfl⟩
  · exact ⟨_, _, rfl⟩
set_option maxHeartbeats 1000000 in
theorem mark_any (base g many : Nat) (l : Bs) (hl : l.length ≤ 4096) (w : World) (hb : Bk base w g many l) : Calls Try.prog 12 #[.pointer (some ⟨g, 0, none⟩)] w (SaidI w l.length) := by
  obtain ⟨mb, tr, D, h1, h2, h3, h4, h5, h6⟩ := hb
  obtain ⟨a, cap, rfl⟩ := trail_slice h6
  have c2 : w.cell? ⟨g, 2, none⟩ = some (.slice a l.length cap) := cell_of h1 2
  obtain ⟨m, hm⟩ : ∃ m, l.length = m := ⟨_, rfl⟩
  rw [hm] at c2 hl ⊢
  clear h1 h2 h3 h4 h5 h6 hm
  go_enter Try.func12, Try.ntmps12
  go_wp2_with fail
  go_ret
  exact ⟨rfl, Fr.refl _ _⟩
set_option maxHeartbeats 1000000 in
theorem mark_nil (w : World) : Calls Try.prog 12 #[.pointer none] w (SaidI w 0) := by
  go_enter Try.func12, Try.ntmps12
  go_wp2_with fail
  go_ret
  exact ⟨rfl, Fr.refl _ _⟩
def backB (l : Bs) (m : Int) : Bs := if m < 0 then l else l.take m.toNat
/-- what is said of a book behind a call that may write it -/
def BkSaid (base : Nat) (w : World) (g many : Nat) (l : Bs) (e : Ending) (w' : World) : Prop := e = .returned (.tuple #[]) ∧ Bk base w' g many l ∧ Fb base w w'
set_option maxHeartbeats 1000000 in
theorem back_nil (m : Int) (w : World) : Calls Try.prog 20 #[.pointer none, .int .i64 m] w (fun e w' => e = .returned (.tuple #[]) ∧ Fr No w w') := by
  go_enter Try.func20, Try.ntmps20
  go_wp2_with fail
  refine bodyPost_ret (results_none rfl _ _ _) rfl ?_
  exact ⟨rfl, Fr.refl _ _⟩
set_option maxHeartbeats 1000000 in
theorem back_neg (base g many : Nat) (l : Bs) (m : Int) (hm : m < 0) (w : World) (hb : Bk base w g many l) : Calls Try.prog 20 #[.pointer (some ⟨g, 0, none⟩), .int .i64 m] w (BkSaid base w g many (backB l m)) := by
  have HB := Lib.hid hb
  have HE : Hid (backB l m = l) := Lib.hid (if_pos hm)
  clear hb
  go_enter Try.func20, Try.ntmps20
  go_wp2_with fail
  go_end0
  rw [HE.out]
  exact ⟨rfl, HB.out, Fb.refl _ _⟩
theorem kn_ne {a b : Int} (h : a ≠ b) : kn a ≠ kn b := fun e => h (by unfold kn at e; injection e)
theorem once_last {l : Bs} {key : Int} {t : T} (h : Once (l ++ [(key, t)])) : look l key = none ∧ Once l := by
  unfold Once at h ⊢
  rw [List.map_append, List.nodup_append] at h
  refine ⟨(look_none l key).2 fun hm => ?_, h.1⟩
  exact h.2.2 key hm key (by simp) rfl
theorem holds_del {base : Nat} {w w' : World} {l : Bs} {key : Int} {t : T} {D : DataW Value} (h : HoldsB base w (l ++ [(key, t)]) D) (hone : Once (l ++ [(key, t)])) (hf : Fb base w w') : HoldsB base w' l (D.del (kn key)) := by
  obtain ⟨h1, _⟩ := once_last hone
  intro n
  by_cases hn : n = key
  · subst hn
    exact ⟨fun _ => Maps.has_del_same, fun x hx => by rw [h1] at hx; cases hx⟩
  · have hne : kn n ≠ kn key := kn_ne hn
    obtain ⟨h2, h3⟩ := h n
    rw [look_app] at h2 h3
    rw [Maps.has_del_other hne]
    refine ⟨fun hx => ?_, fun x hx => ?_⟩
    · rw [hx] at h2
      exact h2 (if_neg (fun e => hn e.symm))
    · rw [hx] at h3
      obtain ⟨q1, v, q2, q3⟩ := h3 x rfl
      exact ⟨q1, v, fun z => by rw [Maps.atKey_del_other hne]; exact q2 z, q3.fb hf⟩
theorem map_tight {w : World} {mb n : Nat} {D : DataW Value} (h : w.ownsMap Try.prog 3 Rv mb n D) : w.ownsMap Try.prog 3 Rv mb (Maps.size D) D := by
  obtain ⟨es, clock, hb, F, hs, hD⟩ := h
  refine ⟨es, clock, hb, F, ?_, hD⟩
  rw [hD]
  simp [Maps.size, length_sorted]
theorem Fb.turned {base mb : Nat} {w w' : World} (h : w.mapTurned w' mb) (hb : base ≤ mb) : Fb base w w' := by
  have hg := h.grown
  obtain ⟨es, clock, es', clock', h1, h2⟩ := h
  refine (Fr.grown hg).mono fun k _ e => ?_
  simp only [Option.some.injEq] at e
  subst e
  exact ⟨hb, _, h1, trivial⟩
theorem Fb.cell61 {base g i : Nat} {w : World} {cs : Array Value} {z : Nat × Nat} (h : w.heap[g]? = some (.cells cs 61 z)) (hb : base ≤ g) (v : Value) : Fb base w (w.setCell ⟨g, i, none⟩ v) :=
  (Fr.setCell w ⟨g, i, none⟩ v).mono fun k _ e => by
    have e : k = g := e
    subst e
    exact ⟨hb, _, h, .inl rfl⟩
/-- the last element is struck -/
theorem row_less {w : World} {base g k cap : Nat} {xs : List Value} {x : Value} (h : w.ownsRow base 3 1 (.slice (some ⟨g, 0, none⟩) (k + 1) cap) (k + 1) (xs ++ [x])) : w.ownsRow base 3 1 (.slice (some ⟨g, 0, none⟩) k cap) k xs ∧ w.cell? ⟨g, k, none⟩ = some x ∧ k < cap ∧ cap ≤ maxLen := by
  obtain ⟨hl, h2⟩ := h
  rcases h2 with ⟨e, _⟩ | ⟨g2, cap2, cur, e, h3, h4, h5, h6, h7, h8⟩
  · cases e
  · simp only [Value.slice.injEq, Option.some.injEq, Addr.mk.injEq, and_true, true_and] at e
    obtain ⟨rfl, rfl⟩ := e
    have hxl : xs.length = k := by simpa using hl
    simp only [Nat.mul_one] at h8 hl h7
    refine ⟨⟨by simp [hxl], .inr ⟨g, cap, cur, rfl, h3, h4, by omega, h6, by simpa using h7, ?_⟩⟩, ?_, by omega, h6⟩
    · rw [Nat.mul_one]
      have := congrArg (List.take k) h8
      rw [List.take_take, Nat.min_eq_left (by omega)] at this
      rw [this, List.take_append_of_le_length (by omega), ← hxl, List.take_length]
    · rw [cell_of h4]
      have : (cur.toList.take (k + 1))[k]? = some x := by
        rw [h8, List.getElem?_append_right (by omega), hxl]
        simp
      rw [List.getElem?_take_of_lt (by omega)] at this
      simpa using this
theorem wfk {n : Int} (h : 0 ≤ n ∧ n < 4096) : keyOf Try.prog 3 (.int .i64 n) = some (.int .i64 n) := Maps.keyOf_int_mk Try.underlying3 (wf64 h.1 (by omega))
set_option maxHeartbeats 2000000 in
theorem back_any (base g many : Nat) (l : Bs) (hone : Once l) (hl : l.length ≤ 4096) (hks : ∀ p ∈ l, 0 ≤ p.1 ∧ p.1 < 4096) (m : Int) (hm : 0 ≤ m) (w : World) (hb : Bk base w g many l) : Calls Try.prog 20 #[.pointer (some ⟨g, 0, none⟩), .int .i64 m] w (BkSaid base w g many (backB l m)) := by
  have HB := Lib.hid hb
  have HE : Hid (backB l m = l.take m.toNat) := Lib.hid (if_neg (by omega))
  have HO := Lib.hid hone
  have HK := Lib.hid hks
  obtain ⟨len, hlen⟩ : ∃ len, l.length = len := ⟨_, rfl⟩
  rw [hlen] at hl
  have HL := Lib.hid hlen
  clear hone hks hlen
  have HB0 : Hid (Bk base w g many (l.take len)) := Lib.hid (by rw [List.take_of_length_le (by have := HL.out; omega)]; exact hb)
  clear hb
  have hmn : ¬ m < 0 := by omega
  go_enter Try.func20, Try.ntmps20
  go_wp2_with fail
  go_loopg [] len (fun k wr => k ≤ len ∧ Hid (Bk base wr g many (l.take k)) ∧ Hid (Fb base w wr) ∧ Hid (k = len ∨ m ≤ k))
  case atStart => exact ⟨Nat.le_refl _, HB0, Lib.hid (Fb.refl _ _), Lib.hid (.inl rfl)⟩
  case round =>
    obtain ⟨hk, HBK, HF, HM⟩ := hrel
    obtain ⟨mb, tr, D, h1, h2, h3, h4, h5, h6⟩ := HBK.out
    have hlk : (l.take gk).length = gk := by rw [List.length_take, HL.out]; omega
    rw [hlk] at h4 h6
    obtain ⟨a, cap, rfl⟩ := trail_slice h6
    have b1 : wr.cell? ⟨g, 1, none⟩ = some (.map (some mb)) := cell_of h1 1
    have b2 : wr.cell? ⟨g, 2, none⟩ = some (.slice a gk cap) := cell_of h1 2
    have y2 : wr.frozen? ⟨g, 2, none⟩ = false := free_of h1 2
    by_cases hgt : m < gk
    · obtain ⟨q, rfl⟩ : ∃ q, gk = q + 1 := ⟨gk - 1, by omega⟩
      obtain ⟨⟨key, t⟩, hp⟩ : ∃ p, l[q]? = some p := ⟨_, List.getElem?_eq_getElem (by rw [HL.out]; omega)⟩
      have htk : l.take (q + 1) = l.take q ++ [(key, t)] := by rw [List.take_add_one, hp]; rfl
      rw [htk, List.map_append] at h6
      have hkr := HK.out _ (List.mem_of_getElem? hp)
      obtain ⟨g2, rfl⟩ : ∃ g2, a = some ⟨g2, 0, none⟩ := by
        rcases h6.2 with ⟨e, _⟩ | ⟨g2, cap2, cur, e, _⟩
        · cases e
        · simp only [Value.slice.injEq] at e
          exact ⟨g2, e.1⟩
      obtain ⟨h7, c7, hcap, hcap2⟩ := row_less h6
      rw [htk] at h5
      have hO : Once (l.take q ++ [(key, t)]) := by
        rw [← htk]
        exact (List.Sublist.map _ (List.take_sublist (q + 1) l)).nodup HO.out
      have HOWN := Lib.hid h4
      have HP := Lib.hid (And.intro h1 (And.intro h2 (And.intro h3 (And.intro h5 (And.intro h7 hO)))))
      clear h1 h2 h3 h4 h5 h6 h7 hO htk hlk hp
      have k0 : (0 : Int) ≤ (q : Int) := by omega
      have k1 : (q : Int) < (q : Int) + 1 := by omega
      unfold maxLen at hcap2
      have hwq : IntKind.i64.wrap (q : Int) = (q : Int) := IntWalk.i64_in _ (by omega)
      go_wp2_with fail
      go_still_tail 16, (by kernel_rfl)
      go_wp2_with (at_delete; refine wpList_delete_own _ rfl _ _ 59 3 rfl 24 law3 Try.underlying59 Rv mb (q + 1) D rfl HOWN.out (.int .i64 key) (kn key) rfl (wfk hkr) ?_; intro w1 hown1 hturn1)
      obtain ⟨h1, h2, h3, h5, h7, hO⟩ := HP.out
      have hf1 : Fb base wr w1 := (Fb.ofNo (Fr.drew wr)).trans (Fb.turned hturn1 h3)
      have hg1 : Fr (fun k => some mb = some k) wr w1 := (Fr.drew wr).then' (Fr.grown hturn1.grown) (fun _ h => h)
      have hbk1 : w1.heap[g]? = some (.cells #[.int .i64 many, .map (some mb), .slice (some ⟨g2, 0, none⟩) (q + 1) cap] 61 (0, 0)) := hg1.keeps h1 (fun e => by
        obtain ⟨es, clock, hb, _⟩ := HOWN.out
        simp only [Option.some.injEq] at e
        rw [e, h1] at hb
        cases hb)
      have hrow1 : w1.ownsRow base 3 1 (.slice (some ⟨g2, 0, none⟩) q cap) q ((l.take q).map fun p => .int .i64 p.1) := owns_fr h7 hg1 (fun b hb e => by
        obtain ⟨es, clock, hb2, _⟩ := HOWN.out
        rcases h7.2 with ⟨e2, _⟩ | ⟨g3, cap3, cur, e2, _, hcur, _⟩
        · cases e2
        · simp only [Value.ownBlock, Option.some.injEq] at hb
          simp only [Option.some.injEq] at e
          simp only [Value.slice.injEq, Option.some.injEq, Addr.mk.injEq] at e2
          rw [← e2.1.1, hb, ← e, hb2] at hcur
          cases hcur)
      have hhold : HoldsB base w1 (l.take q) (D.del (kn key)) := holds_del h5 hO hf1
      have hmap1 : w1.ownsMap Try.prog 3 Rv mb q (D.del (kn key)) := (map_tight hown1).mono (by
        have h8 := hown1.size_le
        have h9 := Maps.size_del (k := kn key) (HOWN.out.tidy law3)
        have h10 := HOWN.out.size_le
        rw [((h5 key).2 t (by rw [look_app, (once_last hO).1]; simp)).1] at h9
        simp only [if_true] at h9
        omega)
      have e2 : w1.cell? ⟨g, 2, none⟩ = some (.slice (some ⟨g2, 0, none⟩) (q + 1) cap) := cell_of hbk1 2
      have f2 : w1.frozen? ⟨g, 2, none⟩ = false := free_of hbk1 2
      have HN : Hid (Bk base ((w1.drew).setCell ⟨g, 2, none⟩ (.slice (some ⟨g2, 0, none⟩) q cap)) g many (l.take q) ∧ Fb base wr ((w1.drew).setCell ⟨g, 2, none⟩ (.slice (some ⟨g2, 0, none⟩) q cap))) := Lib.hid (by
        have hset := Fr.setCell w1.drew ⟨g, 2, none⟩ (.slice (some ⟨g2, 0, none⟩) q cap)
        have hlk : (l.take q).length = q := by rw [List.length_take, HL.out]; omega
        have hfin : Fb base w1 ((w1.drew).setCell ⟨g, 2, none⟩ (.slice (some ⟨g2, 0, none⟩) q cap)) := (Fb.ofNo (Fr.drew w1)).trans (Fb.cell61 (w := w1.drew) hbk1 h2 _)
        refine ⟨⟨mb, _, _, block_setCell (w := w1.drew) hbk1 2 _, h2, h3, map_fr (w := w1.drew) (by rw [hlk]; exact hmap1) hset (fun e => ?_), fun n => ?_, owns_fr (w := w1.drew) (by rw [hlk]; exact hrow1) hset (fun b hb e => ?_)⟩, hf1.trans hfin⟩
        · obtain ⟨es, clock, hb, _⟩ := hmap1
          rw [show mb = g from e, hbk1] at hb
          cases hb
        · refine ⟨(hhold n).1, fun x hx => ?_⟩
          obtain ⟨q1, v, q2, q3⟩ := (hhold n).2 x hx
          exact ⟨q1, v, q2, q3.fb hfin⟩
        · rcases hrow1.2 with ⟨e2, _⟩ | ⟨g3, cap3, cur, e2, _, hcur, _⟩
          · cases e2
          · simp only [Value.ownBlock, Option.some.injEq] at hb
            simp only [Value.slice.injEq, Option.some.injEq, Addr.mk.injEq] at e2
            rw [← e2.1.1, hb, show b = g from e, hbk1] at hcur
            simp at hcur)
      clear h1 h2 h3 h5 h7 hO hf1 hg1 hbk1 hrow1 hhold hmap1 hown1 hturn1
      have k2 : (q : Int) ≤ (cap : Int) := by omega
      go_still_tail 14, (by kernel_rfl)
      go_wp2_with fail
      go_roundg q
      case measure => omega
      case rel => exact ⟨by omega, Lib.hid HN.out.1, Lib.hid (HF.out.trans HN.out.2), Lib.hid (.inr (by omega))⟩
    · have hnot : decide (m < (gk : Int)) = false := by simp; omega
      have HEQ : Hid (l.take gk = l.take m.toNat) := Lib.hid (by
        rcases HM.out with h | h
        · rw [List.take_of_length_le (by rw [HL.out]; omega), List.take_of_length_le (by rw [HL.out]; omega)]
        · rw [show m.toNat = gk by omega])
      clear h1 h2 h3 h4 h5 h6 hlk
      go_wp2_with fail
      go_end0
      rw [HE.out, ← HEQ.out]
      exact ⟨rfl, HBK.out, HF.out⟩
end Go.Proofs.Ytfjddfcndammdaa
