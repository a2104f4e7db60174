/- Same, where it is so; In. -/
import Derived.Test.YtcaejcbmkiacmaaDoorWi
namespace Go.Proofs.YtcaejcbmkiacmaaDoor
open Go.RowKit

theorem mk_toList (l : Bs) : (mk l).toList = l := by
  rw [ByteArray.toList_eq]
  exact mk_data l
def Said (w : World) (x : Bool) (e : Ending) (w' : World) : Prop := e = .returned (.bool x) ∧ Below w.heap.size w w'
theorem below_drew {B : Nat} {a w : World} (h : Below B a w) (n : Nat) : Below B a (w.drewN n) := h.trans ⟨rfl, rfl, rfl, Nat.le_refl _, fun _ _ => rfl⟩
set_option maxHeartbeats 2000000 in
theorem same_true (ts : List Tok) (a1 a2 : Option Addr) (n c1 c2 : Nat) (w : World) (hn : n ≤ 1099511627776) (hl : Hid (ts.length = n)) (h1 : Hid (RowAt w a1 ts)) (h2 : Hid (RowAt w a2 ts)) :
    Calls Tryd.prog 13 #[.slice a1 n c1, .slice a2 n c2] w (Said w true) := by
  go_enter Tryd.func13, Tryd.ntmps13
  go_wp2_with fail
  go_loopw [5] (fun i wr => ∃ k : Nat, k ≤ n ∧ i = .int .i64 k ∧ Hid (Below w.heap.size w wr)) (fun i _ => n - (intOf i).toNat)
  case atStart => exact ⟨0, Nat.zero_le _, rfl, Lib.hid (Below.refl _ _)⟩
  case round =>
    obtain ⟨k, hk, rfl, HF⟩ := hrel
    by_cases hkn : k = n
    · go_wp2_with fail
      go_ret
      exact ⟨rfl, HF.out⟩
    · obtain ⟨t, ht⟩ : ∃ t, ts[k]? = some t := ⟨_, List.getElem?_eq_getElem (by rw [hl.out]; omega)⟩
      obtain ⟨g1, rfl, c0, c1, c2, c3⟩ := (h1.out.below HF.out) k t ht
      obtain ⟨g2, rfl, d0, d1, d2, d3⟩ := (h2.out.below HF.out) k t ht
      clear ht
      go_wp2_with fail
      go_quiet (fail)
      go_wp2_with fail
      exact ⟨⟨k + 1, by omega, rfl, Lib.hid (below_drew HF.out nq)⟩, by simp [intOf]; omega⟩
set_option maxHeartbeats 2000000 in
theorem in_any (ss : List Bs) (x : Bs) (s : ByteArray) (hs : Hid (s = mk x)) (b off n cap : Nat) (w : World) (hn : n ≤ 1099511627776) (hl : Hid (ss.length = n)) (h1 : Hid (∀ (i : Nat) (y : Bs), ss[i]? = some y → w.cell? ⟨b, off + i, none⟩ = some (.string (mk y)))) :
    Calls Tryd.prog 19 #[.slice (some ⟨b, off, none⟩) n cap, .string s] w fun e w' => e = .returned (.bool (decide (x ∈ ss))) ∧ w' = w := by
  go_enter Tryd.func19, Tryd.ntmps19
  go_wp2_with fail
  go_loopw [5] (fun i wr => ∃ k : Nat, k ≤ n ∧ i = .int .i64 k ∧ wr = w ∧ Hid (x ∉ ss.take k)) (fun i _ => n - (intOf i).toNat)
  case atStart => exact ⟨0, Nat.zero_le _, rfl, rfl, Lib.hid (by simp)⟩
  case round =>
    obtain ⟨k, hk, rfl, rfl, HX⟩ := hrel
    by_cases hkn : k = n
    · go_wp2_with fail
      go_ret
      refine ⟨?_, rfl⟩
      have : x ∉ ss := by
        have := HX.out
        rwa [hkn, ← hl.out, List.take_length] at this
      rw [decide_eq_false this]
      rfl
    · obtain ⟨y, hy⟩ : ∃ y, ss[k]? = some y := ⟨_, List.getElem?_eq_getElem (by rw [hl.out]; omega)⟩
      have c0 := h1.out k y hy
      have HY := Lib.hid hy
      clear hy
      by_cases hxy : y = x
      · have e : mk y = s := by rw [hs.out, hxy]
        rw [e] at c0
        go_wp2_with fail
        go_ret
        refine ⟨?_, rfl⟩
        rw [← hxy, decide_eq_true (List.mem_of_getElem? HY.out)]
        rfl
      · have hne : ((mk y).toList == s.toList) = false := by
          rw [beq_eq_false_iff_ne, hs.out, mk_toList, mk_toList]
          exact hxy
        have HXY := Lib.hid hxy
        clear hxy
        go_wp2_with fail
        refine ⟨⟨k + 1, by omega, rfl, trivial, Lib.hid ?_⟩, by simp [intOf]; omega⟩
        rw [List.take_add_one, HY.out]
        simp only [Option.toList_some, List.mem_append, List.mem_singleton, not_or]
        exact ⟨HX.out, fun e => HXY.out e.symm⟩
/-- what Scan hands back, and its room -/
def Scanned2 (w : World) (R : Except Nat (List Tok)) (e : Ending) (w' : World) : Prop :=
  Below w.heap.size w w' ∧ match R with
    | .error p => e = .returned (.tuple #[.slice none 0 0, .int .i64 p, .int .i64 10])
    | .ok ts => ∃ a cap, e = .returned (.tuple #[.slice a ts.length cap, .int .i64 0, .int .i64 0]) ∧ RowAt w' a ts ∧ ts.length ≤ cap
theorem scan_src2 (l : Bs) (a : Option Addr) (n cap : Nat) (w : World) (hn : n ≤ 1099511627776) (hl : l.length = n) (hs : SrcAt w a l) (hT : Tables w) :
    Calls Tryd.prog 11 #[.slice a n cap] w (Scanned2 w (scanR l)) := by
  refine (scan_any l a n cap w hn (Lib.hid hl) (Lib.hid (hs.spells n cap hl)) (Lib.hid hT)).mono ?_
  rintro e w' ⟨hb, h⟩
  refine ⟨hb, ?_⟩
  cases hR : scanR l with
  | error p =>
    rw [hR] at h
    exact h
  | ok ts =>
    rw [hR] at h
    obtain ⟨v, rfl, h⟩ := h
    have hcap : ∀ a cap, v = .slice a ts.length cap → ts.length ≤ cap := by
      intro a cap e
      rcases h.2 with ⟨_, h2⟩ | ⟨g, c, cur, h1, _, _, h3, _⟩
      · omega
      · rw [h1] at e
        simp only [Value.slice.injEq] at e
        omega
    obtain ⟨a', cap', e, h'⟩ := rowAt_of h
    have hc := hcap a' cap' e
    subst e
    exact ⟨a', cap', rfl, h', hc⟩
theorem below_grown2 {B : Nat} {w w' w2 : World} {e : TypeId} {s : Nat} {v : Value} {n : Nat} {xs : List Value} (h : Below B w w') (hB : B ≤ w.heap.size) (ho : w'.ownsRow B e s v n xs) (hg : w'.grownBy w2 v.ownBlock) : Below B w w2 := by
  refine ⟨hg.os.trans h.os, hg.tape.trans h.tape, hg.output.trans h.output, Nat.le_trans h.size hg.size, fun k hk => (hg.block k (Nat.lt_of_lt_of_le hk (Nat.le_trans hB h.size)) ?_).trans (h.block k hk)⟩
  rcases ho.2 with ⟨rfl, _⟩ | ⟨g, cap, cur, rfl, h2, _⟩
  · simp [Value.ownBlock]
  · simp only [Value.ownBlock]
    intro e
    injection e with e
    omega
def bytesV (l : Bs) : List Value := l.map fun (x : UInt8) => Value.int .u8 (x.toNat : Nat)
theorem bytesV_one (l : Bs) : ∀ u ∈ bytesV l, u.oneCell' = true := by
  intro u hu
  obtain ⟨x, _, rfl⟩ := List.mem_map.1 hu
  rfl
theorem srcAt_own {w : World} {base : Nat} {v : Value} {l : Bs} (h : w.ownsRow base 5 1 v l.length (bytesV l)) : ∃ a cap, v = .slice a l.length cap ∧ SrcAt w a l ∧ l.length ≤ cap ∧ cap ≤ maxLen := by
  have hz := fun g => h.cells (g := g)
  rcases h.2 with ⟨rfl, h2⟩ | ⟨g, cap, cur, rfl, h2, _, h3, h4, _⟩
  · refine ⟨none, 0, by rw [h2], fun i t hi => ?_, by omega, Nat.zero_le _⟩
    have : l = [] := List.eq_nil_of_length_eq_zero h2
    subst this
    simp at hi
  · refine ⟨some ⟨g, 0, none⟩, cap, rfl, fun i x hi => ⟨g, 0, rfl, ?_⟩, h3, h4⟩
    have hc := hz g rfl i (.int .u8 (x.toNat : Nat)) (by unfold bytesV; rw [List.getElem?_map, hi]; rfl)
    rw [Nat.zero_add]
    rw [← hc]
    unfold Addr.add
    split
    · rename_i h
      rw [h]
    · simp
theorem info5 : ∃ i, Tryd.prog.info? 5 = some i ∧ i.zero = some (.int .u8 0) ∧ i.size = 1 ∧ i.bytes = 1 := ⟨_, rfl, rfl, rfl, rfl⟩
theorem SrcAt.cells {w : World} {b off : Nat} {l : Bs} (h : SrcAt w (some ⟨b, off, none⟩) l) : ∀ j u, (bytesV l)[j]? = some u → w.cell? ((⟨b, off, none⟩ : Addr).add j) = some u := by
  intro j u hj
  unfold bytesV at hj
  rw [List.getElem?_map] at hj
  obtain ⟨x, hx, rfl⟩ := Option.map_eq_some_iff.1 hj
  obtain ⟨b', off', e1, e2⟩ := h j x hx
  simp only [Option.some.injEq, Addr.mk.injEq, and_true] at e1
  obtain ⟨rfl, rfl⟩ := e1
  rw [← e2]
  unfold Addr.add
  split
  · rename_i h
    rw [h]
    rfl
  · rfl
theorem SrcAt.take {w : World} {a : Option Addr} {l : Bs} (h : SrcAt w a l) (n : Nat) : SrcAt w a (l.take n) := by
  intro i x hi
  rw [List.getElem?_take] at hi
  split at hi
  · exact h i x hi
  · cases hi
theorem RowAt.left {w : World} {a : Option Addr} {x y : List Tok} (h : RowAt w a (x ++ y)) : RowAt w a x := by
  intro i t hi
  refine h i t ?_
  rw [List.getElem?_append_left (List.getElem?_eq_some_iff.1 hi).1]
  exact hi
theorem SrcAt.some_of {w : World} {a : Option Addr} {l : Bs} (h : SrcAt w a l) (hn : 1 ≤ l.length) : ∃ b off, a = some ⟨b, off, none⟩ := by
  cases l with
  | nil => simp at hn
  | cons c r =>
    obtain ⟨b, off, e, _⟩ := h 0 c rfl
    exact ⟨b, off, e⟩
end Go.Proofs.YtcaejcbmkiacmaaDoor
