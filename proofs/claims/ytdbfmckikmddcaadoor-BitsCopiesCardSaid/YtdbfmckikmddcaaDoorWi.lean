/- The anchor: 'works' is true. -/
import Derived.Test.YtdbfmckikmddcaaDoorWh
namespace Go.Proofs.YtdbfmckikmddcaaDoor
open Go.RowKit

theorem LowIs.same {n i i' : Nat} {f : Nat → Bool} {v v' : Bool} (h : LowIs n f i v) (h' : LowIs n f i' v') : i = i' ∧ v = v' := by
  rcases h with ⟨rfl, h1, h2, h3⟩ | ⟨rfl, rfl, h3⟩ <;> rcases h' with ⟨rfl, k1, k2, k3⟩ | ⟨rfl, rfl, k3⟩
  · refine ⟨?_, rfl⟩
    rcases Nat.lt_trichotomy i i' with h | h | h
    · rw [k3 i h] at h2; cases h2
    · exact h
    · rw [h3 i' h] at k2; cases k2
  · rw [k3 i h1] at h2; cases h2
  · rw [h3 i' k1] at k2; cases k2
  · exact ⟨rfl, rfl⟩
theorem LowSaid.get {n i : Nat} {f : Nat → Bool} {v : Bool} {e : Ending} (h : LowSaid n f e) (hl : LowIs n f i v) : e = .returned (.tuple #[.int .i64 i, .bool v]) := by
  obtain ⟨i', v', rfl, h'⟩ := h
  obtain ⟨rfl, rfl⟩ := h'.same hl
  rfl

def g0 : Nat → Bool := fun _ => false
def g1 : Nat → Bool := setF 70 g0 0
def g2 : Nat → Bool := setF 70 g1 69
def g3 : Nat → Bool := setF 70 g2 70
def g4 : Nat → Bool := setF 70 g3 0
theorem low_g4 : LowIs 70 g4 1 true := .inl ⟨rfl, by omega, by decide, by decide⟩

/-- memory stays as it was, and the table -/
theorem Table.keep {S : Nat → Prop} {w w' : World} (h : Table w) (hf : Fr S w w') (h0 : ¬ S 0) : Table w' := fun j hj => by
  have h1 := h j hj
  exact (World.cell?_of_block (hf.block 0 (World.block_lt_of_cell? w _ h1) h0)).trans h1
theorem Table.pos {w : World} (h : Table w) : 0 < w.heap.size := World.block_lt_of_cell? w _ (h 0 (by decide))

theorem set_val (b c n : Nat) (f g : Nat → Bool) (i : Int) (v : Bool) (w : World) (hv : (decide (0 ≤ i) && decide (i < n) && !f i.toNat) = v) (hg : setF n f i = g) (h : IsBits w b c n f) :
    Calls Tryd.prog 16 #[.pointer (some ⟨b, 0, none⟩), .int .i64 i] w fun e w' => e = .returned (.bool v) ∧ Hid (Fr (Just c) w w') ∧ Hid (IsBits w' b c n g) := by
  rw [← hv, ← hg]; exact set_any b c n f i w h
theorem has_val (b c n : Nat) (f : Nat → Bool) (i : Int) (v : Bool) (w : World) (hv : mem n f i = v) (h : IsBits w b c n f) :
    Calls Tryd.prog 12 #[.pointer (some ⟨b, 0, none⟩), .int .i64 i] w fun e w' => e = .returned (.bool v) ∧ Hid (Fr No w w') := by
  rw [← hv]; exact has_any b c n f i w h
theorem count_val (b c n k : Nat) (f : Nat → Bool) (w : World) (hv : Plain.cnt f n = k) (h : IsBits w b c n f) :
    Calls Tryd.prog 17 #[.pointer (some ⟨b, 0, none⟩)] w fun e w' => e = .returned (.int .i64 k) ∧ w = w' := by
  rw [← hv]; exact count_any b c n f w h
theorem low_val (b c n k : Nat) (f : Nat → Bool) (v : Bool) (w : World) (hv : LowIs n f k v) (h : IsBits w b c n f) (hT : Table w) :
    Calls Tryd.prog 18 #[.pointer (some ⟨b, 0, none⟩)] w fun e w' => e = .returned (.tuple #[.int .i64 k, .bool v]) ∧ w = w' :=
  (low_any b c n f w h hT).mono fun _ _ ⟨h1, h2⟩ => ⟨h1.get hv, h2⟩
theorem new_val (n : Nat) (w : World) (hn : n ≤ 65536) :
    Calls Tryd.prog 14 #[.int .i64 n] w fun e w' => e = .returned (.tuple #[.pointer (some ⟨w.heap.size + 1, 0, none⟩), .int .i64 0]) ∧ Hid (Fr No w w') ∧ Hid (IsBits w' (w.heap.size + 1) w.heap.size n g0) := new_ok n w hn
/-- one block of the call's own is written: what was there stays -/
theorem Fr.own {a b' c' : World} {c : Nat} (h : Fr No a b') (k : Fr (Just c) b' c') (hc : a.heap.size ≤ c) : Fr No a c' :=
  h.trans k fun i hi e => by unfold Just at e; omega

set_option maxHeartbeats 1000000 in
theorem works_any (w : World) (hT : Hid (Table w)) :
    Calls Tryd.prog 9 #[] w fun e w' => e = .returned (.bool true) ∧ Fr No w w' := by
  have hp := hT.out.pos
  go_enter Tryd.func9, Tryd.ntmps9
  go_wp2_with fail
  refine (new_val 70 w (by omega)).mono ?_
  rintro e w1 ⟨rfl, F1, B1⟩
  have T1 := Lib.hid (hT.out.keep F1.out (fun x => x))
  generalize hb : w.heap.size + 1 = b at B1
  generalize hc : w.heap.size = c at B1
  have Hb := Lib.hid hb
  have Hc := Lib.hid hc
  clear hb hc
  go_wp2_with fail
  refine (set_val b c 70 g0 g1 0 true w1 (by decide) rfl B1.out).mono ?_
  rintro e w2 ⟨rfl, F2, B2⟩
  go_wp2_with fail
  refine (set_val b c 70 g1 g2 69 true w2 (by decide) rfl B2.out).mono ?_
  rintro e w3 ⟨rfl, F3, B3⟩
  go_wp2_with fail
  refine (set_val b c 70 g2 g3 70 false w3 (by decide) rfl B3.out).mono ?_
  rintro e w4 ⟨rfl, F4, B4⟩
  go_wp2_with fail
  refine (set_val b c 70 g3 g4 0 false w4 (by decide) rfl B4.out).mono ?_
  rintro e w5 ⟨rfl, F5, B5⟩
  have F := ((((F1.out.own F2.out (by have := Hc.out; omega)).own F3.out (by have := Hc.out; omega)).own F4.out (by have := Hc.out; omega)).own F5.out (by have := Hc.out; omega))
  have T5 := Lib.hid (hT.out.keep F (fun x => x))
  have HF := Lib.hid F
  clear F
  go_wp2_with fail
  refine (low_val b c 70 1 g4 true w5 low_g4 B5.out T5.out).mono ?_
  rintro e w' ⟨rfl, rfl⟩
  go_wp2_with fail
  refine (count_val b c 70 2 g4 w5 (by decide +kernel) B5.out).mono ?_
  rintro e w' ⟨rfl, rfl⟩
  go_wp2_with fail
  refine (size_any b c 70 g4 w5 B5.out).mono ?_
  rintro e w' ⟨rfl, rfl⟩
  go_wp2_with fail
  refine (has_val b c 70 g4 69 true w5 (by decide) B5.out).mono ?_
  rintro e w6 ⟨rfl, F6⟩
  go_wp2_with fail
  go_ret
  exact ⟨rfl, HF.out.then F6.out⟩
end Go.Proofs.YtdbfmckikmddcaaDoor
