/- Values in memory; the values that may stand at a place. -/
import Derived.Test.YthjecikdkdjlaaaVq
import Derived.Test.YthjecikdkdjlaaaAn
namespace Go.Proofs.Ythjecikdkdjlaaa
open Go.RowKit

mutual
/-- a value in memory; the blocks of rows meet 'ok' -/
def IsV (ok : Nat → Prop) (w : World) : V → Value → Prop
  | .mk s n l, v => ∃ a c, v = .agg #[.string s, .int .i64 n, .slice a l.length c] ∧ (a = none → c = 0 ∧ l = []) ∧ RowW ok w a 0 l
/-- a row of values, from place i on -/
def RowW (ok : Nat → Prop) (w : World) (a : Option Addr) : Nat → List V → Prop
  | _, [] => True
  | i, t :: r => (∃ g off c0 c1 c2, a = some ⟨g, off, none⟩ ∧ ok g ∧ w.cell? ⟨g, off + i * 3, none⟩ = some c0 ∧ w.cell? ⟨g, off + i * 3 + 1, none⟩ = some c1 ∧ w.cell? ⟨g, off + i * 3 + 2, none⟩ = some c2 ∧ IsV ok w t (.agg #[c0, c1, c2])) ∧ RowW ok w a (i + 1) r
end
mutual
theorem IsV.keep {ok ok' : Nat → Prop} {w w' : World} (hs : ∀ b, b < w.heap.size → ok b → w'.heap[b]? = w.heap[b]? ∧ ok' b) : ∀ (t : V) (v : Value), IsV ok w t v → IsV ok' w' t v
  | .mk s n l, v, h => by
    simp only [IsV] at h ⊢
    obtain ⟨a, c, e, h1, hr⟩ := h
    exact ⟨a, c, e, h1, RowW.keep hs a 0 l hr⟩
theorem RowW.keep {ok ok' : Nat → Prop} {w w' : World} (hs : ∀ b, b < w.heap.size → ok b → w'.heap[b]? = w.heap[b]? ∧ ok' b) (a : Option Addr) : ∀ (i : Nat) (l : List V), RowW ok w a i l → RowW ok' w' a i l
  | _, [], _ => by simp [RowW]
  | i, t :: r, h => by
    simp only [RowW] at h ⊢
    obtain ⟨⟨g, off, c0, c1, c2, e, ho, h0, h1, h2, ht⟩, hr⟩ := h
    obtain ⟨hk, ho'⟩ := hs g (World.block_lt_of_cell? w _ h0) ho
    exact ⟨⟨g, off, c0, c1, c2, e, ho', (World.cell?_of_block hk).trans h0, (World.cell?_of_block hk).trans h1, (World.cell?_of_block hk).trans h2, IsV.keep hs t _ ht⟩, RowW.keep hs a (i + 1) r hr⟩
end
theorem IsV.no {ok : Nat → Prop} {w w' : World} {t : V} {v : Value} (h : IsV ok w t v) (hf : Fr No w w') : IsV ok w' t v := h.keep (fun b hb ho => ⟨hf.block b hb no_one, ho⟩)
theorem RowW.no {ok : Nat → Prop} {w w' : World} {a : Option Addr} {l : List V} (h : RowW ok w a 0 l) (hf : Fr No w w') : RowW ok w' a 0 l := h.keep (fun b hb ho => ⟨hf.block b hb no_one, ho⟩) a 0 l
theorem IsV.mono {ok ok' : Nat → Prop} {w : World} {t : V} {v : Value} (h : IsV ok w t v) (ho : ∀ b, b < w.heap.size → ok b → ok' b) : IsV ok' w t v := h.keep (fun b hb hk => ⟨rfl, ho b hb hk⟩)
theorem RowW.mono {ok ok' : Nat → Prop} {w : World} {a : Option Addr} {l : List V} (h : RowW ok w a 0 l) (ho : ∀ b, b < w.heap.size → ok b → ok' b) : RowW ok' w a 0 l := h.keep (fun b hb hk => ⟨rfl, ho b hb hk⟩) a 0 l
theorem RowW.at_ {ok : Nat → Prop} {w : World} {a : Option Addr} : ∀ (i : Nat) (l : List V), RowW ok w a i l → ∀ (j : Nat) (t : V), l[j]? = some t →
    ∃ g off c0 c1 c2, a = some ⟨g, off, none⟩ ∧ ok g ∧ w.cell? ⟨g, off + (i + j) * 3, none⟩ = some c0 ∧ w.cell? ⟨g, off + (i + j) * 3 + 1, none⟩ = some c1 ∧ w.cell? ⟨g, off + (i + j) * 3 + 2, none⟩ = some c2 ∧ IsV ok w t (.agg #[c0, c1, c2])
  | _, [], _, j, t, h => by simp at h
  | i, x :: r, h, 0, t, hj => by
    simp only [RowW] at h
    simp only [List.getElem?_cons_zero, Option.some.injEq] at hj
    subst hj
    exact h.1
  | i, x :: r, h, j + 1, t, hj => by
    simp only [RowW] at h
    have := RowW.at_ (i + 1) r h.2 j t (by simpa using hj)
    rw [show i + (j + 1) = i + 1 + j by omega]
    exact this
theorem RowW.of_at {ok : Nat → Prop} {w : World} {a : Option Addr} : ∀ (i : Nat) (l : List V), (∀ (j : Nat) (t : V), l[j]? = some t →
    ∃ g off c0 c1 c2, a = some ⟨g, off, none⟩ ∧ ok g ∧ w.cell? ⟨g, off + (i + j) * 3, none⟩ = some c0 ∧ w.cell? ⟨g, off + (i + j) * 3 + 1, none⟩ = some c1 ∧ w.cell? ⟨g, off + (i + j) * 3 + 2, none⟩ = some c2 ∧ IsV ok w t (.agg #[c0, c1, c2])) → RowW ok w a i l
  | _, [], _ => by simp [RowW]
  | i, t :: r, h => by
    simp only [RowW]
    refine ⟨h 0 t rfl, RowW.of_at (i + 1) r fun j t hj => ?_⟩
    have := h (j + 1) t (by simpa using hj)
    rw [show i + (j + 1) = i + 1 + j by omega] at this
    exact this
theorem isV_cells {ok : Nat → Prop} {w : World} {t : V} {x0 x1 x2 : Value} (h : IsV ok w t (.agg #[x0, x1, x2])) : ∃ (s : ByteArray) (n : Int) (a : Option Addr) (m c : Nat) (l : List V), x0 = .string s ∧ x1 = .int .i64 n ∧ x2 = .slice a m c ∧ t = .mk s n l ∧ l.length = m ∧ (a = none → c = 0 ∧ l = []) ∧ RowW ok w a 0 l := by
  cases t with
  | mk s n l =>
    simp only [IsV] at h
    obtain ⟨a, c, e, h1, h2⟩ := h
    simp only [Value.agg.injEq, Array.mk.injEq, List.cons.injEq, and_true] at e
    obtain ⟨rfl, rfl, rfl⟩ := e
    exact ⟨s, n, a, l.length, c, l, rfl, rfl, rfl, rfl, rfl, h1, h2⟩
theorem isV_leaf {ok : Nat → Prop} {w : World} (s : ByteArray) (n : Int) : IsV ok w (.mk s n []) (.agg #[.string s, .int .i64 n, .slice none 0 0]) := by
  simp only [IsV]
  exact ⟨none, 0, rfl, by simp, by simp [RowW]⟩
theorem isV_row {ok : Nat → Prop} {w : World} {g off m c : Nat} {l : List V} (s : ByteArray) (n : Int) (h : RowW ok w (some ⟨g, off, none⟩) 0 l) (hm : l.length = m) : IsV ok w (.mk s n l) (.agg #[.string s, .int .i64 n, .slice (some ⟨g, off, none⟩) m c]) := by
  simp only [IsV]
  exact ⟨some ⟨g, off, none⟩, c, by rw [hm], (fun e => nomatch e), h⟩
/-- a row in a block of its own -/
theorem rowW_lits {ok : Nat → Prop} {w : World} {g : Nat} {cs : Array Value} (ps : List V) (hb : w.heap[g]? = some (.cells cs 36 (0, 0))) (hok : ok g)
    (h : ∀ (j : Nat) (t : V), ps[j]? = some t → ∃ c0 c1 c2, cs[j * 3]? = some c0 ∧ cs[j * 3 + 1]? = some c1 ∧ cs[j * 3 + 2]? = some c2 ∧ IsV ok w t (.agg #[c0, c1, c2])) : RowW ok w (some ⟨g, 0, none⟩) 0 ps :=
  RowW.of_at 0 ps fun j t hj => by
    obtain ⟨c0, c1, c2, h0, h1, h2, h3⟩ := h j t hj
    refine ⟨g, 0, c0, c1, c2, rfl, hok, ?_, ?_, ?_, h3⟩ <;> rw [Nat.zero_add, Nat.zero_add, cell_of hb] <;> assumption
def tyOf (k : Nat) : Ty0 := if k % 4 = 0 then .b else if k % 4 = 1 then .n else if k % 4 = 2 then .o else .e
set_option maxHeartbeats 1000000 in
theorem values_any (k : Nat) (hk : k ≤ 255) (w : World) : Calls Try.prog 13 #[.int .u8 k] w fun e w' => Fr No w w' ∧ ∃ g n, e = .returned (.slice (some ⟨g, 0, none⟩) n n) ∧ (vals0 (tyOf k)).length = n ∧ n ≤ 4 ∧ RowW (fun b => w.heap.size ≤ b) w' (some ⟨g, 0, none⟩) 0 (vals0 (tyOf k)) := by
  have hm : Int.tmod (k : Int) 4 = ((k % 4 : Nat) : Int) := rfl
  have hw : ∀ q : Nat, q < 4 → IntKind.u8.wrap (q : Int) = (q : Int) := fun q hq => by rw [IntKind.wrap_u8]; omega
  obtain ⟨T, hT⟩ : ∃ T, tyOf k = T := ⟨_, rfl⟩
  rw [hT]
  have hT := Lib.hid hT
  have h4 : k % 4 = 0 ∨ k % 4 = 1 ∨ k % 4 = 2 ∨ k % 4 = 3 := by omega
  rcases h4 with h | h | h | h
  · obtain rfl : T = .b := by rw [← hT.out, tyOf, if_pos h]
    rw [h] at hm
    have hm0 : Int.tmod (k : Int) 4 = 0 := hm
    clear h hm hw hT
    go_enter Try.func13, Try.ntmps13
    go_wp2_with fail
    go_ret
    refine ⟨Fr.alloc w _, _, _, rfl, rfl, by omega, rowW_lits _ (new_block w _) (Nat.le_refl _) fun j t hj => ?_⟩
    have hj2 : j < 2 := (List.getElem?_eq_some_iff.1 hj).1
    have h2 : j = 0 ∨ j = 1 := by omega
    rcases h2 with rfl | rfl <;> (cases hj; exact ⟨_, _, _, rfl, rfl, rfl, isV_leaf _ _⟩)
  · obtain rfl : T = .n := by rw [← hT.out, tyOf, if_neg (by omega), if_pos h]
    rw [h] at hm
    have hm0 : Int.tmod (k : Int) 4 = 1 := hm
    clear h hm hw hT
    go_enter Try.func13, Try.ntmps13
    go_wp2_with fail
    go_ret
    refine ⟨Fr.alloc w _, _, _, rfl, rfl, by omega, rowW_lits _ (new_block w _) (Nat.le_refl _) fun j t hj => ?_⟩
    have hj2 : j < 4 := (List.getElem?_eq_some_iff.1 hj).1
    have h2 : j = 0 ∨ j = 1 ∨ j = 2 ∨ j = 3 := by omega
    rcases h2 with rfl | rfl | rfl | rfl <;> (cases hj; exact ⟨_, _, _, rfl, rfl, rfl, isV_leaf _ _⟩)
  · obtain rfl : T = .o := by rw [← hT.out, tyOf, if_neg (by omega), if_neg (by omega), if_pos h]
    rw [h] at hm
    have hm0 : Int.tmod (k : Int) 4 = 2 := hm
    clear h hm hw hT
    go_enter Try.func13, Try.ntmps13
    go_wp2_with fail
    go_ret
    have r1 := new_block w (.cells #[.string ⟨#[102, 97, 108, 115, 101]⟩, .int .i64 0, .slice none 0 0] 36)
    obtain ⟨w1, hw1⟩ : ∃ w1, w.alloc (.cells #[.string ⟨#[102, 97, 108, 115, 101]⟩, .int .i64 0, .slice none 0 0] 36) = w1 := ⟨_, rfl⟩
    have e1 : w1.heap.size = w.heap.size + 1 := by rw [← hw1]; exact size_alloc _ _
    have f1 : Fr No w w1 := by rw [← hw1]; exact Fr.alloc _ _
    rw [hw1] at r1 ⊢
    rw [← e1]
    have r2 := new_block w1 (.cells #[.string ⟨#[116, 114, 117, 101]⟩, .int .i64 0, .slice none 0 0] 36)
    obtain ⟨w2, hw2⟩ : ∃ w2, w1.alloc (.cells #[.string ⟨#[116, 114, 117, 101]⟩, .int .i64 0, .slice none 0 0] 36) = w2 := ⟨_, rfl⟩
    have e2 : w2.heap.size = w1.heap.size + 1 := by rw [← hw2]; exact size_alloc _ _
    have f2 : Fr No w1 w2 := by rw [← hw2]; exact Fr.alloc _ _
    rw [hw2] at r2 ⊢
    rw [← e2]
    have f3 := Fr.alloc w2 (.cells #[.string ⟨#[78, 111, 110, 101]⟩, .int .i64 0, .slice none 0 0, .string ⟨#[83, 111, 109, 101]⟩, .int .i64 0, .slice (some ⟨w.heap.size, 0, none⟩) 1 1, .string ⟨#[83, 111, 109, 101]⟩, .int .i64 0, .slice (some ⟨w1.heap.size, 0, none⟩) 1 1] 36)
    refine ⟨(f1.then f2).then f3, _, _, rfl, rfl, by omega, rowW_lits _ (new_block w2 _) (Nat.le_trans f1.size f2.size) fun j t hj => ?_⟩
    have hj2 : j < 3 := (List.getElem?_eq_some_iff.1 hj).1
    have h2 : j = 0 ∨ j = 1 ∨ j = 2 := by omega
    have row1 : ∀ {g : Nat} {s : ByteArray} {wz : World}, wz.heap[g]? = some (.cells #[.string s, .int .i64 0, .slice none 0 0] 36 (0, 0)) → w.heap.size ≤ g → RowW (fun b => w.heap.size ≤ b) wz (some ⟨g, 0, none⟩) 0 [.mk s 0 []] := fun h hb =>
      rowW_lits _ h hb fun j t hj => by
        have hj0 : j < 1 := (List.getElem?_eq_some_iff.1 hj).1
        obtain rfl : j = 0 := by omega
        cases hj
        exact ⟨_, _, _, rfl, rfl, rfl, isV_leaf _ _⟩
    rcases h2 with rfl | rfl | rfl <;> cases hj
    · exact ⟨_, _, _, rfl, rfl, rfl, isV_leaf _ _⟩
    · exact ⟨_, _, _, rfl, rfl, rfl, isV_row _ _ (row1 ((f2.then f3).keeps r1 no_one) (Nat.le_refl _)) rfl⟩
    · exact ⟨_, _, _, rfl, rfl, rfl, isV_row _ _ (row1 (f3.keeps r2 no_one) f1.size) rfl⟩
  · obtain rfl : T = .e := by rw [← hT.out, tyOf, if_neg (by omega), if_neg (by omega), if_neg (by omega)]
    rw [h] at hm
    have hm0 : Int.tmod (k : Int) 4 = 3 := hm
    clear h hm hw hT
    go_enter Try.func13, Try.ntmps13
    go_wp2_with fail
    go_ret
    refine ⟨Fr.alloc w _, _, _, rfl, rfl, by omega, rowW_lits _ (new_block w _) (Nat.le_refl _) fun j t hj => ?_⟩
    have hj2 : j < 3 := (List.getElem?_eq_some_iff.1 hj).1
    have h2 : j = 0 ∨ j = 1 ∨ j = 2 := by omega
    rcases h2 with rfl | rfl | rfl <;> (cases hj; exact ⟨_, _, _, rfl, rfl, rfl, isV_leaf _ _⟩)
end Go.Proofs.Ythjecikdkdjlaaa
