/- Rows of values and of patterns that the law makes. -/
import Derived.Test.YthjecikdkdjlaaaGn
import Derived.Test.YthjecikdkdjlaaaVb
import Derived.Test.YthjecikdkdjlaaaVc
import Derived.Laws.OwnMore
namespace Go.Proofs.Ythjecikdkdjlaaa
open Go.RowKit

def RV (ok : Nat → Prop) (w : World) (t : V) (c : List Value) : Prop := IsV ok w t (.agg c.toArray)
def RT (ok : Nat → Prop) (w : World) (t : T) (c : List Value) : Prop := Is 0 ok w t (.agg c.toArray)
theorem keptV : Kept RV := ⟨fun hs t _ h => IsV.keep hs t _ h⟩
mutual
theorem isT_keep2 {ok ok' : Nat → Prop} {w w' : World} (hs : ∀ b, b < w.heap.size → ok b → w'.heap[b]? = w.heap[b]? ∧ ok' b) : ∀ (t : T) (v : Value), Is 0 ok w t v → Is 0 ok' w' t v
  | .mk k s n l, v, h => by
    simp only [Is] at h ⊢
    obtain ⟨a, cap, e, hr⟩ := h
    exact ⟨a, cap, e, rowT_keep2 hs a 0 l hr⟩
theorem rowT_keep2 {ok ok' : Nat → Prop} {w w' : World} (hs : ∀ b, b < w.heap.size → ok b → w'.heap[b]? = w.heap[b]? ∧ ok' b) (a : Option Addr) : ∀ (i : Nat) (l : List T), Row 0 ok w a i l → Row 0 ok' w' a i l
  | _, [], _ => by simp [Row]
  | i, t :: r, h => by
    simp only [Row] at h ⊢
    obtain ⟨⟨b, off, c0, c1, c2, c3, e, hok, hb, h0, h1, h2, h3, ht⟩, hr⟩ := h
    obtain ⟨hk, ho'⟩ := hs b (World.block_lt_of_cell? w _ h0) hok
    refine ⟨⟨b, off, c0, c1, c2, c3, e, ho', ?_, (World.cell?_of_block hk).trans h0, (World.cell?_of_block hk).trans h1, (World.cell?_of_block hk).trans h2, (World.cell?_of_block hk).trans h3, isT_keep2 hs t _ ht⟩, rowT_keep2 hs a (i + 1) r hr⟩
    rcases hb with hb | ⟨cs, z, hb⟩
    · exact absurd hb (Nat.not_lt_zero _)
    · exact .inr ⟨cs, z, hk.trans hb⟩
end
theorem keptT : Kept RT := ⟨fun hs t _ h => isT_keep2 hs t _ h⟩
theorem elem36 : ElemOk Try.prog 36 3 48 := ⟨⟨_, _, rfl, rfl, rfl, rfl, rfl⟩, by decide⟩
theorem elem40 : ElemOk Try.prog 40 4 56 := ⟨⟨_, _, rfl, rfl, rfl, rfl, rfl⟩, by decide⟩
abbrev VOut := OutG RV 36 3
abbrev TOut := OutG RT 40 4
theorem three_of {α : Type} {xs : List α} (h : xs.length = 3) : ∃ x0 x1 x2, xs = [x0, x1, x2] := by
  match xs, h with
  | [x0, x1, x2], _ => exact ⟨x0, x1, x2, rfl⟩
theorem rowW_of_out {ok ok' : Nat → Prop} {B : Nat} {w : World} {a : Option Addr} {n c : Nat} {l : List V} (h : VOut ok B w (.slice a n c) n l) (h1 : ∀ b, B ≤ b → b < w.heap.size → ok' b) (h2 : ∀ b, b < w.heap.size → ok b → ok' b) : RowW ok' w a 0 l :=
  RowW.of_at 0 l fun j t hj => by
    obtain ⟨g, cs, rfl, hB, hc, hcell, hr, cur, z, hb⟩ := h.at_ hj
    obtain ⟨c0, c1, c2, rfl⟩ := three_of hc
    rw [Nat.zero_add]
    exact ⟨g, 0, c0, c1, c2, rfl, h1 g hB (lt_of_block hb), by rw [Nat.zero_add]; exact hcell 0 _ rfl, by rw [Nat.zero_add]; exact hcell 1 _ rfl, by rw [Nat.zero_add]; exact hcell 2 _ rfl, IsV.mono hr (fun b hb ho => h2 b hb ho.1)⟩
theorem row_of_outT {ok ok' : Nat → Prop} {B : Nat} {w : World} {a : Option Addr} {n c : Nat} {l : List T} (h : TOut ok B w (.slice a n c) n l) (h1 : ∀ b, B ≤ b → b < w.heap.size → ok' b) (h2 : ∀ b, b < w.heap.size → ok b → ok' b) : Row 0 ok' w a 0 l :=
  Row.of_at 0 l fun j t hj => by
    obtain ⟨g, cs, rfl, hB, hc, hcell, hr, cur, z, hb⟩ := h.at_ hj
    obtain ⟨c0, c1, c2, c3, rfl⟩ := four_of hc
    rw [Nat.zero_add]
    exact ⟨g, 0, c0, c1, c2, c3, rfl, h1 g hB (lt_of_block hb), .inr ⟨cur, z, hb⟩, by rw [Nat.zero_add]; exact hcell 0 _ rfl, by rw [Nat.zero_add]; exact hcell 1 _ rfl, by rw [Nat.zero_add]; exact hcell 2 _ rfl, by rw [Nat.zero_add]; exact hcell 3 _ rfl, isT_keep2 (fun b hb ho => ⟨rfl, h2 b hb ho.1⟩) t _ hr⟩
theorem out_none {ok : Nat → Prop} {B : Nat} {w : World} {a : Option Addr} {n c : Nat} {l : List V} (h : VOut ok B w (.slice a n c) n l) : a = none → c = 0 ∧ l = [] := by
  intro e
  obtain ⟨h1, cs, _, _, hown, _⟩ := h
  rcases hown.2 with ⟨h2, h3⟩ | ⟨g, cap, cur, h2, _⟩
  · cases h2
    exact ⟨rfl, List.eq_nil_of_length_eq_zero h1⟩
  · cases h2
    cases e
theorem all_of {α β : Type} {P : α → β → Prop} : ∀ l : List α, (∀ t ∈ l, ∃ c, P t c) → ∃ cs : List β, cs.length = l.length ∧ ∀ (j : Nat) (t : α) (c : β), l[j]? = some t → cs[j]? = some c → P t c
  | [], _ => ⟨[], rfl, fun j t c h => by simp at h⟩
  | t :: l, h => by
    obtain ⟨c, hc⟩ := h t (List.mem_cons_self ..)
    obtain ⟨cs, h1, h2⟩ := all_of l (fun x hx => h x (List.mem_cons_of_mem _ hx))
    refine ⟨c :: cs, by simp [h1], fun j t' c' hj hc' => ?_⟩
    cases j with
    | zero =>
      simp only [List.getElem?_cons_zero, Option.some.injEq] at hj hc'
      subst hj hc'
      exact hc
    | succ j => exact h2 j t' c' (by simpa using hj) (by simpa using hc')
/-- a row of values, cell by cell -/
theorem cells_of_row {ok : Nat → Prop} {w : World} {b off : Nat} : ∀ (l : List V) (i : Nat), RowW ok w (some ⟨b, off, none⟩) i l →
    ∃ cs : List (List Value), cs.length = l.length ∧ (∀ c ∈ cs, c.length = 3) ∧ (∀ (j : Nat) (u : Value), cs.flatten[j]? = some u → w.cell? ⟨b, off + i * 3 + j, none⟩ = some u ∧ u.oneCell' = true) ∧ ∀ (j : Nat) (t : V) (c : List Value), l[j]? = some t → cs[j]? = some c → RV ok w t c
  | [], _, _ => ⟨[], rfl, (fun c h => absurd h List.not_mem_nil), (fun j u h => by simp at h), (fun j t c h => by simp at h)⟩
  | t :: r, i, h => by
    simp only [RowW] at h
    obtain ⟨⟨g, off', c0, c1, c2, e, ho, h0, h1, h2, ht⟩, hr⟩ := h
    cases e
    obtain ⟨cs, k1, k2, k3, k4⟩ := cells_of_row r (i + 1) hr
    obtain ⟨s, n, a, m, c, l', rfl, rfl, rfl, _⟩ := isV_cells ht
    refine ⟨[.string s, .int .i64 n, .slice a m c] :: cs, by simp [k1], fun x hx => ?_, fun j u hj => ?_, fun j t' c' hj hc => ?_⟩
    · rcases List.mem_cons.1 hx with rfl | hx
      · rfl
      · exact k2 x hx
    · rw [List.flatten_cons] at hj
      match j, hj with
      | 0, hj => cases hj; exact ⟨h0, rfl⟩
      | 1, hj => cases hj; exact ⟨h1, rfl⟩
      | 2, hj => cases hj; exact ⟨h2, rfl⟩
      | j + 3, hj =>
        have := k3 j u (by simpa using hj)
        rw [show off + (i + 1) * 3 + j = off + i * 3 + (j + 3) by omega] at this
        exact this
    · cases j with
      | zero =>
        simp only [List.getElem?_cons_zero, Option.some.injEq] at hj hc
        subst hj hc
        exact ht
      | succ j => exact k4 j t' c' (by simpa using hj) (by simpa using hc)
theorem size1_38 : ∃ i, Try.prog.info? 4 = some i ∧ i.zero = some (.bool false) ∧ i.size = 1 ∧ i.bytes = 1 := ⟨_, rfl, rfl, rfl, rfl⟩
theorem make38 (n : Nat) (hn : n ≤ 1048576) (u : World) : (Instr.makeSlice 38 (.int .i64 (n : Int)) (.int .i64 (n : Int))).run Try.prog u = .ok (.slice (some ⟨u.heap.size, 0, none⟩) n n) (u.alloc (.cells (Array.replicate n (Value.bool false)) 4)) := by
  obtain ⟨i0, hi, hz0, hz1, hz2⟩ := size1_38
  have h := run_make (P := Try.prog) u 38 4 i0 _ Try.underlying38 hi hz0 .i64 .i64 (n : Int) (n : Int) (by omega) (Int.le_refl _) (by rw [hz2]; omega) (by omega)
  simp only [Int.toNat_natCast] at h
  rw [h, hz1, Nat.mul_one]
  have e : madeCells (Value.bool false).cells n = Array.replicate n (Value.bool false) := Array.ext' (by
    rw [show (Value.bool false).cells = #[.bool false] from rfl, toList_madeCells_one, Array.toList_replicate])
  rw [e]
/-- values as the law lays them: behind so many rows -/
def allV (l : List Ty0) : List V := (prodV l).map tupV
theorem vals_len (x : Ty0) : (vals0 x).length ≤ 4 := by cases x <;> decide
theorem stepV_len (x : Ty0) : ∀ all : List (List V), (stepV all x).length ≤ all.length * 4
  | [] => Nat.le_refl _
  | ks :: r => by
    have h := stepV_len x r
    have h2 := vals_len x
    simp only [stepV, List.flatMap_cons, List.length_append, List.length_map, List.length_cons] at h ⊢
    omega
theorem prodV_len : ∀ (l : List Ty0), l.length ≤ 4 → (prodV l).length ≤ 256 := by
  have key : ∀ (l : List Ty0) (acc : List (List V)), (l.foldl stepV acc).length ≤ acc.length * 4 ^ l.length := by
    intro l
    induction l with
    | nil => intro acc; simp
    | cons x l ih =>
      intro acc
      rw [List.foldl_cons]
      refine Nat.le_trans (ih _) ?_
      have := Nat.mul_le_mul_right (4 ^ l.length) (stepV_len x acc)
      rw [List.length_cons, Nat.pow_succ]
      rw [Nat.mul_assoc, Nat.mul_comm 4] at this
      exact this
  intro l hl
  have h := key l [[]]
  have h4 : l.length = 0 ∨ l.length = 1 ∨ l.length = 2 ∨ l.length = 3 ∨ l.length = 4 := by omega
  unfold prodV
  rcases h4 with h4 | h4 | h4 | h4 | h4 <;> rw [h4] at h <;> simp at h <;> omega
end Go.Proofs.Ythjecikdkdjlaaa
namespace Go.Proofs.Ythjecikdkdjlaaa
open Go.RowKit
section
variable {α : Type} {R : (Nat → Prop) → World → α → List Value → Prop} {e k : Nat}
theorem OutG.old (hR : Kept R) {ok : Nat → Prop} {B : Nat} {w w' : World} {v : Value} {n : Nat} {l : List α} (h : OutG R e k ok B w v n l) (hf : Fr (fun b => w.heap.size ≤ b) w w') : OutG R e k ok B w' v n l := by
  obtain ⟨h1, cs, h2, h3, hown, h4⟩ := h
  refine ⟨h1, cs, h2, h3, owns_keep hown hf (fun b hb => ?_), fun j t c hj hc => hR.keep (fun b hb hk => ⟨hf.block b hb (by omega), hk⟩) t c (h4 j t c hj hc)⟩
  have := (owns_block hown hb).2
  omega
end
theorem Fr.oldV {w w' : World} (hf : Fr (fun b => w.heap.size ≤ b) w w') {ok : Nat → Prop} {t : V} {v : Value} (h : IsV ok w t v) : IsV (fun b => ok b ∧ b < w.heap.size) w' t v := h.keep fun b hb hk => ⟨hf.block b hb (by omega), hk, hb⟩
theorem Fr.oldW {w w' : World} (hf : Fr (fun b => w.heap.size ≤ b) w w') {ok : Nat → Prop} {a : Option Addr} {l : List V} (h : RowW ok w a 0 l) : RowW (fun b => ok b ∧ b < w.heap.size) w' a 0 l := h.keep (fun b hb hk => ⟨hf.block b hb (by omega), hk, hb⟩) a 0 l
theorem Fr.new {w w' : World} (h : Fr No w w') (B : Nat) : Fr (fun b => B ≤ b) w w' := h.mono fun _ _ h => False.elim h
theorem src_cells {ok : Nat → Prop} {w : World} {ao : Option Addr} {l : List V} (h : RowW ok w ao 0 l) :
    ∃ cs : List (List Value), cs.length = l.length ∧ (∀ c ∈ cs, c.length = 3) ∧ (∀ ad, ao = some ad → ∀ j u, cs.flatten[j]? = some u → w.cell? (ad.add j) = some u) ∧ (∀ u ∈ cs.flatten, u.oneCell' = true) ∧ ∀ (j : Nat) (t : V) (c : List Value), l[j]? = some t → cs[j]? = some c → RV ok w t c := by
  cases l with
  | nil => exact ⟨[], rfl, (fun c h => absurd h List.not_mem_nil), (fun ad _ j u h => by simp at h), (fun u h => by simp at h), (fun j t c h => by simp at h)⟩
  | cons t r =>
    obtain ⟨g, off, _, _, _, rfl, _⟩ := RowW.at_ 0 (t :: r) h 0 t rfl
    obtain ⟨cs, h1, h2, h3, h4⟩ := cells_of_row (t :: r) 0 h
    refine ⟨cs, h1, h2, fun ad e j u hj => ?_, fun u hu => ?_, h4⟩
    · cases e
      rw [addr_add]
      simpa using (h3 j u hj).1
    · obtain ⟨j, hj⟩ := List.getElem?_of_mem hu
      exact (h3 j u hj).2
/-- a row in memory as a value's kids -/
theorem isV_out {ok ok' : Nat → Prop} {B : Nat} {w : World} {a : Option Addr} {n c : Nat} {l : List V} (h : VOut ok B w (.slice a n c) n l) (h1 : ∀ b, B ≤ b → b < w.heap.size → ok' b) (h2 : ∀ b, b < w.heap.size → ok b → ok' b) : IsV ok' w (tupV l) (.agg #[.string ⟨#[]⟩, .int .i64 0, .slice a n c]) := by
  simp only [tupV, IsV]
  exact ⟨a, c, by rw [h.1], out_none h, rowW_of_out h h1 h2⟩
end Go.Proofs.Ythjecikdkdjlaaa
