/- Numbers, each another one: what Check says of them. Plain. -/
import Derived.Test.YthjecikdkdjlaaaPs
import Derived.Test.YthjecikdkdjlaaaWw
namespace Go.Proofs.Ythjecikdkdjlaaa
open Go.RowKit

def intP (i : Int) : T := .mk 3 ⟨#[]⟩ i []
def ints (n : Nat) : List T := (List.range n).map fun (i : Nat) => intP ((i : Int) - 100)
theorem ints_succ (n : Nat) : ints (n + 1) = ints n ++ [intP ((n : Int) - 100)] := by simp [ints, List.range_succ]
theorem ints_len (n : Nat) : (ints n).length = n := by simp [ints]
theorem mem_ints {n : Nat} {t : T} : t ∈ ints n ↔ ∃ i, i < n ∧ t = intP ((i : Int) - 100) := by
  simp only [ints, List.mem_map, List.mem_range]
  exact exists_congr fun i => and_congr Iff.rfl eq_comm
theorem ints_at {n i : Nat} (h : i < n) : (ints n)[i]? = some (intP ((i : Int) - 100)) := by simp [ints, List.getElem?_range h]
theorem partsL_ints : ∀ n : Nat, partsL (ints n) = n
  | 0 => rfl
  | n + 1 => by
    rw [ints_succ, partsL_append, partsL_ints n]
    rfl
/-- numbers alone, or a wild one behind them -/
def Nums (l : List T) : Prop := ∀ t ∈ l, t = anyP ∨ ∃ i, t = intP i
theorem nums_ints (n : Nat) : Nums (ints n) := fun t h => by
  obtain ⟨i, _, rfl⟩ := mem_ints.1 h
  exact .inr ⟨_, rfl⟩
theorem Nums.append {l m : List T} (h : Nums l) (k : Nums m) : Nums (l ++ m) := fun t ht => by
  rcases List.mem_append.1 ht with ht | ht
  · exact h t ht
  · exact k t ht
theorem nums_any : Nums [anyP] := fun t h => .inl (List.mem_singleton.1 h)
theorem nums_one (i : Int) : Nums [intP i] := fun t h => .inr ⟨i, List.mem_singleton.1 h⟩
theorem nums_unk {l : List T} (h : Nums l) : unkL [] l = false := by
  rw [unkL_any, List.any_eq_false]
  intro t ht
  rcases h t ht with rfl | ⟨i, rfl⟩ <;> simp [unkT, anyP, intP, unkL]
theorem nums_fits {l : List T} (h : Nums l) : fitsL [] l = true := by
  rw [fitsL_iff]
  refine ⟨fun p hp => ?_, fun p hp q hq wp wq => ?_, fun q hq wq k hk => ?_⟩
  · rcases h p hp with rfl | ⟨i, rfl⟩ <;> rfl
  · rcases h p hp with rfl | ⟨i, rfl⟩
    · rw [anyP_wild] at wp; cases wp
    · rcases h q hq with rfl | ⟨j, rfl⟩
      · rw [anyP_wild] at wq; cases wq
      · rfl
  · rcases h q hq with rfl | ⟨i, rfl⟩
    · rw [anyP_wild] at wq; cases wq
    · exact absurd hk (Nat.not_lt_zero _)
theorem intP_not (i : Int) : isWild (intP i) = false := rfl
theorem hd_intP {i j : Int} : hdOf [] (intP i) = hdOf [] (intP j) ↔ i = j := by
  constructor
  · intro h
    exact congrArg Hd.num h
  · rintro rfl
    rfl
theorem use_int_new {l : List T} {i : Int} (h : ∀ t ∈ l, ∃ j, t = intP j ∧ j ≠ i) : useW [] (l.map one) [intP i] = true := by
  rw [useW_cons, if_neg (by rw [intP_not]; exact Bool.false_ne_true)]
  have e : allInto [] (intP i) (l.map one) = [] := by
    rw [allInto, List.filterMap_eq_nil_iff]
    intro r hr
    obtain ⟨t, ht, rfl⟩ := List.mem_map.1 hr
    obtain ⟨j, rfl, hj⟩ := h t ht
    simp only [one, into, intP_not, Bool.false_eq_true, if_false]
    rw [if_neg (fun e => hj (hd_intP.1 e))]
  rw [e]
  exact useW_nil _ _
theorem use_int_old {l : List T} {i : Int} (h : intP i ∈ l) : useW [] (l.map one) [intP i] = false := by
  rw [useW_cons, if_neg (by rw [intP_not]; exact Bool.false_ne_true)]
  have e : ([] : List T) ∈ allInto [] (intP i) (l.map one) := mem_allInto.2 ⟨[intP i], List.mem_map.2 ⟨_, h, rfl⟩, (into_not (intP_not i)).2 ⟨rfl, rfl⟩⟩
  show useW [] (allInto [] (intP i) (l.map one)) [] = false
  rw [useW_nil]
  cases hh : allInto [] (intP i) (l.map one) with
  | nil => rw [hh] at e; cases e
  | cons _ _ => rfl
theorem use_ints_any (n : Nat) : useW [] ((ints n).map one) [anyP] = true := by
  rw [useW_cons, if_pos anyP_wild]
  have e1 : whole [] (firsts [] ((ints n).map one)) = false := by
    cases h : firsts [] ((ints n).map one) with
    | nil => rfl
    | cons q l =>
      obtain ⟨_, r, hr⟩ := firsts_mem (is := []) (rows := (ints n).map one) (q := q) (by rw [h]; simp)
      obtain ⟨t, ht, e⟩ := List.mem_map.1 hr
      obtain ⟨i, _, rfl⟩ := mem_ints.1 ht
      cases e
      rfl
  have e2 : restRows ((ints n).map one) = [] := by
    cases h : restRows ((ints n).map one) with
    | nil => rfl
    | cons x l =>
      have hx : x ∈ restRows ((ints n).map one) := by rw [h]; simp
      obtain ⟨p, hp, hm⟩ := mem_rest.1 hx
      obtain ⟨t, ht, e⟩ := List.mem_map.1 hm
      obtain ⟨i, _, rfl⟩ := mem_ints.1 ht
      cases e
      cases hp
  rw [e1, e2]
  simp only [Bool.false_eq_true, if_false]
  exact useW_nil _ _
theorem allUse_ints : ∀ n : Nat, allUse [] [] (ints n) = true
  | 0 => rfl
  | n + 1 => by
    rw [ints_succ, allUse_snoc, allUse_ints n, Bool.true_and, List.nil_append]
    refine use_int_new fun t ht => ?_
    obtain ⟨i, hi, rfl⟩ := mem_ints.1 ht
    exact ⟨_, rfl, by omega⟩
theorem many_deep {n : Nat} (h : 200 < n) (wh : Bool) : checkP [] (ints n) wh = 16 := by
  unfold checkP
  rw [partsL_ints, if_pos h]
theorem many_all {n : Nat} (h : n ≤ 200) : checkP [] (ints n) false = 0 ∧ checkP [] (ints n) true = 14 := by
  have hp : partsL (ints n) ≤ 200 := by rw [partsL_ints]; exact h
  rw [checkP_good false hp (nums_unk (nums_ints n)) (nums_fits (nums_ints n)), checkP_good true hp (nums_unk (nums_ints n)) (nums_fits (nums_ints n)), allUse_ints, use_ints_any]
  exact ⟨rfl, rfl⟩
theorem many_twice {n k : Nat} (h : n < 200) (hk : k < n) : checkP [] (ints n ++ [intP ((k : Int) - 100)]) false = 14 := by
  have hN := (nums_ints n).append (nums_one ((k : Int) - 100))
  have hp : partsL (ints n ++ [intP ((k : Int) - 100)]) = n + 1 := by
    rw [partsL_append, partsL_ints]
    rfl
  rw [checkP_good false (by omega) (nums_unk hN) (nums_fits hN), allUse_snoc, List.nil_append, use_int_old (mem_ints.2 ⟨k, hk, rfl⟩), Bool.and_false]
  rfl
theorem many_wild {n : Nat} (h : n < 200) : checkP [] (ints n ++ [anyP]) true = 0 := by
  have hN := (nums_ints n).append nums_any
  have hp : partsL (ints n ++ [anyP]) = n + 1 := by
    rw [partsL_append, partsL_ints]
    rfl
  have hnu : useW [] ((ints n ++ [anyP]).map one) [anyP] = false := not_useful _ _ _ _ (Nat.lt_succ_self _) ⟨[anyP], by simp [one], rfl, fun p hp => by rw [List.mem_singleton.1 hp]; exact anyP_wild⟩
  rw [checkP_good true (by omega) (nums_unk hN) (nums_fits hN), allUse_snoc, List.nil_append, use_ints_any, allUse_ints, hnu]
  rfl
theorem wf_int {i : Int} (h : -1000 ≤ i ∧ i ≤ 1000) : wfP [] (intP i) := by
  refine wfP_mk (by omega) (by unfold maxLen; show 0 ≤ _; omega) ?_ (by simp) (fun s => by unfold maxLen; show 0 ≤ _; omega) trivial
  have e1 : IntKind.i64.min = -9223372036854775808 := rfl
  have e2 : IntKind.i64.max = 9223372036854775807 := rfl
  simp only [Lit.wf, e1, e2]
  simp
  omega
theorem wf_any0 : wfP [] anyP := wfP_mk (by omega) (by unfold maxLen; show 0 ≤ _; omega) (by decide) (by simp) (fun s => by unfold maxLen; show 0 ≤ _; omega) trivial
theorem wf_ints {n : Nat} (h : n ≤ 256) : wfL [] (ints n) := wfL_mem.2 fun p hp => by
  obtain ⟨i, hi, rfl⟩ := mem_ints.1 hp
  exact wf_int (by omega)
theorem wfL_app {is : List Inf} {l m : List T} (h : wfL is l) (k : wfL is m) : wfL is (l ++ m) := wfL_mem.2 fun p hp => by
  rcases List.mem_append.1 hp with hp | hp
  · exact wfL_mem.1 h p hp
  · exact wfL_mem.1 k p hp
end Go.Proofs.Ythjecikdkdjlaaa
