/- What an unknown comes to when applied; small lemmas for the law TypesBest. -/
import Derived.Test.YtfjddfcndammdaaMgr
namespace Go.Proofs.Ytfjddfcndammdaa
theorem applied_var {many : Nat} {l : Bs} {i : Int} {x : T} (h : Applied many l (varT i) x) : parts x ≤ 1000 := by
  rcases h with ⟨_, rfl⟩ | ⟨_, F, y, _, ⟨_, rfl⟩ | ⟨hg, rfl⟩⟩
  · simp [varT, parts, partsL]
  · simp [zeroT, parts, partsL]
  · simp only [greatT, fitB, Bool.not_eq_false', Bool.and_eq_true, decide_eq_true_eq] at hg
    omega
theorem atL_get {L : List T} {i : Nat} {y : T} (h : L[i]? = some y) : atL L i = y := by
  unfold atL
  rw [Int.toNat_natCast, List.getD, h]
  rfl
theorem is_kind {B0 : Nat} {ok : Nat → Prop} {w : World} {t : T} {k : Nat} {s : ByteArray} {n : Int} {a : Option Addr} {m c : Nat} (h : Is B0 ok w t (.agg #[.int .u8 k, .string s, .int .i64 n, .slice a m c])) : t.kind = k := by
  obtain ⟨k1, s1, n1, l1⟩ := t
  simp only [Is] at h
  obtain ⟨a1, c1, e, _⟩ := h
  simp only [Value.agg.injEq, Array.mk.injEq, List.cons.injEq, Value.int.injEq, true_and] at e
  show k1 = k
  omega
end Go.Proofs.Ytfjddfcndammdaa
