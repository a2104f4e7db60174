/- Put and Same, as the laws call them. -/
import Derived.Test.YtfjddfcndammdaaMgs
import Derived.Test.YtfjddfcndammdaaWc
namespace Go.Proofs.Ytfjddfcndammdaa
open Go.RowKit

mutual
theorem put_parts {L : List T} {c : Nat} (hc : 1 ≤ c) (hL : ∀ x ∈ L, parts x ≤ c) : ∀ t : T, parts (putT L t) ≤ c * parts t
  | .mk k s n r => by
    by_cases h : k = 1 ∧ 0 ≤ n ∧ n < L.length
    · obtain ⟨rfl, h0, h1⟩ := h
      rw [put_var h0 h1, atL]
      have h2 : n.toNat < L.length := by omega
      have h3 := hL (L[n.toNat]) (List.getElem_mem h2)
      have h4 : L.getD n.toNat zeroT = L[n.toNat] := by simp [List.getD, List.getElem?_eq_getElem h2]
      rw [h4]
      have h5 : c * 1 ≤ c * parts (T.mk 1 s n r) := Nat.mul_le_mul_left c (parts_pos _)
      omega
    · rw [putT, if_neg h]
      have := put_partsL hc hL r
      simp only [parts, Nat.mul_add]
      omega
theorem put_partsL {L : List T} {c : Nat} (hc : 1 ≤ c) (hL : ∀ x ∈ L, parts x ≤ c) : ∀ r : List T, partsL (putL L r) ≤ c * partsL r
  | [] => by simp [putL, partsL]
  | t :: r => by
    have h1 := put_parts hc hL t
    have h2 := put_partsL hc hL r
    simp only [putL, partsL, Nat.mul_add]
    omega
end
theorem rput_ok (B0 : Nat) (ok : Nat → Prop) (l : List T) (m cap : Nat) (a : Option Addr) (hl : l.length = m) (hm : m ≤ 1152921504606846976) (t : T) (ht : parts t ≤ 1048576) (v : Value) (w : World) (hi : Is B0 ok w t v) (hrow : Row B0 ok w a 0 l) :
    Calls Try.prog 15 #[v, .slice a m cap] w fun e w' => ∃ v', e = .returned v' ∧ IsT B0 w' (putT l t) v' ∧ Fr No w w' :=
  (rput_any B0 w.heap.size l m cap a hl hm (parts t) t (Nat.le_refl _) ht v w ((is_lt t v hi).mono (fun _ h => h.2)) (Row.keep (fun _ _ _ _ => rfl) (fun _ h => h.2) a 0 l (row_lt a 0 l hrow)) (Nat.le_refl _)).mono fun _ _ ⟨v', h1, h2, h3⟩ => ⟨v', h1, h2.mono fun _ _ => trivial, h3⟩
theorem rsame_ok (s t : T) (hs : parts s ≤ 1048576) (ht : parts t ≤ 1048576) (B : Nat) (ok : Nat → Prop) (B1 : Nat) (ok1 : Nat → Prop) (v v2 : Value) (w : World) (hi : Is B ok w s v) (hi2 : Is B1 ok1 w t v2) : Calls Try.prog 13 #[v, v2] w (SaidT w (same s t)) :=
  rsame_any (parts s) s (Nat.le_refl _) (by omega) t (by omega) B ok v B1 ok1 v2 w hi hi2
theorem same_self (t : T) : same t t = true := (same_iff t t).2 rfl
theorem mark0 (base g many : Nat) (w : World) (hb : Bk base w g many []) : Calls Try.prog 12 #[.pointer (some ⟨g, 0, none⟩)] w (SaidI w 0) := mark_any base g many [] (by decide) w hb
theorem markN (base g many : Nat) (l : Bs) (hb : Bd many l) (w : World) (h : Bk base w g many l) : Calls Try.prog 12 #[.pointer (some ⟨g, 0, none⟩)] w (SaidI w l.length) :=
  mark_any base g many l (by have := hb.wf.len; have := hb.wf.fine.small; omega) w h
theorem u8_wf {x : Int} (h : (Lit.int .u8 x).wf = true) : ∃ n : Nat, x = n ∧ n < 256 := by
  have h2 : IntKind.u8.min ≤ x ∧ x ≤ IntKind.u8.max := by simpa [Lit.wf] using h
  have h3 : IntKind.u8.min = 0 := rfl
  have h4 : IntKind.u8.max = 255 := rfl
  exact ⟨x.toNat, by omega, by omega⟩
end Go.Proofs.Ytfjddfcndammdaa
