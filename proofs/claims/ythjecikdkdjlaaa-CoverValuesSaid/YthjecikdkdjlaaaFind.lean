/- slices.IndexFunc, slices.ContainsFunc over rows of types: whatever function is handed in. -/
import Derived.Test.YthjecikdkdjlaaaBase
namespace Go.Proofs.Ythjecikdkdjlaaa
open Go.RowKit

/-- the first place at which p is true, and the state behind so many calls -/
def FirstAt (n : Nat) (p : Nat → Bool) (St : Nat → World → Prop) (i : Int) (w' : World) : Prop :=
  (i = -1 ∧ (∀ j, j < n → p j = false) ∧ St n w') ∨ (∃ j : Nat, i = j ∧ j < n ∧ p j = true ∧ (∀ k, k < j → p k = false) ∧ St (j + 1) w')
def FirstSaid (n : Nat) (p : Nat → Bool) (St : Nat → World → Prop) (e : Ending) (w' : World) : Prop := ∃ i : Int, e = .returned (.int .i64 i) ∧ FirstAt n p St i w' ∧ -1 ≤ i
def AnySaid (n : Nat) (p : Nat → Bool) (St : Nat → World → Prop) (e : Ending) (w' : World) : Prop := ∃ v : Bool, e = .returned (.bool v) ∧
  ((v = false ∧ (∀ j, j < n → p j = false) ∧ St n w') ∨ (v = true ∧ ∃ j : Nat, j < n ∧ p j = true ∧ (∀ k, k < j → p k = false) ∧ St (j + 1) w'))
/-- what the function that is handed in does, one element behind the other -/
def Tells (B0 : Nat) (ok : Nat → Prop) (l : List T) (g : FuncId) (caps : Array Value) (p : Nat → Bool) (St : Nat → World → Prop) : Prop :=
  ∀ (j : Nat) (t : T) (v : Value) (w1 : World), l[j]? = some t → (∀ k, k < j → p k = false) → St j w1 → Is B0 ok w1 t v →
    Calls Try.prog g (#[v] ++ caps) w1 fun e w2 => e = .returned (.bool (p j)) ∧ St (j + 1) w2

set_option maxHeartbeats 1000000 in
theorem indexFunc_any (B0 : Nat) (ok : Nat → Prop) (l : List T) (n cap : Nat) (a : Option Addr) (g : FuncId) (caps : Array Value) (p : Nat → Bool) (St : Nat → World → Prop) (w : World)
    (hl : Hid (l.length = n)) (hn : n ≤ 1152921504606846976) (hcf : ∀ (args : Array Value) (u : World), Sem.run Try.prog (callFunc g args) u = .ok (.enter g args) u)
    (hrow : Hid (∀ j w1, St j w1 → Row B0 ok w1 a 0 l)) (hg : Hid (Tells B0 ok l g caps p St)) (h0 : Hid (St 0 w)) :
    Calls Try.prog 42 #[.slice a n cap, .func (.func g) #[] caps] w (FirstSaid n p St) := by
  go_enter Try.func42, Try.ntmps42
  go_wp2_with fail
  go_loopw [8] (fun i wr => ∃ q : Nat, q ≤ n ∧ i = .int .i64 q ∧ Hid (St q wr ∧ ∀ k, k < q → p k = false)) (fun i _ => n - (intOf i).toNat)
  case atStart => exact ⟨0, Nat.zero_le _, rfl, Lib.hid ⟨h0.out, fun _ h => by omega⟩⟩
  case round =>
    obtain ⟨q, hq, rfl, HH⟩ := hrel
    by_cases hlt : q < n
    · obtain ⟨t, ht⟩ : ∃ t, l[q]? = some t := ⟨l[q]'(by have := hl.out; omega), List.getElem?_eq_getElem _⟩
      obtain ⟨b, off, c0, c1, c2, c3, rfl, _, _, h0, h1, h2, h3, hi⟩ := Row.at_ 0 l (hrow.out q wr HH.out.1) q t ht
      rw [Nat.zero_add] at h0 h1 h2 h3
      have hc := Lib.hid (hg.out q t _ wr ht HH.out.2 HH.out.1 hi)
      clear hi ht
      have k0 : (0 : Int) ≤ (q : Int) := by omega
      have k1 : (q : Int) < (n : Int) := by omega
      cases hp : p q
      · rw [hp] at hc
        have HP := Lib.hid hp
        clear hp
        go_wp2_with fail
        refine hc.out.mono ?_
        rintro e w2 ⟨rfl, hst⟩
        have HS := Lib.hid hst
        clear hst
        go_wp2_with fail
        refine ⟨⟨q + 1, by omega, by go_num, Lib.hid ⟨HS.out, fun k hk => ?_⟩⟩, by simp [intOf]; omega⟩
        by_cases e : k = q
        · rw [e]; exact HP.out
        · exact HH.out.2 k (by omega)
      · rw [hp] at hc
        have HP := Lib.hid hp
        clear hp
        go_wp2_with fail
        refine hc.out.mono ?_
        rintro e w2 ⟨rfl, hst⟩
        have HS := Lib.hid hst
        clear hst
        go_wp2_with fail
        go_ret
        exact ⟨q, rfl, .inr ⟨q, rfl, hlt, HP.out, HH.out.2, HS.out⟩, by omega⟩
    · go_wp2_with fail
      have e : q = n := by omega
      subst e
      go_ret
      exact ⟨-1, rfl, .inl ⟨rfl, HH.out.2, HH.out.1⟩, by omega⟩

set_option maxHeartbeats 1000000 in
theorem contains_of (v : Value) (g : FuncId) (caps : Array Value) (n : Nat) (p : Nat → Bool) (St : Nat → World → Prop) (w : World)
    (h : Hid (Calls Try.prog 42 #[v, .func (.func g) #[] caps] w (FirstSaid n p St))) :
    Calls Try.prog 24 #[v, .func (.func g) #[] caps] w (AnySaid n p St) := by
  go_enter Try.func24, Try.ntmps24
  go_wp2_with fail
  refine h.out.mono ?_
  rintro e w2 ⟨i, rfl, hi, hi2⟩
  by_cases h0 : 0 ≤ i
  · have HI := Lib.hid hi
    clear hi
    go_wp2_with fail
    go_ret
    refine ⟨true, rfl, .inr ⟨rfl, ?_⟩⟩
    rcases HI.out with ⟨rfl, _⟩ | ⟨j, _, h1, h2, h3, h4⟩
    · omega
    · exact ⟨j, h1, h2, h3, h4⟩
  · have HI := Lib.hid hi
    clear hi
    have hd : decide (0 ≤ i) = false := by simp; omega
    go_wp2_with fail
    go_ret
    refine ⟨false, rfl, .inl ⟨rfl, ?_⟩⟩
    rcases HI.out with ⟨_, h1, h2⟩ | ⟨j, e, _⟩
    · exact ⟨h1, h2⟩
    · omega
theorem contains_any (B0 : Nat) (ok : Nat → Prop) (l : List T) (n cap : Nat) (a : Option Addr) (g : FuncId) (caps : Array Value) (p : Nat → Bool) (St : Nat → World → Prop) (w : World)
    (hl : l.length = n) (hn : n ≤ 1152921504606846976) (hcf : ∀ (args : Array Value) (u : World), Sem.run Try.prog (callFunc g args) u = .ok (.enter g args) u)
    (hrow : ∀ j w1, St j w1 → Row B0 ok w1 a 0 l) (hg : Tells B0 ok l g caps p St) (h0 : St 0 w) :
    Calls Try.prog 24 #[.slice a n cap, .func (.func g) #[] caps] w (AnySaid n p St) :=
  contains_of _ _ _ _ _ _ _ (Lib.hid (indexFunc_any B0 ok l n cap a g caps p St w (Lib.hid hl) hn hcf (Lib.hid hrow) (Lib.hid hg) (Lib.hid h0)))
end Go.Proofs.Ythjecikdkdjlaaa
