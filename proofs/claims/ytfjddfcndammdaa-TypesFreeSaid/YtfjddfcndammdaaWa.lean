/- Right. -/
import Derived.Test.YtfjddfcndammdaaFind
import Derived.Test.YtfjddfcndammdaaPlain
namespace Go.Proofs.Ytfjddfcndammdaa
open Go.RowKit

/-- what is told of a type -/
def SaidT (w : World) (b : Bool) (e : Ending) (w' : World) : Prop := e = .returned (.bool b) ∧ Fr No w w'
theorem enters42 (args : Array Value) (u : World) : Sem.run Try.prog (callFunc 42 args) u = .ok (.enter 42 args) u := by kernel_rfl
theorem is_agg {B0 : Nat} {ok : Nat → Prop} {w : World} {t : T} {v : Value} (h : Is B0 ok w t v) : ∃ x0 x1 x2 x3, v = .agg #[x0, x1, x2, x3] := by
  cases t with
  | mk k s n l =>
    simp only [Is] at h
    obtain ⟨a, cap, rfl, _⟩ := h
    exact ⟨_, _, _, _, rfl⟩
set_option maxHeartbeats 1000000 in
theorem not_right (v : Value) (w : World) (b : Bool) (h : Hid (∀ w', Fr No w w' → Calls Try.prog 23 #[v] w' (SaidT w' b))) (hv : ∃ x0 x1 x2 x3, v = .agg #[x0, x1, x2, x3]) :
    Calls Try.prog 42 #[v] w (SaidT w (!b)) := by
  obtain ⟨x0, x1, x2, x3, rfl⟩ := hv
  go_enter Try.func42, Try.ntmps42
  go_wp2_with fail
  refine (h.out _ (Fr.alloc w _)).mono ?_
  rintro e w1 ⟨rfl, hf⟩
  go_wp2_with fail
  go_ret
  exact ⟨rfl, (Fr.alloc w _).then hf⟩
/-- a row of which none is found, or one: by what all of them say -/
theorem any_all {n : Nat} {l : List T} {q : T → Bool} {p : Nat → Bool} {St : Nat → World → Prop} {w : World} {e : Ending} {w' : World} (hl : l.length = n) (hp : ∀ (j : Nat) (t : T), l[j]? = some t → p j = !q t)
    (hst : ∀ j w', St j w' → Fr No w w') (h : AnySaid n p St e w') : e = .returned (.bool (!l.all q)) ∧ Fr No w w' := by
  obtain ⟨v, rfl, h⟩ := h
  rcases h with ⟨rfl, h1, h2⟩ | ⟨rfl, j, h1, h2, h3, h4⟩
  · refine ⟨?_, hst _ _ h2⟩
    have : l.all q = true := by
      rw [List.all_eq_true]
      intro t ht
      obtain ⟨j, hj⟩ := List.getElem?_of_mem ht
      have h5 := h1 j (by rw [← hl]; exact (List.getElem?_eq_some_iff.1 hj).1)
      rw [hp j t hj] at h5
      simpa using h5
    rw [this]
    rfl
  · refine ⟨?_, hst _ _ h4⟩
    have hjl : j < l.length := by rw [hl]; exact h1
    have hg : l[j]? = some l[j] := List.getElem?_eq_getElem hjl
    rw [hp j _ hg] at h2
    have : l.all q = false := by
      rw [List.all_eq_false]
      exact ⟨l[j], List.getElem_mem hjl, by simpa using h2⟩
    rw [this]
    rfl
theorem rightL_all : ∀ l : List T, rightL l = l.all right
  | [] => rfl
  | t :: r => by simp [rightL, rightL_all r]
set_option maxHeartbeats 2000000 in
theorem right_any : ∀ (f : Nat) (t : T), parts t ≤ f → f ≤ 1152921504606846976 → ∀ (B0 : Nat) (ok : Nat → Prop) (v : Value) (w : World), Is B0 ok w t v → Calls Try.prog 23 #[v] w (SaidT w (right t))
  | 0, t, h, _, _, _, _, _, _ => by have := parts_pos t; omega
  | f + 1, .mk k s n l, h, hf, B0, ok, v, w, hi => by
    simp only [Is] at hi
    obtain ⟨a, cap, rfl, hrow⟩ := hi
    obtain ⟨m, hm⟩ : ∃ m, l.length = m := ⟨_, rfl⟩
    rw [hm]
    have hml := partsL_len l
    simp only [parts] at h
    rw [hm] at hml
    have HC : Hid (∀ w', Fr No w w' → Calls Try.prog 41 #[.slice a m cap, .func (.func 42) #[] #[]] w' (SaidT w' (!rightL l))) := Lib.hid (fun w' hw' => by
      rw [rightL_all]
      refine (contains_any B0 ok l m cap a 42 #[] (fun j => !((l[j]?).map right).getD true) (fun _ w1 => Fr No w' w1) w' hm (by omega) enters42 ?_ ?_ (Fr.refl _ _)).mono ?_
      · intro j w1 h1
        exact Row.keep (Stays.of_no (hw'.then h1)) (fun _ h => h) a 0 l hrow
      · intro j t v w1 hj hall hst his
        have hk := parts_kid l j t hj
        have hc := not_right v w1 (right t) (Lib.hid (fun w2 h2 => right_any f t (by omega) (by omega) B0 ok v w2 (his.no h2))) (is_agg his)
        refine hc.mono ?_
        rintro e w2 ⟨rfl, hf2⟩
        exact ⟨by simp only [hj]; rfl, hst.then hf2⟩
      · intro e w2 h2
        exact any_all (q := right) hm (fun j t hj => by simp only [hj]; rfl) (fun _ _ h => h) h2)
    have hme : ((m : Int) == 0) = l.isEmpty := by
      rw [← hm]
      cases l with
      | nil => rfl
      | cons a r =>
        simp only [List.length_cons, List.isEmpty_cons, beq_eq_false_iff_ne, ne_eq]
        omega
    have hm2 : decide (l.length = 2) = decide (m = 2) := by rw [hm]
    have hm3 : decide (2 ≤ l.length) = decide (2 ≤ m) := by rw [hm]
    have HR : Hid (right (.mk k s n l) = if k = 1 then decide (0 ≤ n) && (emptyS s && l.isEmpty)
      else if k = 2 then !emptyS s && (decide (n = 0) && rightL l)
      else if k = 3 then emptyS s && (decide (m = 2) && (decide (n = 0) && rightL l))
      else if k = 4 then emptyS s && (decide (2 ≤ m) && (decide (n = 0) && rightL l))
      else false) := Lib.hid (by rw [right, hm2, hm3])
    obtain ⟨R, hR⟩ : ∃ R, right (.mk k s n l) = R := ⟨_, rfl⟩
    rw [hR] at HR ⊢
    clear hR hm2 hm3 hrow hm
    obtain ⟨rl, hrl⟩ : ∃ rl, rightL l = rl := ⟨_, rfl⟩
    rw [hrl] at HC HR
    obtain ⟨le, hle⟩ : ∃ le, l.isEmpty = le := ⟨_, rfl⟩
    rw [hle] at hme HR
    clear hrl hle
    have HEM : Hid (emptyS s = s.toList.isEmpty) := Lib.hid rfl
    by_cases h1 : k = 1
    · have h := HR.out
      rw [if_pos h1] at h
      subst h1
      have HE := Lib.hid h
      clear h HR HC
      go_enter Try.func23, Try.ntmps23
      go_wp2_with fail
      all_goals (go_ret; refine ⟨?_, Fr.alloc _ _⟩; rw [HE.out]; show Ending.returned (Value.bool _) = Ending.returned (Value.bool _); congr 2; simp [emptyS, *]; try omega)
    · have h := HR.out
      rw [if_neg h1] at h
      by_cases h2 : k = 2
      · rw [if_pos h2] at h
        subst h2
        have HE := Lib.hid h
        clear h HR
        go_enter Try.func23, Try.ntmps23
        go_wp2_with (go_at_call 41; refine (HC.out _ (Fr.alloc w _)).mono ?_; rintro e w1 ⟨rfl, hf1⟩; have hf2 := (Fr.alloc w _).then hf1)
        all_goals (go_ret; refine ⟨?_, (by first | assumption | exact Fr.alloc _ _)⟩; rw [HE.out]; show Ending.returned (Value.bool _) = Ending.returned (Value.bool _); congr 2; simp [emptyS, *]; try omega)
      · rw [if_neg h2] at h
        by_cases h3 : k = 3
        · rw [if_pos h3] at h
          subst h3
          have HE := Lib.hid h
          clear h HR
          go_enter Try.func23, Try.ntmps23
          go_wp2_with (go_at_call 41; refine (HC.out _ (Fr.alloc w _)).mono ?_; rintro e w1 ⟨rfl, hf1⟩; have hf2 := (Fr.alloc w _).then hf1)
          all_goals (go_ret; refine ⟨?_, (by first | assumption | exact Fr.alloc _ _)⟩; rw [HE.out]; show Ending.returned (Value.bool _) = Ending.returned (Value.bool _); congr 2; simp [emptyS, *]; try omega)
        · rw [if_neg h3] at h
          by_cases h4 : k = 4
          · rw [if_pos h4] at h
            subst h4
            have HE := Lib.hid h
            clear h HR
            go_enter Try.func23, Try.ntmps23
            go_wp2_with (go_at_call 41; refine (HC.out _ (Fr.alloc w _)).mono ?_; rintro e w1 ⟨rfl, hf1⟩; have hf2 := (Fr.alloc w _).then hf1)
            all_goals (go_ret; refine ⟨?_, (by first | assumption | exact Fr.alloc _ _)⟩; rw [HE.out]; show Ending.returned (Value.bool _) = Ending.returned (Value.bool _); congr 2; simp [emptyS, *]; try omega)
          · rw [if_neg h4] at h
            have HE := Lib.hid h
            clear h HR HC
            go_enter Try.func23, Try.ntmps23
            go_wp2_with fail
            all_goals (go_ret; refine ⟨?_, (by first | assumption | exact Fr.alloc _ _)⟩; rw [HE.out]; show Ending.returned (Value.bool _) = Ending.returned (Value.bool _); first | rfl | (congr 2; simp [emptyS, *]; try omega))
end Go.Proofs.Ytfjddfcndammdaa
