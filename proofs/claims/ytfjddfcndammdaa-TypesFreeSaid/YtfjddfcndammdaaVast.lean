/- More than a statement plays? -/
import Derived.Test.YtfjddfcndammdaaFits
import Derived.Test.YtfjddfcndammdaaUni
import Derived.Test.YtfjddfcndammdaaOpenT
import Derived.Deep.CutRange
namespace Go.Proofs.Ytfjddfcndammdaa
open Go.RowKit

/-- what is counted of a type, so deep, from so many on: is it too much, and how many then -/
def cntL (g : T → Int → Bool × Int) : List T → Int → Bool × Int
  | [], n => (false, n)
  | t :: r, n => if (g t n).1 then (true, (g t n).2) else cntL g r (g t n).2
def cntT : Nat → T → Int → Bool × Int
  | 0, .mk _ _ _ _, n => (true, n + 1)
  | d + 1, .mk _ s _ r, n => if 400 < n + 1 ∨ 1024 < s.size then (true, n + 1) else cntL (cntT d) r (n + 1)
theorem cntL_le {g : T → Int → Bool × Int} (h : ∀ t n, n ≤ (g t n).2) : ∀ (r : List T) (n : Int), n ≤ (cntL g r n).2
  | [], n => Int.le_refl _
  | t :: r, n => by
    simp only [cntL]
    have h1 := h t n
    split
    · exact h1
    · have := cntL_le h r (g t n).2
      omega
theorem cntT_le : ∀ (d : Nat) (t : T) (n : Int), n ≤ (cntT d t n).2
  | 0, .mk _ _ _ _, n => by simp only [cntT]; omega
  | d + 1, .mk _ s _ r, n => by
    simp only [cntT]
    split
    · show n ≤ n + 1
      omega
    · have := cntL_le (cntT_le d) r (n + 1)
      omega
/-- what is not too much is small -/
theorem cntL_small {g : T → Int → Bool × Int} (h : ∀ t n, (g t n).1 = false → (g t n).2 = n + parts t ∧ (g t n).2 ≤ 400) : ∀ (r : List T) (n : Int), n ≤ 400 → (cntL g r n).1 = false → (cntL g r n).2 = n + partsL r ∧ (cntL g r n).2 ≤ 400
  | [], n, hn, _ => by simp [cntL, partsL]; exact hn
  | t :: r, n, hn, hc => by
    simp only [cntL] at hc ⊢
    cases hg : (g t n).1 with
    | true => rw [hg] at hc; simp at hc
    | false =>
      rw [hg] at hc
      simp only [Bool.false_eq_true, if_false] at hc ⊢
      obtain ⟨h1, h2⟩ := h t n hg
      obtain ⟨h3, h4⟩ := cntL_small h r _ h2 hc
      refine ⟨?_, h4⟩
      simp only [partsL]
      omega
theorem cntT_small : ∀ (d : Nat) (t : T) (n : Int), (cntT d t n).1 = false → (cntT d t n).2 = n + parts t ∧ (cntT d t n).2 ≤ 400
  | 0, .mk _ _ _ _, n, h => by simp [cntT] at h
  | d + 1, .mk _ s _ r, n, h => by
    simp only [cntT] at h ⊢
    split at h
    · cases h
    · rename_i hc
      rw [if_neg hc]
      obtain ⟨h1, h2⟩ := cntL_small (cntT_small d) r (n + 1) (by omega) h
      refine ⟨?_, h2⟩
      simp only [parts]
      omega
/-- .. and not deep -/
theorem cntL_deep {g : T → Int → Bool × Int} {d : Nat} (h : ∀ t n, (g t n).1 = false → depthT t ≤ d) : ∀ (r : List T) (n : Int), (cntL g r n).1 = false → depthL r ≤ d
  | [], n, _ => Nat.zero_le _
  | t :: r, n, hc => by
    simp only [cntL] at hc
    cases hg : (g t n).1 with
    | true => rw [hg] at hc; simp at hc
    | false =>
      rw [hg] at hc
      simp only [Bool.false_eq_true, if_false] at hc
      have h1 := h t n hg
      have h2 := cntL_deep h r _ hc
      simp only [depthL]
      omega
theorem cntT_deep : ∀ (d : Nat) (t : T) (n : Int), (cntT d t n).1 = false → depthT t ≤ d
  | 0, .mk _ _ _ _, n, h => by simp [cntT] at h
  | d + 1, .mk _ s _ r, n, h => by
    simp only [cntT] at h
    split at h
    · cases h
    · have := cntL_deep (cntT_deep d) r (n + 1) h
      simp only [depthT]
      omega
def vast (t : T) : Bool := (cntT 60 t 0).1
theorem vast_small {t : T} (h : vast t = false) : parts t ≤ 400 ∧ depthT t ≤ 60 := by
  obtain ⟨h1, h2⟩ := cntT_small 60 t 0 h
  exact ⟨by omega, cntT_deep 60 t 0 h⟩
/-- what is said by large: the cell counts -/
def LargeSaid (w : World) (gl : Nat) (r : Bool × Int) (e : Ending) (w' : World) : Prop :=
  e = .returned (.bool r.1) ∧ Fr (Just gl) w w' ∧ w'.heap[gl]? = some (.cells #[.int .i64 r.2] 3 (0, 0))
theorem keep_of {w : World} {b : Nat} {ob : Obj} (h : w.heap[b]? = some ob) : ∀ o, (w.alloc o).heap[b]? = some ob := fun o => (Fr.alloc w o).keeps h no_one
theorem drop_cons' {l : List T} {k : Nat} {t : T} (h : l[k]? = some t) : l.drop k = t :: l.drop (k + 1) := by
  obtain ⟨hlt, rfl⟩ := List.getElem?_eq_some_iff.1 h
  exact List.drop_eq_getElem_cons hlt
set_option maxHeartbeats 4000000 in
set_option maxRecDepth 100000 in
theorem large_any (base : Nat) (gl : Nat) (hbase : base ≤ gl) : ∀ (d : Nat) (t : T), d ≤ 60 → Short t → ∀ (v : Value) (w : World) (n : Int), IsT base w t v → w.heap[gl]? = some (.cells #[.int .i64 n] 3 (0, 0)) → 0 ≤ n → n ≤ 400 →
    Calls Try.prog 28 #[v, .int .i64 d, .pointer (some ⟨gl, 0, none⟩)] w (LargeSaid w gl (cntT d t n))
  | d, .mk k s nn r, hd, hpt, v, w, n, hi, hgl, hn0, hn1 => by
    simp only [IsT, Is] at hi
    obtain ⟨a, cap, rfl, hrow⟩ := hi
    obtain ⟨m, hm⟩ : ∃ m, r.length = m := ⟨_, rfl⟩
    rw [hm]
    simp only [Short] at hpt
    have hml : m ≤ maxLen := by
      rw [← hm]
      exact hpt.1
    unfold maxLen at hml
    have hlt := lt_of_block hgl
    have HROW := Lib.hid hrow
    have HM := Lib.hid hm
    obtain ⟨w0, hw0⟩ : ∃ w0, w0 = w.alloc (.cells #[.int .u8 k, .string s, .int .i64 nn, .slice a m cap] 24) := ⟨_, rfl⟩
    have r0 : w0.heap[w.heap.size]? = some (.cells #[.int .u8 k, .string s, .int .i64 nn, .slice a m cap] 24 (0, 0)) := by rw [hw0]; exact new_block w _
    have rl : w0.heap[gl]? = some (.cells #[.int .i64 n] 3 (0, 0)) := by rw [hw0]; exact keep_of hgl _
    have hF0 : Fr No w w0 := by rw [hw0]; exact Fr.alloc w _
    obtain ⟨w1, hw1⟩ : ∃ w1, w1 = w0.setCell ⟨gl, 0, none⟩ (.int .i64 (n + 1)) := ⟨_, rfl⟩
    have hset : Fr (Just gl) w0 w1 := by rw [hw1]; exact Fr.setCell w0 ⟨gl, 0, none⟩ _
    have R0 : Hid (w1.heap[w.heap.size]? = some (.cells #[.int .u8 k, .string s, .int .i64 nn, .slice a m cap] 24 (0, 0))) := Lib.hid (hset.keeps r0 (fun e => by have e : w.heap.size = gl := e; omega))
    have RL : Hid (w1.heap[gl]? = some (.cells #[.int .i64 (n + 1)] 3 (0, 0))) := Lib.hid (by rw [hw1]; exact block_setCell rl 0 _)
    have HF1 : Hid (Fr (Just gl) w w1) := Lib.hid (hF0.then' hset fun _ h => h)
    have c0 : w0.cell? ⟨gl, 0, none⟩ = some (.int .i64 n) := cell_of rl 0
    have f0 : w0.frozen? ⟨gl, 0, none⟩ = false := free_of rl 0
    have HGL := Lib.hid hgl
    have HSH := Lib.hid hpt
    clear hrow hm hgl r0 rl hF0 hset hpt
    go_enter Try.func28, Try.ntmps28
    go_upto_region 1 with fail
    rw [← hw0]
    have HW1 := Lib.hid hw1
    clear hw0 hw1
    go_upto_region 2 with fail
    rw [← HW1.out]
    clear HW1
    obtain ⟨gt, hg⟩ : ∃ gt, w.heap.size = gt := ⟨_, rfl⟩
    rw [hg] at R0 hlt ⊢
    have hgg : gt ≠ gl := by omega
    clear hg c0 f0 w0
    have p1 : w1.cell? ⟨gt, 1, none⟩ = some (.string s) := cell_of R0.out 1
    have p3 : w1.cell? ⟨gt, 3, none⟩ = some (.slice a m cap) := cell_of R0.out 3
    have q0 : w1.cell? ⟨gl, 0, none⟩ = some (.int .i64 (n + 1)) := cell_of RL.out 0
    cases d with
    | zero =>
      have HE : Hid (cntT 0 (.mk k s nn r) n = (true, n + 1)) := Lib.hid rfl
      go_wp2_with fail
      go_ret
      rw [HE.out]
      exact ⟨rfl, HF1.out, RL.out⟩
    | succ d =>
      have t0 : ((d : Int) + 1 == 0) = false := by simp only [beq_eq_false_iff_ne, ne_eq]; omega
      by_cases h4 : 400 < n + 1
      · have t1 : decide (400 < n + 1) = true := by simpa using h4
        have HE : Hid (cntT (d + 1) (.mk k s nn r) n = (true, n + 1)) := Lib.hid (by rw [cntT, if_pos (.inl h4)])
        clear h4
        go_wp2_with fail
        go_ret
        rw [HE.out]
        exact ⟨rfl, HF1.out, RL.out⟩
      · have t1 : decide (400 < n + 1) = false := by simpa using h4
        by_cases h5 : 1024 < s.size
        · have t2 : decide (1024 < (s.size : Int)) = true := by simp; omega
          have HE : Hid (cntT (d + 1) (.mk k s nn r) n = (true, n + 1)) := Lib.hid (by rw [cntT, if_pos (.inr h5)])
          clear h5
          go_wp2_with fail
          go_ret
          rw [HE.out]
          exact ⟨rfl, HF1.out, RL.out⟩
        · have t2 : decide (1024 < (s.size : Int)) = false := by simp; omega
          have HE : Hid (cntT (d + 1) (.mk k s nn r) n = cntL (cntT d) r (n + 1)) := Lib.hid (by rw [cntT, if_neg (by omega)])
          have HI := Lib.hid (fun (t : T) (hpt : Short t) (v : Value) (w : World) (n : Int) (hi : IsT base w t v) (hg : w.heap[gl]? = some (.cells #[.int .i64 n] 3 (0, 0))) (h0 : 0 ≤ n) (h1 : n ≤ 400) => large_any base gl hbase d t (by omega) hpt v w n hi hg h0 h1)
          have HPK : Hid (∀ (j : Nat) (t : T), r[j]? = some t → Short t) := Lib.hid (fun j t hj => shortL_at r HSH.out.2 j t hj)
          clear h5
          go_wp2_with fail
          go_loopw [7] (fun i wr => ∃ (q : Nat) (c : Int), q ≤ m ∧ i = .int .i64 q ∧ 0 ≤ c ∧ c ≤ 400 ∧ Hid (Fr (Just gl) w1 wr) ∧ Hid (wr.heap[gl]? = some (.cells #[.int .i64 c] 3 (0, 0))) ∧ Hid (cntL (cntT d) r (n + 1) = cntL (cntT d) (r.drop q) c)) (fun i _ => m - (intOf i).toNat)
          case atStart => exact ⟨0, n + 1, Nat.zero_le _, rfl, by omega, by omega, Lib.hid (Fr.refl _ _), RL, Lib.hid rfl⟩
          case round =>
            obtain ⟨q, c, hq, rfl, hc0, hc1, HF, HL, HC⟩ := hrel
            have p3 : wr.cell? ⟨gt, 3, none⟩ = some (.slice a m cap) := cell_of (HF.out.keeps R0.out hgg) 3
            by_cases hqm : q = m
            · have hc := HC.out
              rw [hqm, List.drop_of_length_le (by rw [HM.out]; exact Nat.le_refl _)] at hc
              have HE2 := Lib.hid (HE.out.trans hc)
              clear hc
              go_wp2_with fail
              go_ret
              rw [HE2.out]
              exact ⟨rfl, HF1.out.just HF.out, HL.out⟩
            · obtain ⟨x, hx⟩ : ∃ x, r[q]? = some x := ⟨_, List.getElem?_eq_getElem (by rw [HM.out]; omega)⟩
              have hrw := Row.keep (Stays.of_gl (HF1.out.just HF.out) HGL.out hbase) (fun _ h => h) a 0 r HROW.out
              obtain ⟨b, off, x0, x1, x2, x3, rfl, _, _, d0, d1, d2, d3, his⟩ := Row.at_ 0 r hrw q x hx
              rw [Nat.zero_add] at d0 d1 d2 d3
              have hcl := HI.out x (HPK.out q x hx) (.agg #[x0, x1, x2, x3]) wr c his HL.out hc0 hc1
              have hc := HC.out
              rw [drop_cons' hx, cntL] at hc
              have HCL := Lib.hid hcl
              obtain ⟨⟨rb, rn⟩, hre⟩ : ∃ p, cntT d x c = p := ⟨_, rfl⟩
              rw [hre] at HCL hc
              have hrn := cntT_le d x c
              have hsm := cntT_small d x c
              rw [hre] at hrn hsm
              have HCC := Lib.hid hc
              have k0 : (0 : Int) ≤ (q : Int) := by omega
              have k1 : (q : Int) < (m : Int) := by omega
              cases rb with
              | true =>
                have HE2 : Hid (cntT (d + 1) (.mk k s nn r) n = (true, rn)) := Lib.hid (HE.out.trans hc)
                clear his hrw hx hcl hc hre hsm hrn
                go_wp2_with fail
                refine HCL.out.mono ?_
                rintro e w2 ⟨rfl, hf2, hl2⟩
                have HF2 := Lib.hid (HF.out.just hf2)
                have HL2 := Lib.hid hl2
                clear hf2 hl2
                go_wp2_with fail
                go_ret
                rw [HE2.out]
                exact ⟨rfl, HF1.out.just HF2.out, HL2.out⟩
              | false =>
                have h6 := (hsm rfl).2
                simp only at h6 hrn
                have HE2 : Hid (cntL (cntT d) r (n + 1) = cntL (cntT d) (r.drop (q + 1)) rn) := Lib.hid hc
                clear his hrw hx hcl hc hre hsm
                go_wp2_with fail
                refine HCL.out.mono ?_
                rintro e w2 ⟨rfl, hf2, hl2⟩
                have HF2 := Lib.hid (HF.out.just hf2)
                have HL2 := Lib.hid hl2
                clear hf2 hl2
                go_wp2_with fail
                exact ⟨⟨q + 1, rn, by omega, by go_num, by omega, h6, HF2, HL2, HE2⟩, by simp [intOf]; omega⟩
set_option maxHeartbeats 1000000 in
theorem vast_any (base : Nat) (t : T) (hpt : Short t) (v : Value) (w : World) (hb : base ≤ w.heap.size) (hi : IsT base w t v) : Calls Try.prog 8 #[v] w (SaidT w (vast t)) := by
  obtain ⟨x0, x1, x2, x3, rfl⟩ := is_agg hi
  obtain ⟨k1, s1, n1, aa1, mm1, cc1, rfl, rfl, rfl, rfl⟩ := is_cells hi
  have hnb := new_block (w.alloc (.cells #[.int .u8 k1, .string s1, .int .i64 n1, .slice aa1 mm1 cc1] 24)) (.cells #[.int .i64 0] 3)
  rw [size_alloc] at hnb
  have hF := (Fr.alloc w (.cells #[.int .u8 k1, .string s1, .int .i64 n1, .slice aa1 mm1 cc1] 24)).then (Fr.alloc _ (.cells #[.int .i64 0] 3))
  have HC := Lib.hid (large_any base (w.heap.size + 1) (by omega) 60 t (Nat.le_refl _) hpt (.agg #[.int .u8 k1, .string s1, .int .i64 n1, .slice aa1 mm1 cc1]) _ 0 (hi.no hF) hnb (Int.le_refl _) (by omega))
  have HF := Lib.hid hF
  clear hnb hF hi
  go_enter Try.func8, Try.ntmps8
  go_wp2_with fail
  refine HC.out.mono ?_
  rintro e w1 ⟨rfl, hf1, _⟩
  have HF1 := Lib.hid (HF.out.own hf1 (fun i h => by rw [show i = w.heap.size + 1 from h]; omega))
  clear hf1
  go_wp2_with fail
  go_ret
  exact ⟨rfl, HF1.out⟩
end Go.Proofs.Ytfjddfcndammdaa
