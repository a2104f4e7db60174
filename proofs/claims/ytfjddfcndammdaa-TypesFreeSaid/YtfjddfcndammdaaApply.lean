/- A type applied: what is bound stands in its place. -/
import Derived.Test.YtfjddfcndammdaaFits
import Derived.Test.YtfjddfcndammdaaWh
namespace Go.Proofs.Ytfjddfcndammdaa
open Go.RowKit

theorem enters53 (args : Array Value) (u : World) : Sem.run Try.prog (callFunc 53 args) u = .ok (.enter 53 args) u := by kernel_rfl
/-- what the function that is handed in says of an unknown -/
def spf (l : Bs) (f : Nat) (n : Int) : Option (Option T) := if 0 ≤ n ∧ n < 4096 then (match look l n with | some x => (ap l f x).map some | none => some none) else none
theorem walkL_of {sp : Int → Option (Option T)} : ∀ (r us : List T), (∀ (j : Nat) (t : T), r[j]? = some t → ∃ u, us[j]? = some u ∧ walkT sp t = some u) → r.length = us.length → walkL sp r = some us
  | [], us, _, hl => by
    have : us = [] := List.eq_nil_of_length_eq_zero (by simpa using hl.symm)
    subst this
    rfl
  | t :: r, [], _, hl => by simp at hl
  | t :: r, u :: us, h, hl => by
    obtain ⟨u0, h1, h2⟩ := h 0 t rfl
    simp only [List.getElem?_cons_zero, Option.some.injEq] at h1
    subst h1
    have := walkL_of r us (fun j t hj => h (j + 1) t (by simpa using hj)) (by simpa using hl)
    simp only [walkL, h2, this]
theorem spf_mono {l : Bs} {f f' : Nat} (hf : f ≤ f') {n : Int} {x : Option T} (h : spf l f n = some x) : spf l f' n = some x := by
  unfold spf at h ⊢
  split at h
  · rename_i hc
    rw [if_pos hc]
    cases hl : look l n with
    | none => rw [hl] at h; exact h
    | some y =>
      rw [hl] at h
      replace h : (ap l f y).map some = some x := h
      show (ap l f' y).map some = some x
      cases ha : ap l f y with
      | none => rw [ha] at h; cases h
      | some z =>
        rw [ha] at h
        rw [ap_mono hf ha]
        exact h
  · cases h
mutual
theorem walkT_mono {sp sp' : Int → Option (Option T)} (h : ∀ n x, sp n = some x → sp' n = some x) : ∀ (t u : T), walkT sp t = some u → walkT sp' t = some u
  | .mk k s n r, u, hw => by
    simp only [walkT] at hw ⊢
    have hr : ∀ v, (walkL sp r).map (T.mk k s n) = some v → (walkL sp' r).map (T.mk k s n) = some v := by
      intro v hv
      cases hl : walkL sp r with
      | none => rw [hl] at hv; cases hv
      | some y =>
        rw [hl] at hv
        rw [walkL_mono h r y hl]
        exact hv
    by_cases hk : k = 1
    · rw [if_pos hk] at hw ⊢
      cases hs : sp n with
      | none => rw [hs] at hw; cases hw
      | some x =>
        rw [hs] at hw
        rw [h n x hs]
        cases x with
        | none => exact hr u hw
        | some y => exact hw
    · rw [if_neg hk] at hw ⊢
      exact hr u hw
theorem walkL_mono {sp sp' : Int → Option (Option T)} (h : ∀ n x, sp n = some x → sp' n = some x) : ∀ (l r : List T), walkL sp l = some r → walkL sp' l = some r
  | [], r, hw => by simpa [walkL] using hw
  | t :: l, r, hw => by
    simp only [walkL] at hw ⊢
    cases ht : walkT sp t with
    | none => rw [ht] at hw; cases hw
    | some x =>
      cases hl : walkL sp l with
      | none => rw [ht, hl] at hw; cases hw
      | some y =>
        rw [ht, hl] at hw
        rw [walkT_mono h t x ht, walkL_mono h l y hl]
        exact hw
end
theorem ap_walk {many : Nat} {l : Bs} (hfine : Fine many l) : ∀ (f : Nat) (t u : T), Good many t → ap l (f + 1) t = some u → walkT (spf l f) t = some u
  | f, .mk k s n r, u, hg, h => by
    simp only [ap] at h
    rw [walkT]
    by_cases hk : k = 1
    · subst hk
      rw [if_pos rfl] at h ⊢
      obtain ⟨h0, h1⟩ := hg.num
      have hsm := hfine.small
      have hin : 0 ≤ n ∧ n < 4096 := by omega
      cases hl : look l n with
      | none =>
        rw [hl] at h
        simp only [Option.some.injEq] at h
        have hr := hg.1
        simp only [right, if_true, Bool.and_eq_true] at hr
        have hr2 : r = [] := by simpa using hr.2.2
        subst hr2
        simp only [spf, if_pos hin, hl, walkL, Option.map_some, h]
      | some x =>
        rw [hl] at h
        simp only [spf, if_pos hin, hl, h, Option.map_some]
    · rw [if_neg hk] at h ⊢
      cases hm : mapO (ap l f) r with
      | none => rw [hm] at h; cases h
      | some us =>
        rw [hm] at h
        obtain ⟨h1, h2⟩ := mapO_at r us hm
        have hw : walkL (spf l f) r = some us := walkL_of r us (fun j t hj => by
          obtain ⟨u, hu, ha⟩ := h2 j t hj
          cases f with
          | zero => cases ha
          | succ f => exact ⟨u, hu, walkT_mono (fun n x hx => spf_mono (Nat.le_succ f) hx) t u (ap_walk hfine f t u (hg.kids j t hj) ha)⟩) h1
        rw [hw]
        exact h
set_option maxHeartbeats 2000000 in
/-- the function that is handed in: its cell holds the book -/
theorem apply_of (base N g many gb : Nat) (l : Bs) (hfine : Fine many l) (f : Nat) (w0 : World) (hbk : BkR base w0 g many l N) (hc : w0.cell? ⟨gb, 0, none⟩ = some (.pointer (some ⟨g, 0, none⟩)))
    (HI : ∀ (t u : T), Good many t → parts t ≤ 1048576 → ap l f t = some u → ∀ (v : Value) (w : World), BkR base w g many l N → IsT base w t v → Calls Try.prog 38 #[.pointer (some ⟨g, 0, none⟩), v] w (MadeT w u)) : Of (spf l f) 53 #[.pointer (some ⟨gb, 0, none⟩)] w0 := by
  intro n x w1 hs hf
  unfold spf at hs
  split at hs
  case isFalse => cases hs
  rename_i hn
  have hbk1 := hbk.no hf
  have hc1 := hf.cell hc
  obtain ⟨mb, tr, hg, hlk⟩ := hbk1.looks
  have hl := hlk n hn.1 (by omega)
  have hcA := fun o => (Fr.alloc w1 o).cell hc1
  have hgA := fun o => cell_of ((Fr.alloc w1 o).keeps hg no_one) 1
  show Calls Try.prog 53 #[.int .i64 n, .pointer (some ⟨gb, 0, none⟩)] w1 _
  cases hq : look l n with
  | none =>
    rw [hq] at hs
    simp only [Option.some.injEq] at hs
    subst hs
    have hrun := hl.1 hq _ (Fr.alloc w1 (.cells #[.int .u8 0, .string ⟨#[]⟩, .int .i64 0, .slice none 0 0] 24))
    clear hl hlk hbk hbk1 hf hc hg hc1 hq
    go_enter Try.func53, Try.ntmps53
    go_wp2_with fail
    refine bodyPost_ret (results_ty_tmp rfl _ _ _ _ rfl (ty_row _ _ _ rfl (keep_alloc (new_block w1 _) _))) rfl ?_
    exact ⟨0, ⟨#[]⟩, 0, none, 0, 0, rfl, (fun y h => nomatch h), (Fr.alloc w1 _).then (Fr.alloc _ _)⟩
  | some y =>
    rw [hq] at hs
    replace hs : (ap l f y).map some = some x := hs
    cases ha : ap l f y with
    | none => rw [ha] at hs; cases hs
    | some z =>
      rw [ha] at hs
      simp only [Option.map_some, Option.some.injEq] at hs
      subst hs
      obtain ⟨v, hrun0, his⟩ := hl.2 y hq
      obtain ⟨hgy, hpy⟩ := hfine.good n y hq
      have hrun := hrun0 _ (Fr.alloc w1 (.cells #[.int .u8 0, .string ⟨#[]⟩, .int .i64 0, .slice none 0 0] 24))
      obtain ⟨x0, x1, x2, x3, rfl⟩ := is_agg his
      obtain ⟨k2, s2, n2, aa2, mm2, cc2, rfl, rfl, rfl, rfl⟩ := is_cells his
      have HC := Lib.hid (fun w' (hf' : Fr No w1 w') => HI y z hgy hpy ha (.agg #[.int .u8 k2, .string s2, .int .i64 n2, .slice aa2 mm2 cc2]) w' (hbk1.no hf') (his.no hf'))
      have hcB := fun o o' => (Fr.alloc (w1.alloc o) o').cell (hcA o)
      have HN := Lib.hid (new_block w1 (.cells #[.int .u8 0, .string ⟨#[]⟩, .int .i64 0, .slice none 0 0] 24))
      clear hl hlk hbk hbk1 hf hc hg hc1 hq ha his hrun0
      go_enter Try.func53, Try.ntmps53
      go_wp2_with fail
      refine (HC.out _ ((Fr.alloc w1 _).then (Fr.alloc _ _))).mono ?_
      rintro e w2 ⟨v2, rfl, his2, hf2⟩
      obtain ⟨y0, y1, y2, y3, rfl⟩ := is_agg his2
      obtain ⟨k3, s3, n3, aa3, mm3, cc3, rfl, rfl, rfl, rfl⟩ := is_cells his2
      have R1 := Lib.hid (hf2.keeps (keep_alloc HN.out _) no_one)
      obtain ⟨⟨z0, z1, z2, z3⟩, y0, y1, y2, y3⟩ := z24 R1.out
      have HIS := Lib.hid (his2.mono (ok' := fun b => w1.heap.size < b) (fun b hb => by rw [size_alloc, size_alloc] at hb; omega))
      have HF := Lib.hid (((Fr.alloc w1 _).then (Fr.alloc _ _)).then hf2)
      clear his2 hf2
      go_wp2_with fail
      (try simp only [Exit.inBlock, Exit.then])
      refine bodyPost_ret (results_ty_tmp rfl _ _ _ _ rfl (ty_row _ _ _ rfl (four_block R1.out _ _ _ _))) rfl ?_
      obtain ⟨h1, h2⟩ := made_close (Nat.le_refl _) HF.out HIS.out (.int .u8 k3) (.string s3) (.int .i64 n3) (.slice aa3 mm3 cc3)
      exact ⟨_, _, _, _, _, _, rfl, (fun y hy => by cases hy; exact h1), h2⟩
set_option maxHeartbeats 2000000 in
theorem apply_any (base N : Nat) (g many : Nat) (l : Bs) (hfine : Fine many l) : ∀ (f : Nat) (t u : T), Good many t → parts t ≤ 1048576 → ap l f t = some u → ∀ (v : Value) (w : World), BkR base w g many l N → IsT base w t v →
    Calls Try.prog 38 #[.pointer (some ⟨g, 0, none⟩), v] w (MadeT w u)
  | 0, t, u, _, _, h, _, _, _, _ => by cases h
  | f + 1, t, u, hgood, hpt, h, v, w, hbk, hi => by
    have HI := apply_any base N g many l hfine f
    have HW := Lib.hid (fun w' gb (hf : Fr No w w') (hc : w'.cell? ⟨gb, 0, none⟩ = some (.pointer (some ⟨g, 0, none⟩))) => walk_any (spf l f) 53 #[.pointer (some ⟨gb, 0, none⟩)] enters53 (parts t) t u (Nat.le_refl _) hpt (ap_walk hfine f t u hgood h) base (fun _ => True) v w' (hi.no hf) (apply_of base N g many gb l hfine f w' (hbk.no hf) hc (fun t u hg hp ha => HI t u hg hp ha)))
    obtain ⟨x0, x1, x2, x3, rfl⟩ := is_agg hi
    obtain ⟨k1, s1, n1, aa1, mm1, cc1, rfl, rfl, rfl, rfl⟩ := is_cells hi
    have hF := ((Fr.alloc w (.cells #[.pointer (some ⟨g, 0, none⟩)] 27)).then (Fr.alloc _ (.cells #[.int .u8 k1, .string s1, .int .i64 n1, .slice aa1 mm1 cc1] 24))).then (Fr.alloc _ (.cells #[.int .u8 0, .string ⟨#[]⟩, .int .i64 0, .slice none 0 0] 24))
    have HF := Lib.hid hF
    have HC := Lib.hid (HW.out _ w.heap.size hF (cell_of (keep_alloc (keep_alloc (new_block w _) _) _) 0))
    have hnb := new_block ((w.alloc (.cells #[.pointer (some ⟨g, 0, none⟩)] 27)).alloc (.cells #[.int .u8 k1, .string s1, .int .i64 n1, .slice aa1 mm1 cc1] 24)) (.cells #[.int .u8 0, .string ⟨#[]⟩, .int .i64 0, .slice none 0 0] 24)
    rw [size_alloc, size_alloc] at hnb
    have HN := Lib.hid hnb
    have hsz : (((w.alloc (.cells #[.pointer (some ⟨g, 0, none⟩)] 27)).alloc (.cells #[.int .u8 k1, .string s1, .int .i64 n1, .slice aa1 mm1 cc1] 24)).alloc (.cells #[.int .u8 0, .string ⟨#[]⟩, .int .i64 0, .slice none 0 0] 24)).heap.size = w.heap.size + 1 + 1 + 1 := by rw [size_alloc, size_alloc, size_alloc]
    have HSZ := Lib.hid hsz
    clear hF hnb hsz hbk hi h hgood HI
    go_enter Try.func38, Try.ntmps38
    go_wp2_with fail
    refine HC.out.mono ?_
    rintro e w2 ⟨v2, rfl, his2, hf2⟩
    obtain ⟨y0, y1, y2, y3, rfl⟩ := is_agg his2
    obtain ⟨k3, s3, n3, aa3, mm3, cc3, rfl, rfl, rfl, rfl⟩ := is_cells his2
    have R1 := Lib.hid (hf2.keeps HN.out no_one)
    obtain ⟨⟨z0, z1, z2, z3⟩, y0, y1, y2, y3⟩ := z24 R1.out
    have HIS := Lib.hid (his2.mono (ok' := fun b => w.heap.size + 1 + 1 < b) (fun b hb => by rw [HSZ.out] at hb; omega))
    have HF2 := Lib.hid (HF.out.then hf2)
    clear his2 hf2
    go_wp2_with fail
    (try simp only [Exit.inBlock, Exit.then])
    refine bodyPost_ret (results_ty rfl _ _ (w.heap.size + 1 + 1) _ rfl rfl (four_block R1.out _ _ _ _)) rfl ?_
    exact ⟨_, rfl, made_close (by omega) HF2.out HIS.out _ _ _ _⟩
end Go.Proofs.Ytfjddfcndammdaa
