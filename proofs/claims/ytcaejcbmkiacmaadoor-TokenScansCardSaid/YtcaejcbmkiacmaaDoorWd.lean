/- The readers of type variables and signs; which reader. -/
import Derived.Test.YtcaejcbmkiacmaaDoorWc
namespace Go.Proofs.YtcaejcbmkiacmaaDoor
open Go.RowKit

set_option maxHeartbeats 1000000 in
theorem tick_any (l : Bs) (s : ByteArray) (hsl : Hid (s = mk l)) (n : Nat) (hn : n ≤ 2305843009213693952) (hs : s.size = n) (hn0 : 0 < n) (w : World) :
    Calls Tryd.prog 37 #[.string s] w fun e w' => e = .returned (readV (tickT l)) ∧ Below w.heap.size w w' := by
  have hlen : l.length = n := by rw [← hs, hsl.out, mk_size]
  have HX : Hid (s.extract 1 n = mk (l.drop 1)) := Lib.hid (by rw [hsl.out, mk_drop l 1 n hlen.symm])
  have hsz : (s.extract 1 n).size = n - 1 := by rw [HX.out, mk_size, List.length_drop, hlen]
  have hr := fun w => run_any (l.drop 1) (s.extract 1 n) HX 53 part (Lib.hid tells_part) enters53 (n - 1) (by omega) hsz w
  obtain ⟨V, hV⟩ : ∃ V, readV (tickT l) = V := ⟨_, rfl⟩
  rw [hV]
  unfold tickT at hV
  have hm0 : ((l.drop 1).takeWhile part).length ≤ n - 1 := by
    have h1 := (List.takeWhile_sublist part (l := l.drop 1)).length_le
    rw [List.length_drop, hlen] at h1
    exact h1
  have hh := takeWhile_head part (l.drop 1)
  have HL := Lib.hid hlen
  clear hlen hsz
  generalize (l.drop 1).takeWhile part = x at hr hm0 hV hh
  have HR := Lib.hid hr
  clear hr
  obtain ⟨m, hm⟩ : ∃ m, x.length = m := ⟨_, rfl⟩
  have hxs : (mk x).size = m := by rw [mk_size, hm]
  rw [hm] at hV hm0
  have E53 := enters53
  by_cases h0 : m = 0
  · have hx : x = [] := List.eq_nil_of_length_eq_zero (by omega)
    subst hx
    rw [if_pos (.inl rfl)] at hV
    have HV2 := Lib.hid hV
    have e : mk [] = ⟨#[]⟩ := rfl
    rw [e] at HR
    clear hV hh hm HX hxs e
    go_enter Tryd.func37, Tryd.ntmps37
    go_wp2_with fail
    refine (HR.out _).mono ?_
    rintro e w1 ⟨rfl, rfl⟩
    go_wp2_with fail
    (try simp only [Exit.inBlock, Exit.then])
    refine bodyPost_ret (results_cell_tmp rfl _ _ _ _ rfl (tok_row _ _ _ rfl (last_block _ _))) rfl ?_
    refine ⟨congrArg Ending.returned ?_, below_alloc _ _⟩
    exact HV2.out
  · have hx : x ≠ [] := fun e => h0 (by rw [← hm, e]; rfl)
    have hx0 : 0 < (mk x).size := by rw [hxs]; omega
    have hne : (mk x).toList.isEmpty = false := by
      rw [show (mk x).toList = x from ByteArray.toList_mk x]
      cases x with
      | nil => exact absurd rfl hx
      | cons a r => rfl
    have hg : ∀ w, Calls Tryd.prog 32 #[.int .u8 (mk x)[0].toNat] w fun e w' => e = .returned (.bool (small (x.headD 0))) ∧ w' = w := fun w => by
      rw [← mk_head x hx0]
      exact small_any _ w
    have HG := Lib.hid hg
    rw [← hh hx] at hV
    clear hg hh
    generalize small (x.headD 0) = pg at HG hV
    have HM := Lib.hid hm
    have HN := Lib.hid hx
    clear hm hx
    have hmp : 0 < m := by omega
    go_enter Tryd.func37, Tryd.ntmps37
    by_cases h32 : 32 < m
    · rw [if_pos (.inr (.inl h32))] at hV
      have HV2 := Lib.hid hV
      clear hV
      go_wp2_with fail
      refine (HR.out _).mono ?_
      rintro e w1 ⟨rfl, rfl⟩
      go_wp2_with fail
      (try simp only [Exit.inBlock, Exit.then])
      refine bodyPost_ret (results_cell_tmp rfl _ _ _ _ rfl (tok_row _ _ _ rfl (last_block _ _))) rfl ?_
      refine ⟨congrArg Ending.returned ?_, below_alloc _ _⟩
      exact HV2.out
    · cases pg
      · rw [if_pos (.inr (.inr rfl))] at hV
        have HV2 := Lib.hid hV
        clear hV
        go_wp2_with fail
        refine (HR.out _).mono ?_
        rintro e w1 ⟨rfl, rfl⟩
        go_wp2_with fail
        refine (HG.out _).mono ?_
        rintro e w1 ⟨rfl, rfl⟩
        go_wp2_with fail
        (try simp only [Exit.inBlock, Exit.then])
        refine bodyPost_ret (results_cell_tmp rfl _ _ _ _ rfl (tok_row _ _ _ rfl (last_block _ _))) rfl ?_
        refine ⟨congrArg Ending.returned ?_, below_alloc _ _⟩
        exact HV2.out
      · rw [if_neg (fun h => h.elim HN.out (fun h => h.elim h32 (fun e => by cases e)))] at hV
        have hk : mk (l.take (1 + m)) = s.extract 0 (1 + m) := by rw [hsl.out, mk_take]
        have HV2 := Lib.hid hV
        have HK := Lib.hid hk
        clear hV hk
        go_wp2_with fail
        refine (HR.out _).mono ?_
        rintro e w1 ⟨rfl, rfl⟩
        go_wp2_with fail
        refine (HG.out _).mono ?_
        rintro e w1 ⟨rfl, rfl⟩
        go_wp2_with fail
        (try simp only [Exit.inBlock, Exit.then])
        refine bodyPost_ret (results_cell_tmp rfl _ _ _ _ rfl (tok_row _ _ _ rfl (last_block _ _))) rfl ?_
        refine ⟨congrArg Ending.returned ?_, below_alloc _ _⟩
        show Value.tuple #[.agg #[.int .u8 3, .string (s.extract 0 (1 + m)), .int .i64 0, .int .i64 0], .int .i64 (1 + (m : Int))] = V
        rw [← HV2.out, ← HK.out]
        simp [readV, tokV, tokA]



theorem signFrom_none (l : Bs) : ∀ (ss : List Bs), (∀ x, x ∈ ss → x.isPrefixOf l = false) → signFrom l ss = none
  | [], _ => rfl
  | x :: r, h => by
    rw [signFrom, h x (by simp)]
    exact signFrom_none l r fun y hy => h y (by simp [hy])
theorem signFrom_at (l : Bs) : ∀ (ss : List Bs) (q : Nat) (x : Bs), (∀ k, k < q → ∀ y, ss[k]? = some y → y.isPrefixOf l = false) → ss[q]? = some x → x.isPrefixOf l = true → signFrom l ss = some (⟨7, x, 0, 0⟩, x.length)
  | [], q, x, _, h, _ => by simp at h
  | y :: r, 0, x, _, h, hp => by
    simp only [List.getElem?_cons_zero, Option.some.injEq] at h
    subst h
    rw [signFrom, if_pos hp]
  | y :: r, q + 1, x, h0, h, hp => by
    rw [signFrom, h0 0 (by omega) y rfl]
    exact signFrom_at l r q x (fun k hk z hz => h0 (k + 1) (by omega) z (by simpa using hz)) (by simpa using h) hp

set_option maxHeartbeats 1000000 in
theorem sign_any (l : Bs) (s : ByteArray) (hsl : Hid (s = mk l)) (w : World) (hT : Hid (Tables w)) :
    Calls Tryd.prog 39 #[.string s] w fun e w' => e = .returned (readV (signT l)) ∧ Below w.heap.size w w' := by
  obtain ⟨V, hV⟩ : ∃ V, readV (signT l) = V := ⟨_, rfl⟩
  rw [hV]
  have HV := Lib.hid hV
  clear hV
  obtain ⟨_, ⟨b, off, cap, h1, h2⟩⟩ := hT.out
  have e : signs.length = 22 := rfl
  rw [e] at h1
  have hlt := World.block_lt_of_cell? w _ h1
  have H2 := Lib.hid h2
  have hp : ∀ (x : Bs) (w : World), Calls Tryd.prog 50 #[.string s, .string (mk x)] w fun e w' => e = .returned (.bool (x.isPrefixOf l)) ∧ w' = w := fun x w => by
    have := Tryd.strings_HasPrefix s (mk x) w
    rw [hsl.out, mk_data, mk_data, ← hsl.out] at this
    exact this
  have HP := Lib.hid hp
  clear h2 e hp
  go_enter Tryd.func39, Tryd.ntmps39
  go_wp2_with fail
  go_loopw [8] (fun i wr => wr = w.alloc (.cells #[.int .u8 0, .string ⟨#[]⟩, .int .i64 0, .int .i64 0] 34) ∧ ∃ q : Nat, q ≤ 22 ∧ i = .int .i64 q ∧ Hid (∀ k, k < q → ∀ y, signs[k]? = some y → y.isPrefixOf l = false)) (fun i _ => 22 - (intOf i).toNat)
  case atStart => exact ⟨rfl, 0, Nat.zero_le _, rfl, Lib.hid fun _ h => by omega⟩
  case round =>
    obtain ⟨rfl, q, hq, rfl, HI⟩ := hrel
    by_cases hlt2 : q < 22
    · obtain ⟨x, hx⟩ : ∃ x, signs[q]? = some x := ⟨_, List.getElem?_eq_getElem (show q < signs.length from hlt2)⟩
      have hxl : x.length ≤ 2 := by
        have hall : ∀ y ∈ signs, y.length ≤ 2 := by decide
        exact hall x (List.mem_of_getElem? hx)
      have hc := H2.out q x hx
      have hbl := World.block_lt_of_cell? w _ hc
      have hpx := fun w => HP.out x w
      have HX := Lib.hid hx
      clear hx
      cases hpp : x.isPrefixOf l
      · simp only [hpp] at hpx
        have HPX := Lib.hid hpx
        have HPP := Lib.hid hpp
        clear hpp hpx
        go_wp2_with fail
        refine (HPX.out _).mono ?_
        rintro e w1 ⟨rfl, rfl⟩
        go_wp2_with fail
        refine ⟨⟨trivial, q + 1, by omega, by go_num, Lib.hid fun k hk y hy => ?_⟩, by simp [intOf]; omega⟩
        by_cases e : k = q
        · subst e
          rw [HX.out] at hy
          injection hy with hy
          rw [← hy]
          exact HPP.out
        · exact HI.out k (by omega) y hy
      · simp only [hpp] at hpx
        have HPX := Lib.hid hpx
        have HPP := Lib.hid hpp
        clear hpp hpx
        obtain ⟨m, hm⟩ : ∃ m, x.length = m := ⟨_, rfl⟩
        have hxs : (mk x).size = m := by rw [mk_size, hm]
        have HM := Lib.hid hm
        rw [hm] at hxl
        clear hm
        go_wp2_with fail
        refine (HPX.out _).mono ?_
        rintro e w1 ⟨rfl, rfl⟩
        go_wp2_with fail
        (try simp only [Exit.inBlock, Exit.then])
        refine bodyPost_ret (results_cell_tmp rfl _ _ _ _ rfl (tok_row _ _ _ rfl (last_block _ _))) rfl ?_
        refine ⟨congrArg Ending.returned ?_, below_alloc _ _⟩
        rw [← HV.out, signT, signFrom_at l signs q x HI.out HX.out HPP.out, HM.out]
        rfl
    · go_wp2_with fail
      (try simp only [Exit.inBlock, Exit.then])
      refine bodyPost_ret (results_cell_tmp rfl _ _ _ _ rfl (tok_row _ _ _ rfl (last_block _ _))) rfl ?_
      refine ⟨congrArg Ending.returned ?_, below_alloc _ _⟩
      rw [← HV.out, signT, signFrom_none l signs]
      · rfl
      · intro y hy
        obtain ⟨k, hk, e⟩ := List.mem_iff_getElem.1 hy
        exact HI.out k (by have : signs.length = 22 := rfl; omega) y (by rw [List.getElem?_eq_getElem hk, e])
end Go.Proofs.YtcaejcbmkiacmaaDoor
