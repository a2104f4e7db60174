/- Alike, where it is so; the digits of a number. -/
import Derived.Test.YtcaejcbmkiacmaaDoorWk
import Derived.Test.YtcaejcbmkiacmaaDoorBackPlain
namespace Go.Proofs.YtcaejcbmkiacmaaDoor
open Go.RowKit

theorem alikeL_get : ∀ (ts ms : List Tok) (k : Nat) (t : Tok), AlikeL ts ms → ts[k]? = some t → ∃ m, ms[k]? = some m ∧ t.kind = m.kind ∧ t.text = m.text ∧ t.num = m.num
  | [], _, k, t, _, h => by simp at h
  | a :: r, [], k, t, ha, _ => ha.elim
  | a :: r, b :: s, 0, t, ha, h => by
    simp only [List.getElem?_cons_zero, Option.some.injEq] at h
    subst h
    exact ⟨b, rfl, by rw [ha.1], by rw [ha.1], by rw [ha.1]⟩
  | a :: r, b :: s, k + 1, t, ha, h => by
    have := alikeL_get r s k t ha.2 (by simpa using h)
    simpa using this
theorem alikeL_len : ∀ (ts ms : List Tok), AlikeL ts ms → ts.length = ms.length
  | [], [], _ => rfl
  | [], _ :: _, h => h.elim
  | _ :: _, [], h => h.elim
  | _ :: r, _ :: s, h => by simp [alikeL_len r s h.2]
set_option maxHeartbeats 2000000 in
theorem alike_true (ts ms : List Tok) (a1 a2 : Option Addr) (n c1 c2 : Nat) (w : World) (hn : n ≤ 1099511627776) (hl : Hid (ts.length = n)) (ha : Hid (AlikeL ts ms)) (h1 : Hid (RowAt w a1 ts)) (h2 : Hid (RowAt w a2 ms)) :
    Calls Tryd.prog 18 #[.slice a1 n c1, .slice a2 n c2] w (Said w true) := by
  go_enter Tryd.func18, Tryd.ntmps18
  go_wp2_with fail
  go_loopw [5] (fun i wr => ∃ k : Nat, k ≤ n ∧ i = .int .i64 k ∧ Hid (Below w.heap.size w wr)) (fun i _ => n - (intOf i).toNat)
  case atStart => exact ⟨0, Nat.zero_le _, rfl, Lib.hid (Below.refl _ _)⟩
  case round =>
    obtain ⟨k, hk, rfl, HF⟩ := hrel
    by_cases hkn : k = n
    · go_wp2_with fail
      go_ret
      exact ⟨rfl, HF.out⟩
    · obtain ⟨t, ht⟩ : ∃ t, ts[k]? = some t := ⟨_, List.getElem?_eq_getElem (by rw [hl.out]; omega)⟩
      obtain ⟨m, hm, e1, e2, e3⟩ := alikeL_get ts ms k t ha.out ht
      obtain ⟨g1, rfl, c0, c1, c2, c3⟩ := (h1.out.below HF.out) k t ht
      obtain ⟨g2, rfl, d0, d1, d2, d3⟩ := (h2.out.below HF.out) k m hm
      rw [e1] at c0
      rw [e2] at c1
      rw [e3] at c2
      have HD := Lib.hid (And.intro d0 (And.intro d1 (And.intro d2 d3)))
      have dd : ∀ (o : Obj), (wr.alloc o).cell? ⟨g2, k * 4, none⟩ = some (.int .u8 m.kind) ∧ (wr.alloc o).cell? ⟨g2, k * 4 + 1, none⟩ = some (.string (mk m.text)) ∧ (wr.alloc o).cell? ⟨g2, k * 4 + 2, none⟩ = some (.int .i64 m.num) ∧ (wr.alloc o).cell? ⟨g2, k * 4 + 3, none⟩ = some (.int .i64 m.pos) := fun o =>
        ⟨((below_alloc wr o).cell (cell_lt d0)).trans d0, ((below_alloc wr o).cell (cell_lt d1)).trans d1, ((below_alloc wr o).cell (cell_lt d2)).trans d2, ((below_alloc wr o).cell (cell_lt d3)).trans d3⟩
      have hlt : g2 ≠ wr.heap.size := fun e => by have h := cell_lt d0; rw [e] at h; exact Nat.lt_irrefl _ h
      clear ht hm e1 e2 e3
      go_wp2_with fail
      go_quiet (fail)
      go_wp2_with fail
      exact ⟨⟨k + 1, by omega, by go_num, Lib.hid (below_drew (HF.out.trans ((below_alloc wr _).mono HF.out.size)) nq)⟩, by simp [intOf]; omega⟩
theorem mk_append2 (x y : Bs) : mk x ++ mk y = mk (x ++ y) := by
  have h : (mk x ++ mk y).data = (mk (x ++ y)).data := by simp [mk, ByteArray.data_append]
  have e : ∀ s : ByteArray, s = ⟨s.data⟩ := fun _ => rfl
  rw [e (mk x ++ mk y), h]
theorem digit_cut : ∀ v, v < 10 → (⟨#[48, 49, 50, 51, 52, 53, 54, 55, 56, 57]⟩ : ByteArray).extract v (v + 1) = mk [UInt8.ofNat (48 + v)] := by
  intro v hv
  match v, hv with
  | 0, _ | 1, _ | 2, _ | 3, _ | 4, _ | 5, _ | 6, _ | 7, _ | 8, _ | 9, _ => rfl
theorem digitsL_len : ∀ (k n : Nat), n < 10 ^ (k + 1) → (digitsL n).length ≤ k + 1
  | 0, n, h => by
    rw [digitsL, if_pos (by simpa using h)]
    simp
  | k + 1, n, h => by
    rw [digitsL]
    split
    · simp
    · have : n / 10 < 10 ^ (k + 1) := by
        rw [Nat.div_lt_iff_lt_mul (by decide)]
        rw [Nat.pow_succ] at h
        exact h
      have := digitsL_len k (n / 10) this
      rw [List.length_append]
      simp
      omega
theorem digitsL_19 (n : Nat) (h : n ≤ 4611686018427387903) : (digitsL n).length ≤ 19 := digitsL_len 18 n (by
  have : (10 : Nat) ^ (18 + 1) = 10000000000000000000 := by decide
  omega)
set_option maxHeartbeats 1000000 in
theorem digits_any : ∀ (n v : Nat), v < n → v ≤ 4611686018427387903 → ∀ w : World, Calls Tryd.prog 29 #[.int .i64 v] w fun e w' => e = .returned (.string (mk (digitsL v))) ∧ ∃ m, w' = w.drewN m
  | 0, v, h, _, _ => by omega
  | n + 1, v, h, hv, w => by
    by_cases h10 : v < 10
    · have hd := digit_cut v h10
      have e : digitsL v = [UInt8.ofNat (48 + v)] := by rw [digitsL, if_pos h10]
      rw [e]
      obtain ⟨d, hdd⟩ : ∃ d, UInt8.ofNat (48 + v) = d := ⟨_, rfl⟩
      rw [hdd] at hd ⊢
      clear e hdd
      have b1 : (0 : Int) ≤ (v : Int) := by omega
      have b2 : (v : Int) ≤ (v : Int) + 1 := by omega
      have b3 : (v : Int) + 1 ≤ 10 := by omega
      have b4 : ((v : Int) + 1).toNat = v + 1 := by omega
      go_enter Tryd.func29, Tryd.ntmps29
      go_wp2_with fail
      go_ret
      exact ⟨rfl, 0, rfl⟩
    · obtain ⟨q, hq⟩ : ∃ q, v / 10 = q := ⟨_, rfl⟩
      obtain ⟨r, hr⟩ : ∃ r, v % 10 = r := ⟨_, rfl⟩
      have hr10 : r < 10 := by omega
      have hqv : q ≤ 4611686018427387903 := by omega
      have hd := digit_cut r hr10
      have e : digitsL v = digitsL q ++ [UInt8.ofNat (48 + r)] := by rw [digitsL, if_neg h10, hq, hr]
      rw [e]
      obtain ⟨d, hdd⟩ : ∃ d, UInt8.ofNat (48 + r) = d := ⟨_, rfl⟩
      rw [hdd] at hd ⊢
      have ih := Lib.hid (digits_any n q (by omega) hqv)
      have hs1 : (mk (digitsL q)).size ≤ 19 := by rw [mk_size]; exact digitsL_19 q hqv
      have hs2 : (mk [d]).size ≤ 1 := by rw [mk_size]; exact Nat.le_refl _
      have hs3 : ¬ 9223372036854775807 < (mk (digitsL q)).size + (mk [d]).size := by omega
      have x0 : (v : Int) / 10 = (q : Int) := by omega
      have x1 : (v : Int) % 10 = (r : Int) := by omega
      have x5 : (v : Int).tmod 10 = (r : Int) := by rw [Int.tmod_eq_emod_of_nonneg (by omega)]; exact x1
      have x2 : IntKind.i64.wrap (q : Int) = (q : Int) := by rw [IntKind.wrap_i64]; omega
      have x3 : IntKind.i64.wrap (r : Int) = (r : Int) := by rw [IntKind.wrap_i64]; omega
      have x4 : IntKind.i64.wrap ((r : Int) + 1) = (r : Int) + 1 := by rw [IntKind.wrap_i64]; omega
      have b1 : (0 : Int) ≤ (r : Int) := by omega
      have b2 : (r : Int) ≤ (r : Int) + 1 := by omega
      have b3 : (r : Int) + 1 ≤ 10 := by omega
      have b4 : ((r : Int) + 1).toNat = r + 1 := by omega
      rw [← mk_append2]
      clear e hdd hq hr
      go_enter Tryd.func29, Tryd.ntmps29
      go_wp2_with fail
      go_quiet (first | (go_at_call 29; exact Calls.quiet_of (ih.out _)))
      go_wp2_with fail
      go_ret
      exact ⟨rfl, _, rfl⟩
end Go.Proofs.YtcaejcbmkiacmaaDoor
