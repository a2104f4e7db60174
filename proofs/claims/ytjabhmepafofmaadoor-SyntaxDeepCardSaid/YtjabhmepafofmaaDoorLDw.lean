/- SyntaxDeep: the walk. -/
import Derived.Test.YtjabhmepafofmaaDoorLDn
import Derived.Test.YtjabhmepafofmaaDoorG24
set_option linter.unusedVariables false
set_option linter.unusedSimpArgs false
namespace Go.Proofs.YtjabhmepafofmaaDoor
open Go.RowKit

def d1 (i : Nat) : List UInt8 := [100, 111, 32] ++ List.replicate i 33
def d2 (n j : Nat) : List UInt8 := d1 n ++ List.replicate j 40
def d3 (n r j : Nat) : List UInt8 := d2 n r ++ [120] ++ List.replicate j 41
theorem d1_len (i : Nat) : (d1 i).length = i + 3 := by simp [d1]
theorem d2_len (n j : Nat) : (d2 n j).length = n + 3 + j := by simp [d2, d1_len]
theorem d3_len (n r j : Nat) : (d3 n r j).length = n + 3 + r + 1 + j := by simp [d3, d2_len]; omega
theorem d1_zero : d1 0 = [100, 111, 32] := rfl
theorem d1_succ (i : Nat) : Sc.mk (d1 i) ++ ⟨#[33]⟩ = Sc.mk (d1 (i + 1)) := by
  rw [show (⟨#[33]⟩ : ByteArray) = Sc.mk [33] from rfl, mk_append, d1, d1, List.replicate_succ', List.append_assoc]
theorem d2_zero (n : Nat) : Sc.mk (d1 n) = Sc.mk (d2 n 0) := by simp [d2]
theorem d2_succ (n i : Nat) : Sc.mk (d2 n i) ++ ⟨#[40]⟩ = Sc.mk (d2 n (i + 1)) := by
  rw [show (⟨#[40]⟩ : ByteArray) = Sc.mk [40] from rfl, mk_append, d2, d2, List.replicate_succ', List.append_assoc]
theorem d3_zero (n r : Nat) : Sc.mk (d2 n r) ++ ⟨#[120]⟩ = Sc.mk (d3 n r 0) := by
  rw [show (⟨#[120]⟩ : ByteArray) = Sc.mk [120] from rfl, mk_append]
  simp [d3]
theorem d3_succ (n r i : Nat) : Sc.mk (d3 n r i) ++ ⟨#[41]⟩ = Sc.mk (d3 n r (i + 1)) := by
  rw [show (⟨#[41]⟩ : ByteArray) = Sc.mk [41] from rfl, mk_append, d3, d3, List.replicate_succ', List.append_assoc _ _ [41]]
theorem d3_all (n r : Nat) : Sc.mk (d3 n r r) ++ ⟨#[59]⟩ = Sc.mk (dnS n r) := by
  rw [show (⟨#[59]⟩ : ByteArray) = Sc.mk [59] from rfl, mk_append, dnS, parS_eq]
  simp [d3, d2, d1]

set_option maxHeartbeats 4000000 in
set_option maxRecDepth 100000 in
theorem deep_any (n r : Nat) (h0 : n ≤ 255) (h1 : r ≤ 255) (w : World) (hLV : Hid (LV w)) : Calls Tryd.prog 4 #[.int .u8 n, .int .u8 r] w (Yes w) := by
  obtain ⟨hr, hlen⟩ := dn_all n r h0 h1
  have HT := fun (s : ByteArray) (he : s = Sc.mk (dnS n r)) (u : World) => (tokens_any (dnS n r) s (Lib.hid he) _ (Lib.hid rfl) (by rw [dnS_len]; omega) u)
  have HP := fun (a : Option Addr) (c : Nat) (u : World) (hu : LV u) (ht : TokAt u a (toks (dnS n r))) => by
    have := parse_any (a := a) (c := c) (l := toks (dnS n r)) (w := u) (11 * r + n + 11) 2 (fun gp hg => ⟨ht.row gp hg, hu gp hg⟩) (by omega) (by rw [hr]; intro e; cases e)
    rw [hr] at this
    exact this
  obtain ⟨L, hL⟩ : ∃ L, (toks (dnS n r)).length = L := ⟨_, rfl⟩
  rw [hL] at HT HP
  have HT := Lib.hid HT
  have HP := Lib.hid HP
  clear hr hlen hL
  have hn0 : (0 : Int) ≤ (n : Int) := by omega
  have hn1 : (n : Int) ≤ 255 := by omega
  have hr0 : (0 : Int) ≤ (r : Int) := by omega
  have hr1 : (r : Int) ≤ 255 := by omega
  go_enter Tryd.func4, Tryd.ntmps4
  go_upto_region 2 with fail
  go_wp2_with fail
  go_loopw [5, 6] (fun s v wr => w = wr ∧ ∃ q : Nat, q ≤ n ∧ v = .int .i64 (q : Nat) ∧ s = .string (Sc.mk (d1 q))) (fun _ v _ => n - intOf v)
  case atStart => exact ⟨rfl, 0, Nat.zero_le _, rfl, rfl⟩
  case round =>
    obtain ⟨rfl, q, hq, rfl, rfl⟩ := hrel
    by_cases hlt : q < n
    · have hd0 : decide (q < n) = true := decide_eq_true hlt
      have hsz : (Sc.mk (d1 q)).size = q + 3 := by rw [Sc.mk_size, d1_len]
      have g1 : ¬ 9223372036854775807 < (Sc.mk (d1 q)).size + 1 := by omega
      have hq0 : (0 : Int) ≤ (q : Int) := by omega
      clear hsz
      go_wp2_with fail
      exact ⟨⟨trivial, q + 1, by omega, by go_num, by rw [d1_succ]⟩, by simp [intOf]; omega⟩
    · have hd0 : decide (q < n) = false := decide_eq_false hlt
      obtain rfl : q = n := by omega
      clear hlt hq
      go_wp2_with fail
      rw [d2_zero]
      go_loopw [5, 7] (fun s v wr => w = wr ∧ ∃ j : Nat, j ≤ r ∧ v = .int .i64 (j : Nat) ∧ s = .string (Sc.mk (d2 q j))) (fun _ v _ => r - intOf v)
      case atStart => exact ⟨rfl, 0, Nat.zero_le _, rfl, rfl⟩
      case round =>
        obtain ⟨rfl, j, hj, rfl, rfl⟩ := hrel
        by_cases hlt : j < r
        · have hd0 : decide (j < r) = true := decide_eq_true hlt
          have hsz : (Sc.mk (d2 q j)).size = q + 3 + j := by rw [Sc.mk_size, d2_len]
          have g1 : ¬ 9223372036854775807 < (Sc.mk (d2 q j)).size + 1 := by omega
          have hq0 : (0 : Int) ≤ (j : Int) := by omega
          clear hsz
          go_wp2_with fail
          exact ⟨⟨trivial, j + 1, by omega, by go_num, by rw [d2_succ]⟩, by simp [intOf]; omega⟩
        · have hd0 : decide (j < r) = false := decide_eq_false hlt
          obtain rfl : j = r := by omega
          have hsz : (Sc.mk (d2 q j)).size = q + 3 + j := by rw [Sc.mk_size, d2_len]
          have g1 : ¬ 9223372036854775807 < (Sc.mk (d2 q j)).size + 1 := by omega
          clear hlt hj hsz
          go_wp2_with fail
          rw [d3_zero]
          go_loopw [5, 8] (fun s v wr => w = wr ∧ ∃ k : Nat, k ≤ j ∧ v = .int .i64 (k : Nat) ∧ s = .string (Sc.mk (d3 q j k))) (fun _ v _ => j - intOf v)
          case atStart => exact ⟨rfl, 0, Nat.zero_le _, rfl, rfl⟩
          case round =>
            obtain ⟨rfl, k, hk, rfl, rfl⟩ := hrel
            by_cases hlt : k < j
            · have hd0 : decide (k < j) = true := decide_eq_true hlt
              have hsz : (Sc.mk (d3 q j k)).size = q + 3 + j + 1 + k := by rw [Sc.mk_size, d3_len]
              have g2 : ¬ 9223372036854775807 < (Sc.mk (d3 q j k)).size + 1 := by omega
              have hq0 : (0 : Int) ≤ (k : Int) := by omega
              clear hsz
              go_wp2_with fail
              exact ⟨⟨trivial, k + 1, by omega, by go_num, by rw [d3_succ]⟩, by simp [intOf]; omega⟩
            · have hd0 : decide (k < j) = false := decide_eq_false hlt
              obtain rfl : k = j := by omega
              have hsz : (Sc.mk (d3 q k k)).size = q + 3 + k + 1 + k := by rw [Sc.mk_size, d3_len]
              have g2 : ¬ 9223372036854775807 < (Sc.mk (d3 q k k)).size + 1 := by omega
              clear hlt hk hsz
              go_wp2_with fail
              refine (HT.out _ (d3_all q k) _).mono ?_
              rintro e w2 ⟨hf, a1, c1', rfl, ho⟩
              have HF2 := Lib.hid hf
              have HT2 := Lib.hid ho.at_
              clear hf ho
              go_wp2_with fail
              refine (HP.out a1 c1' w2 (hLV.out.no HF2.out) HT2.out).mono ?_
              intro e w3 h
              simp only [ParseR, List.map_cons, List.map_nil] at h
              obtain ⟨hf, h⟩ := h
              have HF3 := Lib.hid (HF2.out.then hf)
              clear hf HT2 HF2
              rw [dn_depth q (by omega)] at h
              by_cases hd : 98 < q
              · rw [if_pos (by omega)] at h
                subst h
                have hdd : decide (100 < (q : Int) + 2) = true := decide_eq_true (by omega)
                go_wp2_with fail
                refine (works_any _ (hLV.out.no HF3.out)).mono ?_
                rintro e w4 ⟨rfl, hf⟩
                have HF4 := Lib.hid (HF3.out.then hf)
                clear hf
                go_wp2_with fail
                go_ret
                exact ⟨rfl, HF4.out⟩
              · rw [if_neg (by omega)] at h
                obtain ⟨v, rfl, hx⟩ := h
                have hdd : decide (100 < (q : Int) + 2) = false := decide_eq_false (by omega)
                go_wp2_with fail
                refine (depth_any (l := [dnD q]) hx).mono ?_
                rw [dn_depth q (by omega)]
                rintro e w4 ⟨rfl, hf⟩
                have HF4 := Lib.hid (HF3.out.then hf)
                clear hf hx
                have hde : decide ((q : Int) + 2 = (q : Int) + 2) = true := decide_eq_true rfl
                go_wp2_with fail
                refine (works_any _ (hLV.out.no HF4.out)).mono ?_
                rintro e w5 ⟨rfl, hf⟩
                have HF5 := Lib.hid (HF4.out.then hf)
                clear hf
                go_wp2_with fail
                go_ret
                exact ⟨rfl, HF5.out⟩

end Go.Proofs.YtjabhmepafofmaaDoor
