/- The laws' own small functions. -/
import Derived.Test.YthjecikdkdjlaaaEv
namespace Go.Proofs.Ythjecikdkdjlaaa
open Go.RowKit

set_option maxHeartbeats 1000000 in
set_option maxRecDepth 100000 in
theorem infos_any (w : World) : Calls Try.prog 16 #[] w fun e w' => Fr No w w' ∧ ∃ g, e = .returned (.slice (some ⟨g, 0, none⟩) 8 8) ∧ Infs w' (some ⟨g, 0, none⟩) infos18 := by
  go_enter Try.func16, Try.ntmps16
  go_wp2_with fail
  go_ret
  refine ⟨Fr.alloc w _, _, rfl, ?_⟩
  have hb := new_block w (.cells #[.string ⟨#[102, 97, 108, 115, 101]⟩, .string ⟨#[98, 111, 111, 108]⟩, .int .i64 0, .int .i64 2, .bool false, .string ⟨#[116, 114, 117, 101]⟩, .string ⟨#[98, 111, 111, 108]⟩, .int .i64 1, .int .i64 2, .bool false,
    .string ⟨#[78, 111, 110, 101]⟩, .string ⟨#[111, 112, 116, 105, 111, 110]⟩, .int .i64 0, .int .i64 2, .bool false, .string ⟨#[83, 111, 109, 101]⟩, .string ⟨#[111, 112, 116, 105, 111, 110]⟩, .int .i64 1, .int .i64 2, .bool true,
    .string ⟨#[78, 105, 108]⟩, .string ⟨#[108, 105, 115, 116]⟩, .int .i64 0, .int .i64 2, .bool false, .string ⟨#[67, 111, 110, 115]⟩, .string ⟨#[108, 105, 115, 116]⟩, .int .i64 1, .int .i64 2, .bool true,
    .string ⟨#[69]⟩, .string ⟨#[101, 120, 110]⟩, .int .i64 3, .int .i64 5, .bool false, .string ⟨#[70]⟩, .string ⟨#[101, 120, 110]⟩, .int .i64 4, .int .i64 5, .bool false] 30)
  intro j x hx
  refine ⟨_, 0, rfl, ?_⟩
  have hj : j < 8 := (List.getElem?_eq_some_iff.1 hx).1
  have h8 : j = 0 ∨ j = 1 ∨ j = 2 ∨ j = 3 ∨ j = 4 ∨ j = 5 ∨ j = 6 ∨ j = 7 := by omega
  rcases h8 with rfl | rfl | rfl | rfl | rfl | rfl | rfl | rfl <;> (cases hx; exact ⟨cell_of hb _, cell_of hb _, cell_of hb _, cell_of hb _, cell_of hb _⟩)
set_option maxHeartbeats 1000000 in
theorem con_any (s : ByteArray) (a : Option Addr) (n c : Nat) (w : World) : Calls Try.prog 19 #[.string s, .slice a n c] w fun e w' => e = .returned (.agg #[.int .u8 6, .string s, .int .i64 0, .slice a n c]) ∧ Fr No w w' := by
  go_enter Try.func19, Try.ntmps19
  go_wp2_with fail
  (try simp only [Exit.inBlock, Exit.then])
  refine bodyPost_ret (results_ty rfl _ _ w.heap.size _ rfl rfl (new_block w _)) rfl ?_
  exact ⟨rfl, Fr.alloc w _⟩
set_option maxHeartbeats 1000000 in
theorem wildf_any (w : World) : Calls Try.prog 18 #[] w fun e w' => e = .returned (.agg #[.int .u8 1, .string ⟨#[]⟩, .int .i64 0, .slice none 0 0]) ∧ Fr No w w' := by
  go_enter Try.func18, Try.ntmps18
  go_wp2_with fail
  (try simp only [Exit.inBlock, Exit.then])
  refine bodyPost_ret (results_ty rfl _ _ w.heap.size _ rfl rfl (new_block w _)) rfl ?_
  exact ⟨rfl, Fr.alloc w _⟩
def largeP (l : List T) (ni : Nat) : Bool := decide (300 < l.length) || (decide (60 < ni) || decide (3000 < partsL l))
set_option maxHeartbeats 1000000 in
theorem large_any (base : Nat) (l : List T) (n cap ni ci : Nat) (a ai : Option Addr) (w : World) (hn : l.length = n) (hP : partsL l ≤ 1152921504606846976) (hni : ni ≤ 1152921504606846976) (hrow : Row base (fun _ => True) w a 0 l) :
    Calls Try.prog 9 #[.slice a n cap, .slice ai ni ci] w (SaidT w (largeP l ni)) := by
  have HC := Lib.hid (rcount_any base (partsL l) l (Nat.le_refl _) hP a cap n w hn hrow)
  have HV : Hid (largeP l ni = (decide (300 < n) || (decide (60 < ni) || decide (3000 < partsL l)))) := Lib.hid (by rw [← hn]; rfl)
  obtain ⟨V, hV⟩ : ∃ V, largeP l ni = V := ⟨_, rfl⟩
  rw [hV] at HV ⊢
  obtain ⟨P, hPP⟩ : ∃ P, partsL l = P := ⟨_, rfl⟩
  have hpn : n ≤ P := by rw [← hn, ← hPP]; exact partsL_len l
  rw [hPP] at HC HV hP
  clear hrow hn hV hPP
  by_cases h1 : 300 < n
  · have hd : decide ((300 : Int) < (n : Int)) = true := decide_eq_true (by omega)
    have HR : Hid (V = true) := Lib.hid (by rw [HV.out, decide_eq_true h1]; rfl)
    clear HV h1
    go_enter Try.func9, Try.ntmps9
    go_wp2_with fail
    go_ret
    exact ⟨by rw [HR.out]; rfl, Fr.refl _ _⟩
  have hd : decide ((300 : Int) < (n : Int)) = false := decide_eq_false (by omega)
  by_cases h2 : 60 < ni
  · have hd2 : decide ((60 : Int) < (ni : Int)) = true := decide_eq_true (by omega)
    have HR : Hid (V = true) := Lib.hid (by rw [HV.out, decide_eq_true h2]; simp)
    clear HV h1 h2
    go_enter Try.func9, Try.ntmps9
    go_wp2_with fail
    go_ret
    exact ⟨by rw [HR.out]; rfl, Fr.refl _ _⟩
  have hd2 : decide ((60 : Int) < (ni : Int)) = false := decide_eq_false (by omega)
  by_cases h3 : 3000 < P
  · have hd3 : decide ((3000 : Int) < (P : Int)) = true := decide_eq_true (by omega)
    have HR : Hid (V = true) := Lib.hid (by rw [HV.out, decide_eq_true h3]; simp)
    clear HV h1 h2 h3
    go_enter Try.func9, Try.ntmps9
    go_wp2_with fail
    refine HC.out.mono ?_
    rintro e w' ⟨rfl, hf⟩
    have HF := Lib.hid hf
    clear hf
    go_wp2_with fail
    go_ret
    exact ⟨by rw [HR.out]; rfl, HF.out⟩
  · have hd3 : decide ((3000 : Int) < (P : Int)) = false := decide_eq_false (by omega)
    have HR : Hid (V = false) := Lib.hid (by rw [HV.out, decide_eq_false h1, decide_eq_false h2, decide_eq_false h3]; rfl)
    clear HV h1 h2 h3
    go_enter Try.func9, Try.ntmps9
    go_wp2_with fail
    refine HC.out.mono ?_
    rintro e w' ⟨rfl, hf⟩
    have HF := Lib.hid hf
    clear hf
    go_wp2_with fail
    go_ret
    exact ⟨by rw [HR.out]; rfl, HF.out⟩
end Go.Proofs.Ythjecikdkdjlaaa
