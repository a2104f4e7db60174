/- SyntaxDepth: the walk. -/
import Derived.Test.YtjabhmepafofmaaDoorLRz
import Derived.Test.YtjabhmepafofmaaDoorG24
set_option linter.unusedVariables false
set_option linter.unusedSimpArgs false
namespace Go.Proofs.YtjabhmepafofmaaDoor
open Go.RowKit

set_option maxHeartbeats 1000000 in
set_option maxRecDepth 100000 in
theorem depthlaw_any {ok : Nat → Prop} {l : List D} {v : Value} {w : World} (hx : Hx ok w (.row 16 (l.map xD)) v) (hs : Few (nDs l)) (hLV : LV w) : Calls Tryd.prog 5 #[v] w (Yes w) := by
  have HX := Lib.hid hx
  have HS := Lib.hid hs
  have HL := Lib.hid hLV
  obtain ⟨av, cv, rfl⟩ := hx_slice hx
  obtain ⟨N, hN⟩ : ∃ N, (l.map xD).length = N := ⟨_, rfl⟩
  rw [hN] at HX ⊢
  clear hN hx hs hLV
  obtain ⟨m, hm⟩ : ∃ m, dProg l = m := ⟨_, rfl⟩
  have HM := Lib.hid hm
  clear hm
  go_enter Tryd.func5, Tryd.ntmps5
  go_wp2_with fail
  refine (depth_any HX.out).mono ?_
  rw [HM.out]
  rintro e w1 ⟨rfl, hf⟩
  have HF := Lib.hid hf
  clear hf
  go_wp2_with fail
  refine (rdepth_any (HX.out.no HF.out) HS.out).mono ?_
  rw [HM.out]
  rintro e w2 ⟨rfl, hf⟩
  replace HF := Lib.hid (HF.out.then hf)
  clear hf
  go_wp2_with fail
  refine (works_any _ (HL.out.no HF.out)).mono ?_
  rintro e w3 ⟨rfl, hf⟩
  replace HF := Lib.hid (HF.out.then hf)
  clear hf
  go_wp2_with fail
  go_ret
  exact ⟨rfl, HF.out⟩
end Go.Proofs.YtjabhmepafofmaaDoor
