/- The readers of names and type variables; the words of the language. -/
import Derived.Test.YtcaejcbmkiacmaaDoorWb
namespace Go.Proofs.YtcaejcbmkiacmaaDoor
open Go.RowKit

/-- a package-level variable holds a row of strings -/
def Strs (w : World) (g : Nat) (l : List Bs) : Prop :=
  ∃ b off cap, w.cell? ⟨g, 0, none⟩ = some (.slice (some ⟨b, off, none⟩) l.length cap) ∧ ∀ (i : Nat) (x : Bs), l[i]? = some x → w.cell? ⟨b, off + i, none⟩ = some (.string (mk x))
def Tables (w : World) : Prop := Strs w 0 words ∧ Strs w 1 signs
theorem Strs.below {w w' : World} {g : Nat} {l : List Bs} (h : Strs w g l) (hb : Below w.heap.size w w') : Strs w' g l := by
  obtain ⟨b, off, cap, h1, h2⟩ := h
  have keep : ∀ (a : Addr) (v : Value), w.cell? a = some v → w'.cell? a = some v := fun a v hc =>
    (World.cell?_of_block (hb.block _ (World.block_lt_of_cell? w _ hc))).trans hc
  exact ⟨b, off, cap, keep _ _ h1, fun i x hx => keep _ _ (h2 i x hx)⟩
theorem Tables.below {w w' : World} (h : Tables w) (hb : Below w.heap.size w w') : Tables w' := ⟨h.1.below hb, h.2.below hb⟩
def tokA (t : Tok) : Array Value := #[.int .u8 t.kind, .string (mk t.text), .int .i64 t.num, .int .i64 t.pos]
def tokV (t : Tok) : Value := .agg (tokA t)
/-- what a reader hands back -/
def readV : Option (Tok × Nat) → Value
  | none => .tuple #[.agg #[.int .u8 0, .string ⟨#[]⟩, .int .i64 0, .int .i64 0], .int .i64 0]
  | some (t, n) => .tuple #[tokV t, .int .i64 n]
theorem results_cell_tmp {P : Program} {fn : Func} {a t u : Nat} (h : fn.results = #[.cell a t, .tmp u]) (tmps : Array Value) (w : World) (g : Nat) (cs : Array Value)
    (ha : tmps.getD a undef = .pointer (some ⟨g, 0, none⟩)) (hl : (loadVar t ⟨g, 0, none⟩).run P w = .ok (.agg cs) w) :
    (results fn tmps).run P w = .ok (.tuple #[.agg cs, tmps.getD u undef]) w := by
  have e : (asAddr (tmps.getD a undef)).run P w = .ok ⟨g, 0, none⟩ w := by rw [ha]; rfl
  simp only [Array.getD_eq_getD_getElem?] at e ⊢
  simp [results, h, e, hl, Result.andThen]
theorem tok_row (w : World) (g : Nat) (cs : Array Value) (hs : cs.size = 4) (hb : w.heap[g]? = some (.cells cs 34 (0, 0))) :
    (loadVar 34 ⟨g, 0, none⟩).run Tryd.prog w = .ok (.agg cs) w :=
  run_loadVar_row w g 34 34 cs (0, 0) _ hb Tryd.underlying34 rfl (by rw [hs]; kernel_rfl)
theorem last_block (w : World) (o : Obj) : (w.alloc o).heap[w.heap.size]? = some o := by
  show (w.heap.push o)[w.heap.size]? = some o
  simp
theorem below_alloc (w : World) (o : Obj) : Below w.heap.size w (w.alloc o) := (Below.refl _ w).alloc (Nat.le_refl _) _

theorem word_any (x : Bs) (s : ByteArray) (hs : Hid (s = mk x)) (w : World) (hT : Hid (Tables w)) : Calls Tryd.prog 15 #[.string s] w fun e w' => e = .returned (.bool (decide (x ∈ words))) ∧ w' = w := by
  obtain ⟨⟨b, off, cap, h1, h2⟩, _⟩ := hT.out
  have hc : Calls Tryd.prog 27 #[.slice (some ⟨b, off, none⟩) words.length cap, .string s] w fun e w' => e = .returned (.bool (decide (x ∈ words))) ∧ w' = w := by
    refine (Tryd.slices_Contains_string b off words.length cap (words.map mk) s w (by simp) (by decide) ?_).mono ?_
    · intro j hj
      have hj2 : j < words.length := by simpa using hj
      rw [h2 j words[j] (List.getElem?_eq_getElem hj2)]
      simp [hj2]
    · rintro e w' ⟨rfl, rfl⟩
      refine ⟨?_, rfl⟩
      have e : (words.map mk).take words.length = words.map mk := List.take_of_length_le (by simp)
      rw [e, hs.out]
      congr 2
      rw [Bool.eq_iff_iff, Lib.containsS_iff, decide_eq_true_eq]
      constructor
      · intro h
        obtain ⟨y, hy, he⟩ := List.mem_map.1 h
        rw [← mk_inj he]
        exact hy
      · exact fun h => List.mem_map.2 ⟨x, h, rfl⟩
  have HC := Lib.hid hc
  have e : words.length = 22 := rfl
  rw [e] at h1 HC
  clear h2 hc e
  go_enter Tryd.func15, Tryd.ntmps15
  go_wp2_with fail
  refine HC.out.mono ?_
  rintro e w1 ⟨rfl, rfl⟩
  go_wp2_with fail
  go_ret
  exact ⟨rfl, rfl⟩

set_option maxHeartbeats 1000000 in
theorem name_any (l : Bs) (s : ByteArray) (hsl : Hid (s = mk l)) (n : Nat) (hn : n ≤ 2305843009213693952) (hs : s.size = n) (w : World) (hT : Hid (Tables w)) (h0 : Hid (l.takeWhile part ≠ [])) :
    Calls Tryd.prog 34 #[.string s] w fun e w' => e = .returned (readV (nameT l)) ∧ Below w.heap.size w w' := by
  have hr := fun w => run_any l s hsl 53 part (Lib.hid tells_part) enters53 n (by omega) hs w
  have hh := takeWhile_head part l h0.out
  obtain ⟨V, hV⟩ : ∃ V, readV (nameT l) = V := ⟨_, rfl⟩
  rw [hV]
  unfold nameT at hV
  rw [← hh] at hV
  have hp : 0 < (l.takeWhile part).length := List.length_pos_iff.2 h0.out
  have hm0 : (l.takeWhile part).length ≤ n := by
    rw [← hs, hsl.out, mk_size]
    exact (List.takeWhile_sublist part).length_le
  clear h0 hh
  generalize l.takeWhile part = x at hr hp hm0 hV
  have HR := Lib.hid hr
  clear hr
  obtain ⟨m, hm⟩ : ∃ m, x.length = m := ⟨_, rfl⟩
  have hxs : (mk x).size = m := by rw [mk_size, hm]
  have hx0 : 0 < (mk x).size := by rw [hxs]; omega
  have hg : ∀ w, Calls Tryd.prog 33 #[.int .u8 (mk x)[0].toNat] w fun e w' => e = .returned (.bool (great (x.headD 0))) ∧ w' = w := fun w => by
    rw [← mk_head x hx0]
    exact great_any _ w
  have HG := Lib.hid hg
  have hw : ∀ w', Below w.heap.size w w' → Calls Tryd.prog 15 #[.string (mk x)] w' fun e w2 => e = .returned (.bool (decide (x ∈ words))) ∧ w2 = w' := fun w' hb => word_any x _ (Lib.hid rfl) w' (Lib.hid (hT.out.below hb))
  have HW := Lib.hid hw
  clear hg hw
  have hV2 : readV (if 32 < m then none else some (⟨if great (x.headD 0) then 2 else if decide (x ∈ words) = true then 6 else 1, x, 0, 0⟩, m)) = V := by
    rw [← hV, hm]
    simp only [decide_eq_true_eq]
  clear hV
  generalize great (x.headD 0) = pg at HG hV2
  generalize decide (x ∈ words) = pw at HW hV2
  have HV := Lib.hid hV2
  rw [hm] at hp hm0
  have HM := Lib.hid hm
  clear hm hV2
  have E53 := enters53
  go_enter Tryd.func34, Tryd.ntmps34
  by_cases h32 : 32 < m
  · have hv := HV.out
    rw [if_pos h32] at hv
    have HV2 := Lib.hid hv
    clear hv HV
    go_wp2_with fail
    refine (HR.out _).mono ?_
    rintro e w1 ⟨rfl, rfl⟩
    go_wp2_with fail
    (try simp only [Exit.inBlock, Exit.then])
    refine bodyPost_ret (results_cell_tmp rfl _ _ _ _ rfl (tok_row _ _ _ rfl (last_block _ _))) rfl ?_
    refine ⟨congrArg Ending.returned ?_, below_alloc _ _⟩
    exact HV2.out
  · have hv := HV.out
    rw [if_neg h32] at hv
    have HV2 := Lib.hid hv
    clear hv HV
    cases pg
    · cases pw
      · go_wp2_with fail
        refine (HR.out _).mono ?_
        rintro e w1 ⟨rfl, rfl⟩
        go_wp2_with fail
        refine (HG.out _).mono ?_
        rintro e w1 ⟨rfl, rfl⟩
        go_wp2_with fail
        refine (HW.out _ (below_alloc _ _)).mono ?_
        rintro e w1 ⟨rfl, rfl⟩
        go_wp2_with fail
        (try simp only [Exit.inBlock, Exit.then])
        refine bodyPost_ret (results_cell_tmp rfl _ _ _ _ rfl (tok_row _ _ _ rfl (last_block _ _))) rfl ?_
        refine ⟨congrArg Ending.returned ?_, below_alloc _ _⟩
        exact HV2.out
      · go_wp2_with fail
        refine (HR.out _).mono ?_
        rintro e w1 ⟨rfl, rfl⟩
        go_wp2_with fail
        refine (HG.out _).mono ?_
        rintro e w1 ⟨rfl, rfl⟩
        go_wp2_with fail
        refine (HW.out _ (below_alloc _ _)).mono ?_
        rintro e w1 ⟨rfl, rfl⟩
        go_wp2_with fail
        (try simp only [Exit.inBlock, Exit.then])
        refine bodyPost_ret (results_cell_tmp rfl _ _ _ _ rfl (tok_row _ _ _ rfl (last_block _ _))) rfl ?_
        refine ⟨congrArg Ending.returned ?_, below_alloc _ _⟩
        exact HV2.out
    · go_wp2_with fail
      refine (HR.out _).mono ?_
      rintro e w1 ⟨rfl, rfl⟩
      go_wp2_with fail
      refine (HG.out _).mono ?_
      rintro e w1 ⟨rfl, rfl⟩
      go_wp2_with fail
      (try simp only [Exit.inBlock, Exit.then])
      refine bodyPost_ret (results_cell_tmp rfl _ _ _ _ rfl (tok_row _ _ _ rfl (last_block _ _))) rfl ?_
      refine ⟨congrArg Ending.returned ?_, below_alloc _ _⟩
      exact HV2.out
end Go.Proofs.YtcaejcbmkiacmaaDoor
