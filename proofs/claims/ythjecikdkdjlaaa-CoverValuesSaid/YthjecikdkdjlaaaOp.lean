/- What the laws' arguments are in memory: rows of patterns, infos. -/
import Derived.Test.YthjecikdkdjlaaaPost
import Derived.Test.YthjecikdkdjlaaaPl
namespace Go.Proofs.Ythjecikdkdjlaaa
open Go.ChangeShapes Go.WideShapes Go.ChangeAt Go.RowKit Go.Deep
theorem cells40 : Try.prog.cellsOf 40 = 4 := by kernel_rfl
theorem list_of {α : Type} {P : Nat → α → Prop} : ∀ (n : Nat), (∀ i, i < n → ∃ t, P i t) → ∃ l : List α, l.length = n ∧ ∀ (i : Nat) (t : α), l[i]? = some t → P i t
  | 0, _ => ⟨[], rfl, fun i t h => by simp at h⟩
  | n + 1, h => by
    obtain ⟨l, h1, h2⟩ := list_of n (fun i hi => h i (by omega))
    obtain ⟨t, ht⟩ := h n (by omega)
    refine ⟨l ++ [t], by simp [h1], fun i u hu => ?_⟩
    rcases Nat.lt_or_ge i n with hi | hi
    · rw [List.getElem?_append_left (by omega)] at hu
      exact h2 i u hu
    · rw [List.getElem?_append_right (by omega), h1] at hu
      have hlt := (List.getElem?_eq_some_iff.1 hu).1
      simp at hlt
      have e : i = n := by omega
      subst e
      simp at hu
      rw [← hu]
      exact ht
theorem is_none' {B0 : Nat} {ok : Nat → Prop} {w : World} (k : Nat) (s : ByteArray) (n : Int) : Is B0 ok w (.mk k s n []) (.agg #[.int .u8 k, .string s, .int .i64 n, .slice none 0 0]) := by
  simp only [Is]
  exact ⟨none, 0, rfl, by simp [Row]⟩
mutual
/-- its words are words of their kinds -/
def Fair : T → Prop
  | .mk k s n l => (k < 256 ∧ s.size ≤ maxLen ∧ (Lit.int .i64 n).wf = true) ∧ FairL l
def FairL : List T → Prop
  | [] => True
  | t :: r => Fair t ∧ FairL r
end
theorem fairL_of : ∀ (l : List T), (∀ (i : Nat) (t : T), l[i]? = some t → Fair t) → FairL l
  | [], _ => by simp [FairL]
  | t :: r, h => by
    simp only [FairL]
    exact ⟨h 0 t rfl, fairL_of r fun i u hu => h (i + 1) u (by simpa using hu)⟩
mutual
theorem wf_of_fair {is : List Inf} (ho : ∀ s, (infoOf is s).of.size ≤ maxLen) : ∀ t : T, Fair t → parts t ≤ 1048576 → wfP is t
  | .mk k s n l, hf, hp => by
    simp only [Fair] at hf
    simp only [parts] at hp
    have := partsL_len l
    exact wfP_mk hf.1.1 hf.1.2.1 hf.1.2.2 (by omega) ho (wfL_of_fair ho l hf.2 (by omega))
theorem wfL_of_fair {is : List Inf} (ho : ∀ s, (infoOf is s).of.size ≤ maxLen) : ∀ l : List T, FairL l → partsL l ≤ 1048576 → wfL is l
  | [], _, _ => trivial
  | t :: r, hf, hp => by
    simp only [FairL] at hf
    simp only [partsL] at hp
    exact ⟨wf_of_fair ho t hf.1 (by omega), wfL_of_fair ho r hf.2 (by omega)⟩
end
theorem bulk_one {H : Type} (d : DataW H) : 1 ≤ Rows.uptoBulk d := by
  cases d with
  | lit l => cases l <;> simp [Rows.uptoBulk]
  | _ => simp [Rows.uptoBulk]
theorem partsL_bulk {H : Type} : ∀ (l : List T) (ds : List (DataW H)), l.length = ds.length → (∀ (i : Nat) (t : T) (d : DataW H), l[i]? = some t → ds[i]? = some d → 2 * parts t ≤ Rows.uptoBulk d) → 2 * partsL l ≤ Rows.uptoBulkAll ds
  | [], ds, _, _ => by simp [partsL]
  | t :: r, [], h, _ => by simp at h
  | t :: r, d :: ds, hl, h => by
    have h1 := h 0 t d rfl rfl
    have h2 := partsL_bulk r ds (by simpa using hl) (fun i t d ht hd => h (i + 1) t d (by simpa using ht) (by simpa using hd))
    simp only [partsL, Rows.uptoBulkAll]
    omega
section
variable {H : Type} {enc : TypeId × Value → H} {W : World} {sp : Nat → Bool} {held : Bool}
/-- rows of patterns, where each element is one -/
theorem row_of {n : Nat} {a : Addr} {len : Nat} {elems : List (DataW H × List MemPlace)} (hlen : elems.length = len)
    (hIH : ∀ (cs : List Value) (x : DataW H × List MemPlace), DataW.trod enc Try.prog W 0 sp held n 40 cs = some x → ∃ t c0 c1 c2 c3, cs = [c0, c1, c2, c3] ∧ IsT W.heap.size W t (.agg #[c0, c1, c2, c3]) ∧ Fair t ∧ 2 * parts t ≤ Rows.uptoBulk x.1)
    (hel : ∀ i, i < len → (W.cells? 0 (a.add (i * 4)) 4).bind (DataW.trod enc Try.prog W 0 sp held n 40) = elems[i]?) : ∃ l : List T, l.length = len ∧ Row W.heap.size (fun _ => True) W (some a) 0 l ∧ FairL l ∧ 2 * partsL l ≤ Rows.uptoBulkAll (elems.map (·.1)) := by
  have key : ∀ i, i < len → ∃ t, (∃ b off c0 c1 c2 c3, a = ⟨b, off, none⟩ ∧ W.cell? ⟨b, off + i * 4, none⟩ = some c0 ∧ W.cell? ⟨b, off + i * 4 + 1, none⟩ = some c1 ∧ W.cell? ⟨b, off + i * 4 + 2, none⟩ = some c2 ∧ W.cell? ⟨b, off + i * 4 + 3, none⟩ = some c3 ∧
      IsT W.heap.size W t (.agg #[c0, c1, c2, c3])) ∧ Fair t ∧ ∃ x, elems[i]? = some x ∧ 2 * parts t ≤ Rows.uptoBulk x.1 := by
    have first : ∀ i, i < len → ∃ cs, W.cells? 0 (a.add (i * 4)) 4 = some cs ∧ ∃ x, DataW.trod enc Try.prog W 0 sp held n 40 cs = some x ∧ elems[i]? = some x := by
      intro i hi
      have h := hel i hi
      rw [List.getElem?_eq_getElem (by omega)] at h
      cases hc : W.cells? 0 (a.add (i * 4)) 4 with
      | none => rw [hc] at h; cases h
      | some cs =>
        rw [hc] at h
        exact ⟨cs, rfl, _, h, List.getElem?_eq_getElem (by omega)⟩
    intro i hi
    obtain ⟨cs, hcs, x, hx, hxe⟩ := first i hi
    obtain ⟨t, c0, c1, c2, c3, rfl, hi1, hs, hp⟩ := hIH cs x hx
    obtain ⟨_, _, hcell⟩ := World.cells?_some hcs
    obtain ⟨cs0, hcs0, x0, hx0, _⟩ := first 0 (by omega)
    obtain ⟨t0, d0, d1, d2, d3, rfl, _, _, _⟩ := hIH cs0 x0 hx0
    obtain ⟨_, _, hcell0⟩ := World.cells?_some hcs0
    have h00 := hcell0 0 (by omega)
    rw [Nat.zero_mul] at h00
    have cell := fun (j : Nat) (hj : j < 4) => hcell j hj
    have g0 : W.cell? (a.add 0) = some d0 := by
      have : (a.add 0).add 0 = a.add 0 := by rw [Go.Deep.add_add]
      rw [this] at h00
      simpa using h00
    have get : ∀ (j : Nat) (u : Value), j < 4 → [c0, c1, c2, c3][j]? = some u → ∃ b off, a = ⟨b, off, none⟩ ∧ W.cell? ⟨b, off + (i * 4 + j), none⟩ = some u := by
      intro j u hj hu
      have h := cell j hj
      rw [Go.Deep.add_add, hu] at h
      exact plain_addr h ⟨_, g0⟩
    obtain ⟨b, off, ha, k0⟩ := get 0 c0 (by omega) rfl
    subst ha
    obtain ⟨b1, o1, e1, k1⟩ := get 1 c1 (by omega) rfl
    obtain ⟨b2, o2, e2, k2⟩ := get 2 c2 (by omega) rfl
    obtain ⟨b3, o3, e3, k3⟩ := get 3 c3 (by omega) rfl
    simp only [Addr.mk.injEq, and_true] at e1 e2 e3
    obtain ⟨rfl, rfl⟩ := e1
    obtain ⟨rfl, rfl⟩ := e2
    obtain ⟨rfl, rfl⟩ := e3
    exact ⟨t, ⟨b, off, c0, c1, c2, c3, rfl, by simpa using k0, by simpa [Nat.add_assoc] using k1, by simpa [Nat.add_assoc] using k2, by simpa [Nat.add_assoc] using k3, hi1⟩, hs, x, hxe, hp⟩
  obtain ⟨l, hl, hall⟩ := list_of len key
  refine ⟨l, hl, Row.of_at 0 l fun j t hj => ?_, fairL_of l fun i t ht => (hall i t ht).2.1, partsL_bulk l _ (by simp [hl, hlen]) fun i t d ht hd => ?_⟩
  · obtain ⟨⟨b, off, c0, c1, c2, c3, rfl, k0, k1, k2, k3, hi⟩, _⟩ := hall j t hj
    rw [Nat.zero_add]
    exact ⟨b, off, c0, c1, c2, c3, rfl, trivial, .inl (World.block_lt_of_cell? W _ k0), k0, k1, k2, k3, hi⟩
  · obtain ⟨_, _, x, hx, hp⟩ := hall i t ht
    rw [List.getElem?_map, hx] at hd
    cases hd
    exact hp
theorem one_cell {cs : List Value} (h : cs.length = 4) : ∃ c0 c1 c2 c3, cs = [c0, c1, c2, c3] := by
  match cs, h with
  | [c0, c1, c2, c3], _ => exact ⟨c0, c1, c2, c3, rfl⟩
theorem four_of {α : Type} {xs : List α} (h : xs.length = 4) : ∃ x0 x1 x2 x3, xs = [x0, x1, x2, x3] := by
  match xs, h with
  | [c0, c1, c2, c3], _ => exact ⟨c0, c1, c2, c3, rfl⟩
theorem open_pt : ∀ (fuel : Nat) (cs : List Value) (x : DataW H × List MemPlace), DataW.trod enc Try.prog W 0 sp held fuel 40 cs = some x → ∃ t c0 c1 c2 c3, cs = [c0, c1, c2, c3] ∧ IsT W.heap.size W t (.agg #[c0, c1, c2, c3]) ∧ Fair t ∧ 2 * parts t ≤ Rows.uptoBulk x.1 := by
  intro fuel
  induction fuel using Nat.strongRecOn with
  | _ fuel ih =>
    intro cs x h
    obtain ⟨xs, n, rfl, hx, hlen, hxl, hf⟩ := DataW.trod_struct Try.underlying40 h
    rw [cells40] at hlen
    obtain ⟨c0, c1, c2, c3, rfl⟩ := one_cell hlen
    have hxl4 : xs.length = 4 := hxl
    obtain ⟨x0, x1, x2, x3, rfl⟩ := four_of hxl4
    have f0 : DataW.trod enc Try.prog W 0 sp held n 5 (([c0, c1, c2, c3].drop 0).take (Try.prog.cellsOf 5)) = some x0 := hf 0 _ rfl
    have f1 : DataW.trod enc Try.prog W 0 sp held n 9 (([c0, c1, c2, c3].drop 1).take (Try.prog.cellsOf 9)) = some x1 := hf 1 _ rfl
    have f2 : DataW.trod enc Try.prog W 0 sp held n 2 (([c0, c1, c2, c3].drop 2).take (Try.prog.cellsOf 2)) = some x2 := hf 2 _ rfl
    have f3 : DataW.trod enc Try.prog W 0 sp held n 22 (([c0, c1, c2, c3].drop 3).take (Try.prog.cellsOf 22)) = some x3 := hf 3 _ rfl
    have e5 : Try.prog.cellsOf 5 = 1 := by kernel_rfl
    have e9 : Try.prog.cellsOf 9 = 1 := by kernel_rfl
    have e3 : Try.prog.cellsOf 2 = 1 := by kernel_rfl
    have e22 : Try.prog.cellsOf 22 = 1 := by kernel_rfl
    rw [e5] at f0
    rw [e9] at f1
    rw [e3] at f2
    rw [e22] at f3
    obtain ⟨k, hk, _, hkw⟩ := DataW.trod_int Try.underlying5 f0
    obtain ⟨s, hs, _, hsl⟩ := DataW.trod_string Try.underlying9 f1
    obtain ⟨m, hm, _, hmw⟩ := DataW.trod_int Try.underlying2 f2
    simp at hk hs hm
    have hk0 : 0 ≤ k ∧ k < 256 := by
      have h1 : IntKind.u8.min ≤ k ∧ k ≤ IntKind.u8.max := by simpa [Lit.wf] using hkw
      have e1 : IntKind.u8.min = 0 := rfl
      have e2 : IntKind.u8.max = 255 := rfl
      omega
    obtain ⟨kn, rfl⟩ : ∃ kn : Nat, k = kn := ⟨k.toNat, by omega⟩
    have hbx : Rows.uptoBulk x.1 = Rows.uptoBulk x0.1 + (Rows.uptoBulk x1.1 + (Rows.uptoBulk x2.1 + (Rows.uptoBulk x3.1 + 0))) + 1 := by rw [hx]; simp [Rows.uptoBulk, Rows.uptoBulkAll]
    have b0 := bulk_one x0.1
    have b1 := bulk_one x1.1
    have b2 := bulk_one x2.1
    have b3 := bulk_one x3.1
    rcases DataW.trod_slice Try.underlying22 f3 with ⟨hcs, _⟩ | ⟨a, len, cap, elems, rest, n2, hn2, hcs, hx3, _, hlc, hcm, hle, hel, _⟩
    · simp at hcs
      subst hk hs hm hcs
      exact ⟨.mk kn s m [], _, _, _, _, rfl, is_none' kn s m, by simp only [Fair, FairL]; exact ⟨⟨by omega, hsl, hmw⟩, trivial⟩, by simp only [parts, partsL]; omega⟩
    · simp at hcs
      subst hk hs hm hcs
      rw [cells40] at hel
      obtain ⟨l, hl, hrow, hsh, hpl⟩ := row_of hle (fun cs x hx => ih n2 (by omega) cs x hx) hel
      refine ⟨.mk kn s m l, _, _, _, _, rfl, ?_, ?_, ?_⟩
      · simp only [IsT, Is]
        exact ⟨some a, cap, by rw [hl], hrow⟩
      · simp only [Fair]
        exact ⟨⟨by omega, hsl, hmw⟩, hsh⟩
      · have : Rows.uptoBulkAll (elems.map (·.1)) ≤ Rows.uptoBulk x3.1 := by
          rw [hx3]
          simp only [Rows.uptoBulk]
          omega
        simp only [parts]
        omega
/-- an argument that is a row of patterns -/
theorem open_row22 {v : Value} {d : DataW H} {p : List MemPlace} {r : Reach} {b0 : Nat} (hv : Value.okWide Try.prog W r b0 22 v) (h : DataW.Trod enc Try.prog W 0 sp held 22 v d p) :
    ∃ (a : Option Addr) (cap : Nat) (l : List T), v = .slice a l.length cap ∧ Row W.heap.size (fun _ => True) W a 0 l ∧ FairL l ∧ 2 * partsL l ≤ Rows.uptoBulk d ∧ (a = none → cap = 0 ∧ l = []) ∧ l.length ≤ cap := by
  obtain ⟨a0, len, cap, rfl⟩ := okWide_slice Try.underlying22 hv
  obtain ⟨fuel, hf⟩ := h
  rcases DataW.trod_slice Try.underlying22 hf with ⟨hcs, _⟩ | ⟨a, len', cap', elems, rest, n2, hn2, hcs, hx3, _, hlc, hcm, hle, hel, _⟩
  · simp only [Value.cells, List.cons.injEq, Value.slice.injEq] at hcs
    obtain ⟨⟨rfl, rfl, rfl⟩, _⟩ := hcs
    exact ⟨none, 0, [], rfl, by simp [Row], by simp [FairL], by simp [partsL], fun _ => ⟨rfl, rfl⟩, Nat.le_refl _⟩
  · simp only [Value.cells, List.cons.injEq, Value.slice.injEq] at hcs
    obtain ⟨⟨rfl, rfl, rfl⟩, _⟩ := hcs
    rw [cells40] at hel
    obtain ⟨l, hl, hrow, hsh, hpl⟩ := row_of hle (fun cs x hx => open_pt n2 cs x hx) hel
    refine ⟨some a, cap, l, by rw [hl], hrow, hsh, ?_, (fun e => by cases e), by omega⟩
    have e := congrArg Prod.fst hx3
    simp only at e
    rw [e]
    simp only [Rows.uptoBulk]
    omega
theorem cells30 : Try.prog.cellsOf 30 = 5 := by kernel_rfl
/-- an argument that is a row of infos -/
theorem open_row23 {v : Value} {d : DataW H} {p : List MemPlace} {r : Reach} {b0 : Nat} (hv : Value.okWide Try.prog W r b0 23 v) (h : DataW.Trod enc Try.prog W 0 sp held 23 v d p) :
    ∃ (a : Option Addr) (cap : Nat) (is : List Inf), v = .slice a is.length cap ∧ Infs W a is ∧ is.length ≤ maxLen ∧ (∀ x ∈ is, x.of.size ≤ maxLen ∧ x.name.size ≤ maxLen) := by
  obtain ⟨a0, len, cap, rfl⟩ := okWide_slice Try.underlying23 hv
  obtain ⟨fuel, hf⟩ := h
  rcases open_slice_fields Try.underlying23 Try.underlying30 (by kernel_rfl) (by kernel_rfl) hf with ⟨hcs, _⟩ | ⟨a, len', cap', m, D, Pl, hcs, _, hlc, hcm, hmm, _, hel⟩
  · simp only [Value.cells, List.cons.injEq, Value.slice.injEq] at hcs
    obtain ⟨⟨rfl, rfl, rfl⟩, _⟩ := hcs
    exact ⟨none, 0, [], rfl, fun j x hx => by simp at hx, by simp, by simp⟩
  · simp only [Value.cells, List.cons.injEq, Value.slice.injEq] at hcs
    obtain ⟨⟨rfl, rfl, rfl⟩, _⟩ := hcs
    have hlm : len ≤ m := by rw [hmm]; split <;> omega
    have key : ∀ i, i < len → ∃ x : Inf, (∃ b off, a = ⟨b, off, none⟩ ∧ W.cell? ⟨b, off + i * 5, none⟩ = some (.string x.name) ∧ W.cell? ⟨b, off + i * 5 + 1, none⟩ = some (.string x.of) ∧
        W.cell? ⟨b, off + i * 5 + 2, none⟩ = some (.int .i64 x.place) ∧ W.cell? ⟨b, off + i * 5 + 3, none⟩ = some (.int .i64 x.many) ∧ W.cell? ⟨b, off + i * 5 + 4, none⟩ = some (.bool x.has)) ∧ x.of.size ≤ maxLen ∧ x.name.size ≤ maxLen := by
      intro i hi
      obtain ⟨ys, n, _, _, hyl, hfl⟩ := hel i (by omega)
      obtain ⟨ys0, n0, _, _, _, hfl0⟩ := hel 0 (by omega)
      obtain ⟨v0, _, hv0, _, _⟩ := hfl0 0 _ rfl
      have g0 : ∃ v, W.cell? (a.add 0) = some v := ⟨v0, by simpa using hv0⟩
      obtain ⟨u0, y0, k0, _, t0⟩ := hfl 0 _ rfl
      obtain ⟨u1, y1, k1, _, t1⟩ := hfl 1 _ rfl
      obtain ⟨u2, y2, k2, _, t2⟩ := hfl 2 _ rfl
      obtain ⟨u3, y3, k3, _, t3⟩ := hfl 3 _ rfl
      obtain ⟨u4, y4, k4, _, t4⟩ := hfl 4 _ rfl
      obtain ⟨s0, e0, _, l0⟩ := DataW.trod_string Try.underlying9 t0
      obtain ⟨s1, e1, _, l1⟩ := DataW.trod_string Try.underlying9 t1
      obtain ⟨s2, e2, _, _⟩ := DataW.trod_int Try.underlying3 t2
      obtain ⟨s3, e3, _, _⟩ := DataW.trod_int Try.underlying3 t3
      obtain ⟨s4, e4, _⟩ := DataW.trod_bool Try.underlying4 t4
      simp only [List.cons.injEq, and_true] at e0 e1 e2 e3 e4
      subst e0 e1 e2 e3 e4
      obtain ⟨b, off, ha, m0⟩ := plain_addr k0 g0
      subst ha
      obtain ⟨_, _, e1, m1⟩ := plain_addr k1 g0
      obtain ⟨_, _, e2, m2⟩ := plain_addr k2 g0
      obtain ⟨_, _, e3, m3⟩ := plain_addr k3 g0
      obtain ⟨_, _, e4, m4⟩ := plain_addr k4 g0
      simp only [Addr.mk.injEq, and_true] at e1 e2 e3 e4
      obtain ⟨rfl, rfl⟩ := e1
      obtain ⟨rfl, rfl⟩ := e2
      obtain ⟨rfl, rfl⟩ := e3
      obtain ⟨rfl, rfl⟩ := e4
      exact ⟨⟨s0, s1, s2, s3, s4⟩, ⟨b, off, rfl, m0, m1, m2, m3, m4⟩, l1, l0⟩
    obtain ⟨is, hl, hall⟩ := list_of len key
    refine ⟨some a, cap, is, by rw [hl], fun j x hx => ?_, by omega, fun x hx => ?_⟩
    · obtain ⟨⟨b, off, ha, h1⟩, _⟩ := hall j x hx
      exact ⟨b, off, by rw [ha], h1⟩
    · obtain ⟨j, hj⟩ := List.getElem?_of_mem hx
      exact (hall j x hj).2
end
end Go.Proofs.Ythjecikdkdjlaaa
