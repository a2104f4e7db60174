/- The law CoverNames: the walk. -/
import Derived.Test.YthjecikdkdjlaaaNp
import Derived.Test.YthjecikdkdjlaaaOp
import Derived.Deep.QuietTactic
import Derived.BigQuiet
namespace Go.Proofs.Ythjecikdkdjlaaa
open Go.RowKit

mutual
theorem fair_plain : ∀ t : T, Fair t → Fair (plainT t)
  | .mk k s n l, h => by
    simp only [Fair, plainT] at h ⊢
    refine ⟨⟨?_, ?_, h.1.2.2⟩, fair_plainL l h.2⟩
    · split <;> omega
    · split
      · unfold maxLen
        show 0 ≤ _
        omega
      · exact h.1.2.1
theorem fair_plainL : ∀ l : List T, FairL l → FairL (plainL l)
  | [], _ => trivial
  | t :: r, h => by
    simp only [FairL, plainL] at h ⊢
    exact ⟨fair_plain t h.1, fair_plainL r h.2⟩
end
theorem bulk_len {H : Type} : ∀ ds : List (DataW H), ds.length ≤ Rows.uptoBulkAll ds
  | [] => Nat.zero_le _
  | d :: r => by
    have h1 := bulk_one d
    have h2 := bulk_len r
    simp only [List.length_cons, Rows.uptoBulkAll]
    omega
theorem bulk23 {H : Type} {enc : TypeId × Value → H} {W : World} {sp : Nat → Bool} {held : Bool} {a : Option Addr} {n cap : Nat} {d : DataW H} {p : List MemPlace} (h : DataW.Trod enc Try.prog W 0 sp held 23 (.slice a n cap) d p) : n ≤ Rows.uptoBulk d := by
  obtain ⟨fuel, hf⟩ := h
  rcases DataW.trod_slice Try.underlying23 hf with ⟨hcs, _⟩ | ⟨a, len', cap', elems, rest, n2, hn2, hcs, hx3, _, hlc, hcm, hle, hel, _⟩
  · simp only [Value.cells, List.cons.injEq, Value.slice.injEq] at hcs
    omega
  · simp only [Value.cells, List.cons.injEq, Value.slice.injEq] at hcs
    obtain ⟨⟨_, rfl, _⟩, _⟩ := hcs
    have e := congrArg Prod.fst hx3
    simp only at e
    rw [e]
    simp only [Rows.uptoBulk]
    have := bulk_len (elems.map (·.1))
    rw [List.length_map] at this
    omega
theorem zero30 : ∃ i z, Try.prog.info? 30 = some i ∧ i.zero = some z ∧ i.size = 5 ∧ i.bytes = 56 ∧ z.cells.size = 5 := ⟨_, _, rfl, rfl, rfl, rfl, rfl⟩
def infC (x : Inf) : List Value := [.string x.name, .string x.of, .int .i64 x.place, .int .i64 x.many, .bool x.has]
theorem infC_at : ∀ (is : List Inf) (j i : Nat), i < 5 → (is.flatMap infC)[j * 5 + i]? = (is[j]?).bind (fun x => (infC x)[i]?)
  | [], j, i, _ => by simp
  | x :: r, 0, i, hi => by
    simp only [List.flatMap_cons, Nat.zero_mul, Nat.zero_add, List.getElem?_cons_zero, Option.bind_some]
    exact List.getElem?_append_left (by simp [infC]; omega)
  | x :: r, j + 1, i, hi => by
    simp only [List.flatMap_cons, List.getElem?_cons_succ]
    rw [List.getElem?_append_right (by simp [infC]; omega), ← infC_at r j i hi]
    congr 1
    simp [infC]
    omega
/-- infos in a row of one's own -/
def InfOut (B : Nat) (w : World) (v : Value) (k : Nat) (is : List Inf) : Prop := is.length = k ∧ w.ownsRow B 30 5 v k (is.flatMap infC)
theorem InfOut.nil (B : Nat) (w : World) : InfOut B w (.slice none 0 0) 0 [] := ⟨rfl, rfl, .inl ⟨rfl, rfl⟩⟩
theorem owns30_no {w w' : World} {base n : Nat} {v : Value} {xs : List Value} (h : w.ownsRow base 30 5 v n xs) (hf : Fr No w w') : w'.ownsRow base 30 5 v n xs := by
  refine ⟨h.1, ?_⟩
  rcases h.2 with h2 | ⟨g, cap, cur, h1, h2, h3, h4⟩
  · exact .inl h2
  · exact .inr ⟨g, cap, cur, h1, h2, hf.keeps h3 no_one, h4⟩
theorem fr_grown {w w' : World} {B t m n : Nat} {v : Value} {xs : List Value} (h : w.ownsRow B t m v n xs) (hg : w.grownBy w' v.ownBlock) : Fr (fun k => B ≤ k) w w' := by
  refine Fr.grownR hg fun k e => ?_
  rcases h.2 with ⟨h4, _⟩ | ⟨g', cap', cur, h4, h5, _⟩
  · rw [h4] at e
    simp [Value.ownBlock] at e
  · rw [h4] at e
    have e : g' = k := by simpa [Value.ownBlock] using e
    omega
theorem InfOut.infs {B : Nat} {w : World} {a : Option Addr} {n c : Nat} {is : List Inf} (h : InfOut B w (.slice a n c) n is) : Infs w a is := by
  intro j x hx
  have hj := (List.getElem?_eq_some_iff.1 hx).1
  have hl := h.1
  rcases h.2.2 with ⟨h1, h2⟩ | ⟨g, cap, cur, h1, h2, h3, h4, h5, h6, h7⟩
  · omega
  · cases h1
    have hc : ∀ (i : Nat) (v : Value), i < 5 → (infC x)[i]? = some v → w.cell? ⟨g, 0 + j * 5 + i, none⟩ = some v := fun i v hi hv => by
      have h8 := infC_at is j i hi
      rw [hx, Option.bind_some, hv, ← h7, List.getElem?_take_of_lt (by omega)] at h8
      rw [Nat.zero_add, cell_of h3, ← h8]
      simp
    exact ⟨g, 0, rfl, hc 0 _ (by omega) rfl, hc 1 _ (by omega) rfl, hc 2 _ (by omega) rfl, hc 3 _ (by omega) rfl, hc 4 _ (by omega) rfl⟩
theorem new_block2 (w : World) (o o2 : Obj) : ((w.alloc o).alloc o2).heap[w.heap.size + 1]? = some o2 := by
  rw [← size_alloc w o]
  exact new_block _ _
/-- no two of the infos from place m on and any ahead have one name -/
def ApartFrom (is : List Inf) (m : Nat) : Prop := ∀ (j k : Nat) (x y : Inf), m ≤ j → k < j → is[j]? = some x → is[k]? = some y → y.name ≠ x.name
theorem apart_nodup {is : List Inf} (h : ApartFrom is 0) : (is.map Inf.name).Nodup := by
  rw [List.Nodup, List.pairwise_map, List.pairwise_iff_getElem]
  intro i j hi hj hij e
  exact h j i _ _ (Nat.zero_le _) hij (List.getElem?_eq_getElem hj) (List.getElem?_eq_getElem hi) e
theorem back_snoc {is : List Inf} {k p : Nat} {x : Inf} (hx : is[p]? = some x) (hk : p + k + 1 = is.length) : (backI is).take (k + 1) = (backI is).take k ++ [bareI x] := by
  have h : (backI is)[k]? = some (bareI x) := by
    have hl : k < (is.map bareI).length := by rw [List.length_map]; omega
    rw [backI, List.getElem?_reverse hl, List.length_map, show is.length - 1 - k = p by omega, List.getElem?_map, hx]
    rfl
  exact take_snoc h
theorem back_len (is : List Inf) : (backI is).length = is.length := by simp [backI]
set_option maxHeartbeats 2000000 in
set_option maxRecDepth 100000 in
theorem names_law_any (l : List T) (n cap : Nat) (a : Option Addr) (is : List Inf) (ni ci : Nat) (ai : Option Addr) (wh : Bool) (w : World) (hn : l.length = n) (hni : is.length = ni) (hP : partsL l ≤ 1048000) (hni2 : ni ≤ 1048576) (hfair : FairL l) (hof : ∀ x ∈ is, x.of.size ≤ maxLen)
    (hrow : Row w.heap.size (fun _ => True) w a 0 l) (hinf : Infs w ai is) : Calls Try.prog 3 #[.slice a n cap, .slice ai ni ci, .bool wh] w (SaidT w true) := by
  have HCK : Hid (∀ (l' : List T) (a' : Option Addr) (n' cap' : Nat) (is' : List Inf) (a2 : Option Addr) (c2 : Nat) (w' : World), l'.length = n' → partsL l' ≤ 1048576 → is'.length = ni → wfL is' l' → Row w.heap.size (fun _ => True) w' a' 0 l' → Infs w' a2 is' → Fr No w w' → Calls Try.prog 11 #[.slice a' n' cap', .slice a2 ni c2, .bool wh] w' (SaidI w' (checkP is' l' wh))) :=
    Lib.hid (fun l' a' n' cap' is' a2 c2 w' h1 h2 h0 h3 h4 h5 h6 => check_any w.heap.size is' l' n' cap' ni c2 a' a2 wh w' h1 h0 (by omega) (by omega) h3 h4 h5 h6.size)
  have HRW : Hid (∀ w', Fr No w w' → Row w.heap.size (fun _ => True) w' a 0 l) := Lib.hid (fun w' hf => row_keepNo hrow hf)
  have HLG : Hid (∀ w', Fr No w w' → Calls Try.prog 9 #[.slice a n cap, .slice ai ni ci] w' (SaidT w' (largeP l ni))) := Lib.hid (fun w' hf => large_any w.heap.size l n cap ni ci a ai w' hn (by omega) (by omega) (row_keepNo hrow hf))
  have hofI : ∀ is', (∀ x ∈ is', x.of.size ≤ maxLen) → ∀ s, (infoOf is' s).of.size ≤ maxLen := fun is' h s => infoOf_of is' (fun s => s.size ≤ maxLen) (by unfold maxLen; show 0 ≤ _; omega) h s
  have HWF : Hid (wfL is l) := Lib.hid (wfL_of_fair (hofI is hof) l hfair (by omega))
  have HWFP : Hid (wfL is (plainL l)) := Lib.hid (wfL_of_fair (hofI is hof) _ (fair_plainL l hfair) (by rw [plain_partsL]; omega))
  have HWFB : Hid (wfL (backI is) l) := Lib.hid (wfL_of_fair (hofI _ (fun x hx => by
    obtain ⟨y, hy, rfl⟩ := mem_back.1 hx
    exact hof y hy)) l hfair (by omega))
  have HPL : Hid (∀ w', Fr No w w' → Calls Try.prog 12 #[.slice a n cap] w' (MadeL w' (plainL l))) := Lib.hid (fun w' hf => plain_any w.heap.size (partsL l + 1) l (Nat.lt_succ_self _) (by omega) a cap n w' hn (row_keepNo hrow hf) hf.size)
  have HPP : Hid (partsL (plainL l) ≤ 1048576 ∧ (plainL l).length = n) := Lib.hid ⟨by rw [plain_partsL]; omega, by rw [plainL_len, hn]⟩
  have HCP := Lib.hid (check_plain is l wh)
  have HCB : Hid (ApartFrom is 0 → checkP (backI is) l wh = checkP is l wh) := Lib.hid (fun h => check_back (apart_nodup h) l wh)
  have HN := Lib.hid hn
  have HNI := Lib.hid hni
  have HP := Lib.hid hP
  have HINF := Lib.hid hinf
  have hpn : n ≤ 1048000 := by have := partsL_len l; omega
  obtain ⟨i0, z, hi, hz0, hz1, hz2, hz3⟩ := zero30
  have HZ := Lib.hid (And.intro hi (And.intro hz0 (And.intro hz1 (And.intro hz2 hz3))))
  clear hn hni hP hfair hof hrow hinf hofI hi hz0 hz1 hz2 hz3
  obtain ⟨c0, hc0⟩ : ∃ c0, checkP is l wh = c0 := ⟨_, rfl⟩
  have HC0 := Lib.hid hc0
  rw [hc0] at HCP HCB
  clear hc0
  go_enter Try.func3, Try.ntmps3
  go_wp2_with fail
  refine (HLG.out _ (Fr.refl _ _)).mono ?_
  rintro e w1 ⟨rfl, hf⟩
  have HF := Lib.hid hf
  clear hf HLG
  cases hlg : largeP l ni with
  | true =>
    clear hlg
    go_wp2_with fail
    refine (works_any _).mono ?_
    rintro e w2 ⟨rfl, hf2⟩
    have HF2 := Lib.hid (HF.out.then hf2)
    clear hf2
    go_wp2_with fail
    go_ret
    exact ⟨rfl, HF2.out⟩
  | false =>
    have hni60 : ni ≤ 60 := by
      simp only [largeP, Bool.or_eq_false_iff, decide_eq_false_iff_not] at hlg
      omega
    clear hlg
    go_wp2_with fail
    refine (HCK.out l a n cap is ai ci w1 HN.out (by have := HP.out; omega) HNI.out HWF.out (HRW.out _ HF.out) (HINF.out.no HF.out) HF.out).mono ?_
    rintro e w2 ⟨rfl, hf2⟩
    have HF2 := Lib.hid (HF.out.then hf2)
    clear hf2
    rw [HC0.out]
    go_wp2_with fail
    refine (HPL.out _ HF2.out).mono ?_
    rintro e w3 ⟨a3, c3, rfl, hr3, hf3⟩
    rw [HPP.out.2]
    have HF3 := Lib.hid (HF2.out.then hf3)
    have HR3 : Hid (Row w.heap.size (fun _ => True) w3 a3 0 (plainL l)) := Lib.hid (row_up (fun _ _ => trivial) a3 0 _ hr3)
    clear hf3 hr3
    go_wp2_with fail
    refine (HCK.out (plainL l) a3 n c3 is ai ci w3 HPP.out.2 HPP.out.1 HNI.out HWFP.out HR3.out (HINF.out.no HF3.out) HF3.out).mono ?_
    rintro e w4 ⟨rfl, hf4⟩
    have HF4 := Lib.hid (HF3.out.then hf4)
    clear hf4 HR3
    rw [HCP.out]
    go_wp2_with fail
    clear HWFP HPL HPP HCP
    go_loopw [8, 9] (fun v i wr => ∃ k : Nat, k ≤ ni ∧ i = .int .i64 ((ni : Int) - 1 - (k : Int)) ∧ (∃ a8 c8, v = .slice a8 k c8 ∧ Hid (InfOut w.heap.size wr (.slice a8 k c8) k ((backI is).take k))) ∧ Hid (ApartFrom is (ni - k)) ∧ Hid (Fr No w wr)) (fun _ i _ => ((intOf i) + 1).toNat)
    case atStart =>
      refine ⟨0, Nat.zero_le _, by simp, ⟨none, 0, rfl, Lib.hid (InfOut.nil _ _)⟩, Lib.hid (fun j k x y h1 _ h2 _ => ?_), HF4⟩
      have := (List.getElem?_eq_some_iff.1 h2).1
      have := HNI.out
      omega
    case round =>
      obtain ⟨k, hk, rfl, ⟨a8, c8, rfl, HO⟩, HA, HF5⟩ := hrel
      by_cases hkn : k = ni
      · subst hkn
        have h0 : decide ((0 : Int) ≤ (k : Int) - 1 - (k : Int)) = false := decide_eq_false (by omega)
        have HBK : Hid ((backI is).take k = backI is ∧ (backI is).length = k) := Lib.hid (by
          have e : (backI is).length = k := (back_len is).trans HNI.out
          refine ⟨?_, e⟩
          rw [← e, List.take_length])
        have HC := Lib.hid (HCB.out (by
          have := HA.out
          rw [Nat.sub_self] at this
          exact this))
        go_wp2_with fail
        refine (HCK.out l a n cap (backI is) a8 c8 wr HN.out (by have := HP.out; omega) HBK.out.2 HWFB.out (HRW.out _ HF5.out) (by
          have := HO.out
          rw [HBK.out.1] at this
          exact this.infs) HF5.out).mono ?_
        rintro e w6 ⟨rfl, hf6⟩
        have HF6 := Lib.hid (HF5.out.then hf6)
        clear hf6
        rw [HC.out]
        go_wp2_with fail
        refine (works_any _).mono ?_
        rintro e w7 ⟨rfl, hf7⟩
        have HF7 := Lib.hid (HF6.out.then hf7)
        clear hf7
        go_wp2_with fail
        go_ret
        exact ⟨rfl, HF7.out⟩
      · obtain ⟨p, hp⟩ : ∃ p : Nat, p + k + 1 = ni := ⟨ni - 1 - k, by omega⟩
        have hpi : (ni : Int) - 1 - (k : Int) = (p : Int) := by omega
        rw [hpi]
        obtain ⟨x, hx⟩ : ∃ x, is[p]? = some x := ⟨_, List.getElem?_eq_getElem (by rw [HNI.out]; omega)⟩
        have HX := Lib.hid hx
        have hplt : (p : Int) < (ni : Int) := by omega
        clear hx hpi
        obtain ⟨w5, hw5⟩ : ∃ w5, w5 = wr := ⟨wr, rfl⟩
        rw [← hw5] at HO HF5 ⊢
        clear hw5 wr
        go_wp2_with fail
        go_loopw [10] (fun i wx => Hid (Fr No w5 wx) ∧ ∃ q : Nat, q ≤ p ∧ i = .int .i64 q ∧ Hid (∀ (j : Nat) (y : Inf), j < q → is[j]? = some y → y.name ≠ x.name)) (fun i _ => p - (intOf i).toNat)
        case atStart => exact ⟨Lib.hid (Fr.refl _ _), 0, Nat.zero_le _, rfl, Lib.hid (fun j y h => absurd h (Nat.not_lt_zero _))⟩
        case round =>
          obtain ⟨HX5, q, hq, rfl, HD⟩ := hrel
          have HF6 := Lib.hid (HF5.out.then HX5.out)
          have HO6 := Lib.hid (owns30_no HO.out.2 HX5.out)
          have HOL := Lib.hid HO.out.1
          clear HO
          obtain ⟨b, off, rfl, d0, d1, d2, d3, d4⟩ := (HINF.out.no HF6.out) p x HX.out
          by_cases hqp : q = p
          · subst hqp
            go_wp2_with (at_builtin; refine wpList_append_lies _ rfl _ _ _ rfl w.heap.size 30 i0 _ 5 56 Try.underlying23 HZ.out.1 HZ.out.2.1 HZ.out.2.2.1 HZ.out.2.2.2.1 HZ.out.2.2.2.2 (by decide) (.slice a8 k c8) k (((backI is).take k).flatMap infC) rfl (owns30_no HO6.out ((Fr.alloc _ _).then (Fr.alloc _ _))) _ 1 1 (infC (bareI x)) rfl rfl (World.news_of_block (new_block2 _ _ _)) (by simp [Value.oneCell', infC, bareI]) (by decide) (by unfold maxLen; omega) (by omega) (Nat.le_trans HF6.out.size ((Fr.alloc _ (.cells #[.string x.name, .string x.of, .int .i64 0, .int .i64 (-1), .bool x.has] 30)).then (Fr.alloc _ (.cells #[.string x.name, .string x.of, .int .i64 0, .int .i64 (-1), .bool x.has] 30))).size) _ rfl ?_; intro gn capn wn hownn hgrow hat hltn)
            have HFN : Hid (Fr No w wn) := Lib.hid (((HF6.out.then (Fr.alloc _ _)).then (Fr.alloc _ _)).own (fr_grown (owns30_no HO6.out ((Fr.alloc _ _).then (Fr.alloc _ _))) hgrow) (fun i h => h))
            refine ⟨⟨k + 1, by omega, by congr 1; omega, ⟨_, _, rfl, Lib.hid ⟨?_, ?_⟩⟩, Lib.hid ?_, HFN⟩, by simp [intOf]⟩
            · rw [List.length_take, back_len, HNI.out]
              omega
            · rw [back_snoc HX.out (by rw [HNI.out]; exact hp), List.flatMap_append, List.flatMap_singleton]
              exact hownn
            · intro j m u v h1 h2 h3 h4
              by_cases hj : j = q
              · subst hj
                rw [HX.out] at h3
                cases h3
                exact HD.out m v h2 h4
              · exact HA.out j m u v (by omega) h2 h3 h4
          · obtain ⟨y, hy⟩ : ∃ y, is[q]? = some y := ⟨_, List.getElem?_eq_getElem (by rw [HNI.out]; omega)⟩
            obtain ⟨b1, off1, e1, y0, y1, y2, y3, y4⟩ := (HINF.out.no HF6.out) q y hy
            cases e1
            have HY := Lib.hid hy
            have hqp' : (q : Int) < (p : Int) := by omega
            have hqni : (q : Int) < (ni : Int) := by omega
            clear d1 d2 d3 d4 y1 y2 y3 y4 hy
            by_cases he : y.name = x.name
            · rw [he] at y0
              clear he
              go_wp2_with fail
              go_quiet (fail)
              go_wp2_with fail
              refine (works_any _).mono ?_
              rintro e w6 ⟨rfl, hf6⟩
              have HF7 := Lib.hid ((HF6.out.then (Fr.drewN _ _)).then hf6)
              clear hf6
              go_wp2_with fail
              go_ret
              exact ⟨rfl, HF7.out⟩
            · have HNE := Lib.hid he
              have hne : (y.name.toList == x.name.toList) = false := by rw [bytes_eq_iff]; exact decide_eq_false he
              clear he
              go_wp2_with fail
              go_quiet (fail)
              go_wp2_with fail
              refine ⟨⟨Lib.hid (HX5.out.then (Fr.drewN _ _)), q + 1, by omega, by go_num, Lib.hid (fun j u h1 h2 => ?_)⟩, by simp [intOf]; omega⟩
              by_cases hj : j = q
              · subst hj
                rw [HY.out] at h2
                cases h2
                exact HNE.out
              · exact HD.out j u (by omega) h2
end Go.Proofs.Ythjecikdkdjlaaa
