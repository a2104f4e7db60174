/- The unknowns of a type, one behind the other. -/
import Derived.Test.YtfjddfcndammdaaApB
import Derived.Deep.AppendLies
namespace Go.Proofs.Ytfjddfcndammdaa
open Go.RowKit

mutual
def unkT : T → List Int → List Int
  | .mk k _ n r, l => unkL r (if k = 1 ∧ n ∉ l then l ++ [n] else l)
def unkL : List T → List Int → List Int
  | [], l => l
  | t :: r, l => unkL r (unkT t l)
end
mutual
theorem unkT_len : ∀ (t : T) (l : List Int), (unkT t l).length ≤ l.length + parts t
  | .mk k s n r, l => by
    have h := unkL_len r (if k = 1 ∧ n ∉ l then l ++ [n] else l)
    simp only [unkT, parts]
    by_cases hc : k = 1 ∧ n ∉ l
    · rw [if_pos hc] at h ⊢
      rw [List.length_append] at h
      simp only [List.length_cons, List.length_nil] at h
      omega
    · rw [if_neg hc] at h ⊢
      omega
theorem unkL_len : ∀ (r : List T) (l : List Int), (unkL r l).length ≤ l.length + partsL r
  | [], l => by simp [unkL]
  | t :: r, l => by
    have h1 := unkT_len t l
    have h2 := unkL_len r (unkT t l)
    simp only [unkL, partsL]
    omega
end
theorem unkL_snoc : ∀ (r : List T) (t : T) (l : List Int), unkL (r ++ [t]) l = unkT t (unkL r l)
  | [], t, l => by simp [unkL]
  | x :: r, t, l => by simp only [List.cons_append, unkL]; exact unkL_snoc r t _
def vint (n : Int) : Value := .int .i64 n
/-- a row of numbers that the call has made, or none -/
def Nums (base : Nat) (w : World) (v : Value) (l : List Int) : Prop := w.ownsRow base 3 1 v l.length (l.map vint)
theorem Nums.nil (base : Nat) (w : World) : Nums base w (.slice none 0 0) [] := ⟨rfl, .inl ⟨rfl, rfl⟩⟩
theorem Nums.no {base : Nat} {w w' : World} {v : Value} {l : List Int} (h : Nums base w v l) (hf : Fr No w w') : Nums base w' v l := owns_fr h hf fun _ _ => no_one
theorem Nums.slice {base : Nat} {w : World} {v : Value} {l : List Int} (h : Nums base w v l) : ∃ a cap, v = .slice a l.length cap ∧ ∀ (j : Nat) (x : Int), l[j]? = some x → ∃ b, a = some ⟨b, 0, none⟩ ∧ w.cell? ⟨b, j, none⟩ = some (.int .i64 x) := by
  rcases h.2 with ⟨rfl, hl⟩ | ⟨g, cap, cur, rfl, hb, hcur, _⟩
  · have : l = [] := List.eq_nil_of_length_eq_zero hl
    subst this
    exact ⟨none, 0, rfl, fun j x hx => by simp at hx⟩
  · refine ⟨some ⟨g, 0, none⟩, cap, rfl, fun j x hx => ⟨g, rfl, ?_⟩⟩
    have hcells := World.ownsRow.cells h (g := g) rfl j (vint x) (by simp [hx])
    rwa [addr_add, Nat.zero_add] at hcells
set_option maxHeartbeats 1000000 in
theorem index_any (l : List Int) (m : Nat) (hm : l.length = m) (hm2 : m ≤ 1152921504606846976) (a : Option Addr) (cap : Nat) (n : Int) (w : World) (hrow : ∀ (j : Nat) (x : Int), l[j]? = some x → ∃ b, a = some ⟨b, 0, none⟩ ∧ w.cell? ⟨b, j, none⟩ = some (.int .i64 x)) :
    Calls Try.prog 59 #[.slice a m cap, .int .i64 n] w fun e w' => (∃ x : Int, e = .returned (.int .i64 x) ∧ (decide (0 ≤ x) = decide (n ∈ l))) ∧ Fr No w w' := by
  have HROW := Lib.hid hrow
  have HM := Lib.hid hm
  clear hrow hm
  go_enter Try.func59, Try.ntmps59
  go_wp2_with fail
  go_loopw [8] (fun i wr => ∃ q : Nat, q ≤ m ∧ i = .int .i64 q ∧ Hid (Fr No w wr) ∧ Hid (∀ j x, j < q → l[j]? = some x → x ≠ n)) (fun i _ => m - (intOf i).toNat)
  case atStart => exact ⟨0, Nat.zero_le _, rfl, Lib.hid (Fr.refl _ _), Lib.hid (fun j x hj => by omega)⟩
  case round =>
    obtain ⟨q, hq, rfl, HF, HN⟩ := hrel
    by_cases hqm : q = m
    · have HR : Hid (decide ((0 : Int) ≤ -1) = decide (n ∈ l)) := Lib.hid (by
        have : n ∉ l := fun h => by
          obtain ⟨j, hj⟩ := List.getElem?_of_mem h
          exact HN.out j n (by have := (List.getElem?_eq_some_iff.1 hj).1; have := HM.out; omega) hj rfl
        simp [this])
      go_wp2_with fail
      go_ret
      exact ⟨⟨-1, rfl, HR.out⟩, HF.out⟩
    · obtain ⟨x, hx⟩ : ∃ x, l[q]? = some x := ⟨_, List.getElem?_eq_getElem (by rw [HM.out]; omega)⟩
      obtain ⟨b, rfl, hc⟩ := HROW.out q x hx
      have hc2 := HF.out.cell hc
      have hlt : (q : Int) < (m : Int) := by omega
      have HX := Lib.hid hx
      clear hx hc
      by_cases hxn : n = x
      · have HR : Hid (decide ((0 : Int) ≤ (q : Int)) = decide (n ∈ l)) := Lib.hid (by
          have : n ∈ l := by rw [hxn]; exact List.mem_of_getElem? HX.out
          simp [this])
        have hb : (n == x) = true := by simp [hxn]
        clear hxn
        go_wp2_with fail
        go_ret
        exact ⟨⟨q, rfl, HR.out⟩, HF.out⟩
      · have hb : (n == x) = false := by simp [hxn]
        have HN2 : Hid (∀ j x, j < q + 1 → l[j]? = some x → x ≠ n) := Lib.hid (fun j y hj hy => by
          rcases Nat.lt_or_ge j q with h | h
          · exact HN.out j y h hy
          · rw [show j = q by omega, HX.out] at hy
            simp only [Option.some.injEq] at hy
            rw [← hy]
            exact fun e => hxn e.symm)
        clear hxn
        go_wp2_with fail
        exact ⟨⟨q + 1, by omega, by go_num, HF, HN2⟩, by simp [intOf]; omega⟩
set_option maxHeartbeats 1000000 in
theorem contains_num (l : List Int) (m : Nat) (hm : l.length = m) (hm2 : m ≤ 1152921504606846976) (a : Option Addr) (cap : Nat) (n : Int) (w : World) (hrow : ∀ (j : Nat) (x : Int), l[j]? = some x → ∃ b, a = some ⟨b, 0, none⟩ ∧ w.cell? ⟨b, j, none⟩ = some (.int .i64 x)) :
    Calls Try.prog 54 #[.slice a m cap, .int .i64 n] w (SaidT w (decide (n ∈ l))) := by
  have HC := Lib.hid (index_any l m hm hm2 a cap n w hrow)
  clear hrow
  go_enter Try.func54, Try.ntmps54
  go_wp2_with fail
  refine HC.out.mono ?_
  rintro e w1 ⟨⟨x, rfl, hx⟩, hf⟩
  have HF := Lib.hid hf
  have HX := Lib.hid hx
  clear hf hx
  go_wp2_with fail
  go_ret
  refine ⟨?_, HF.out⟩
  show Ending.returned (.bool (decide (0 ≤ x))) = Ending.returned (.bool (decide (n ∈ l)))
  rw [HX.out]
def UnkSaid (base : Nat) (w : World) (l : List Int) (e : Ending) (w' : World) : Prop := ∃ v', e = .returned v' ∧ Nums base w' v' l ∧ Fb base w w'
set_option maxHeartbeats 4000000 in
set_option maxRecDepth 100000 in
theorem unk_any (base : Nat) : ∀ (f : Nat) (t : T), parts t ≤ f → f ≤ 1048576 → ∀ (l : List Int), l.length + parts t ≤ 4194304 → ∀ (v vl : Value) (w : World), IsT base w t v → Nums base w vl l → base ≤ w.heap.size → Calls Try.prog 40 #[v, vl] w (UnkSaid base w (unkT t l))
  | 0, t, h, _, _, _, _, _, _, _, _, _ => by have := parts_pos t; omega
  | f + 1, .mk k s n r, h, hf, l, hll, v, vl, w, hi, hnl, hbase => by
    simp only [IsT, Is] at hi
    obtain ⟨a, cap, rfl, hrow⟩ := hi
    obtain ⟨mr, hmr⟩ : ∃ mr, r.length = mr := ⟨_, rfl⟩
    rw [hmr]
    have hml := partsL_len r
    simp only [parts] at h hll
    rw [hmr] at hml
    have HI : Hid (∀ (j : Nat) (t : T) (l : List Int) (v vl : Value) (w' : World), r[j]? = some t → l.length + parts t ≤ 4194304 → IsT base w' t v → Nums base w' vl l → base ≤ w'.heap.size → Calls Try.prog 40 #[v, vl] w' (UnkSaid base w' (unkT t l))) := Lib.hid (fun j t l v vl w' hj hlt his hn hb => by
      have hk := parts_kid r j t hj
      exact unk_any base f t (by omega) (by omega) l hlt v vl w' his hn hb)
    have HM := Lib.hid hmr
    have HROW := Lib.hid hrow
    have HNL := Lib.hid hnl
    obtain ⟨va, vcap, rfl, hcells⟩ := hnl.slice
    obtain ⟨ll, hlen⟩ : ∃ ll, l.length = ll := ⟨_, rfl⟩
    have HLEN := Lib.hid hlen
    rw [hlen] at hll HNL ⊢
    have HC := Lib.hid (fun w' (hf : Fr No w w') => contains_num l ll hlen (by omega) va vcap n w' (fun j x hx => by
      obtain ⟨b, e1, e2⟩ := hcells j x hx
      exact ⟨b, e1, hf.cell e2⟩))
    obtain ⟨w0, hw0⟩ : ∃ w0, w0 = w.alloc (.cells #[.int .u8 k, .string s, .int .i64 n, .slice a mr cap] 24) := ⟨_, rfl⟩
    have r0 : Hid (w0.heap[w.heap.size]? = some (.cells #[.int .u8 k, .string s, .int .i64 n, .slice a mr cap] 24 (0, 0))) := Lib.hid (by rw [hw0]; exact new_block w _)
    have HF0 : Hid (Fr No w w0) := Lib.hid (by rw [hw0]; exact Fr.alloc _ _)
    clear hmr hrow hnl hcells hlen
    go_enter Try.func40, Try.ntmps40
    go_upto_region 1 with fail
    rw [← hw0]
    obtain ⟨g, hg⟩ : ∃ g, w.heap.size = g := ⟨_, rfl⟩
    rw [hg] at r0 hbase ⊢
    have HSZ := Lib.hid hg
    clear hw0 hg
    go_cut [16] from 7 to 16 (fun c wx => Hid (Fr No w0 wx) ∧ ∃ B, c = .bool B ∧ Hid (decide (k = 1 ∧ n ∉ l) = B))
    case first =>
      have c0 : w0.cell? ⟨g, 0, none⟩ = some (.int .u8 k) := cell_of r0.out 0
      have c2 : w0.cell? ⟨g, 2, none⟩ = some (.int .i64 n) := cell_of r0.out 2
      by_cases hk : k = 1
      · have hkb : ((k : Int) == 1) = true := by simp [hk]
        have HK := Lib.hid hk
        clear hk
        go_wp2_with fail
        refine (HC.out _ HF0.out).mono ?_
        rintro e w1 ⟨rfl, hf1⟩
        have HF1 := Lib.hid hf1
        clear hf1
        have HE : Hid (decide (k = 1 ∧ n ∉ l) = !decide (n ∈ l)) := Lib.hid (by simp [HK.out])
        obtain ⟨B, hB⟩ : ∃ B, decide (n ∈ l) = B := ⟨_, rfl⟩
        rw [hB] at HE ⊢
        clear hB
        go_wp2_with fail
        go_meet
        exact ⟨HF1, _, rfl, HE⟩
      · have hkb : ((k : Int) == 1) = false := by simp only [beq_eq_false_iff_ne, ne_eq]; omega
        have HE : Hid (decide (k = 1 ∧ n ∉ l) = false) := Lib.hid (decide_eq_false (fun h => hk h.1))
        clear hk
        go_wp2_with fail
        go_meet
        exact ⟨Lib.hid (Fr.refl _ _), _, rfl, HE⟩
    case rest =>
      obtain ⟨HF1, B, rfl, HB⟩ := hcut
      go_upto_if 16 with fail
      obtain ⟨l1, hl1⟩ : ∃ l1, (if k = 1 ∧ n ∉ l then l ++ [n] else l) = l1 := ⟨_, rfl⟩
      have HL1 := Lib.hid hl1
      have hl1len : l1.length ≤ ll + 1 := by
        rw [← hl1, ← HLEN.out]
        split <;> simp
      have HU : Hid (unkT (.mk k s n r) l = unkL r l1) := Lib.hid (by rw [← hl1]; rfl)
      clear hl1
      go_cut [1] from 17 to 21 (fun v1 wx => Hid (Nums base wx v1 l1) ∧ Hid (Fb base w0 wx))
      case first =>
        cases B with
        | true =>
          have HE : Hid (l ++ [n] = l1) := Lib.hid (by rw [← HL1.out, if_pos (of_decide_eq_true HB.out)])
          have c2 : wc.cell? ⟨g, 2, none⟩ = some (.int .i64 n) := cell_of (HF1.out.keeps r0.out no_one) 2
          have HOWN : Hid (∀ w', Fr No wc w' → w'.ownsRow base 3 1 (.slice va ll vcap) ll (l.map vint)) := Lib.hid (fun w' hf => by
            have h := HNL.out
            unfold Nums at h
            rw [HLEN.out] at h
            exact owns_fr h ((HF0.out.then HF1.out).then hf) fun _ _ => no_one)
          obtain ⟨i0, hi, hz0, hz1, hz2⟩ := info3
          have HINF := Lib.hid (And.intro hi (And.intro hz0 (And.intro hz1 hz2)))
          have hbw : base ≤ wc.heap.size := by have := HF1.out.size; have := HF0.out.size; have := HSZ.out; omega
          have HBW := Lib.hid hbw
          clear hi hz0 hz1 hz2
          go_wp2_with (at_builtin; refine wpList_append_lies _ rfl _ _ _ rfl base 3 i0 _ 1 8 Try.underlying42 HINF.out.1 HINF.out.2.1 HINF.out.2.2.1 HINF.out.2.2.2 rfl (by decide) (.slice va ll vcap) ll (l.map vint) rfl (HOWN.out _ (Fr.alloc _ _)) _ 1 1 [.int .i64 n] rfl rfl (World.news_of_block (new_block _ _)) (by simp [Value.oneCell']) (by decide) (by unfold maxLen; omega) (by omega) (Nat.le_trans HBW.out (Fr.alloc _ _).size) _ rfl ?_; intro gn capn wn hownn hgrow hat hltn)
          have HNN : Hid (Nums base wn (.slice (some ⟨gn, 0, none⟩) (ll + 1) capn) l1) := Lib.hid (by
            rw [← HE.out]
            unfold Nums
            rw [List.length_append, HLEN.out, List.map_append]
            exact hownn)
          have HFN : Hid (Fb base w0 wn) := Lib.hid ((Fb.ofNo (HF1.out.then (Fr.alloc _ _))).trans (Fb.grown (HOWN.out _ (Fr.alloc _ _)) hgrow))
          clear hownn hgrow hat hltn
          go_meet
          exact ⟨HNN, HFN⟩
        | false =>
          have HE : Hid (l = l1) := Lib.hid (by rw [← HL1.out, if_neg (of_decide_eq_false HB.out)])
          go_wp2_with fail
          go_meet
          exact ⟨Lib.hid (by rw [← HE.out]; exact HNL.out.no (HF0.out.then HF1.out)), Lib.hid (Fb.ofNo HF1.out)⟩
      case rest =>
        obtain ⟨HN1, HFB⟩ := hcut
        clear HB HL1 HNL HC HF1
        rename_i wc1
        have r3 : Hid (wc.heap[g]? = some (.cells #[.int .u8 k, .string s, .int .i64 n, .slice a mr cap] 24 (0, 0))) := Lib.hid (HFB.out.keeps r0.out (by simp [Bobj]))
        have c3 : wc.cell? ⟨g, 3, none⟩ = some (.slice a mr cap) := cell_of r3.out 3
        go_wp2_with fail
        go_loopw [1, 25] (fun v1 i wr => ∃ q : Nat, q ≤ mr ∧ i = .int .i64 q ∧ Hid (Fb base w0 wr) ∧ Hid (Nums base wr v1 (unkL (r.take q) l1))) (fun _ i _ => mr - (intOf i).toNat)
        case atStart => exact ⟨0, Nat.zero_le _, rfl, HFB, HN1⟩
        case round =>
          obtain ⟨q, hq, rfl, HFR, HNR⟩ := hrel
          by_cases hqm : q = mr
          · have HFIN : Hid (unkL (r.take q) l1 = unkT (.mk k s n r) l) := Lib.hid (by rw [HU.out, List.take_of_length_le (by rw [HM.out]; omega)])
            go_wp2_with fail
            go_ret
            refine ⟨_, rfl, ?_, (Fb.ofNo HF0.out).trans HFR.out⟩
            rw [← HFIN.out]
            exact HNR.out
          · obtain ⟨t, ht⟩ : ∃ t, r[q]? = some t := ⟨_, List.getElem?_eq_getElem (by rw [HM.out]; omega)⟩
            have hfb : Fb base w wr := (Fb.ofNo HF0.out).trans HFR.out
            have hrw := Row.keep (Stays.of_fb hfb) (fun _ h => h) a 0 r HROW.out
            obtain ⟨b, off, x0, x1, x2, x3, rfl, _, _, d0, d1, d2, d3, his⟩ := Row.at_ 0 r hrw q t ht
            rw [Nat.zero_add] at d0 d1 d2 d3
            have hlen : (unkL (r.take q) l1).length + parts t ≤ 4194304 := by
              have h1 := unkL_len (r.take q) l1
              have h2 := partsL_take_mem r q t ht
              omega
            have hbw : base ≤ wr.heap.size := by have := hfb.size; have := HSZ.out; omega
            have HC : Hid (∀ v1 w', Nums base w' v1 (unkL (r.take q) l1) → Fr No wr w' → Calls Try.prog 40 #[.agg #[x0, x1, x2, x3], v1] w' (UnkSaid base w' (unkT t (unkL (r.take q) l1)))) := Lib.hid (fun v1 w' hn hb => HI.out q t _ _ v1 w' ht hlen (IsT.no his hb) hn (Nat.le_trans hbw hb.size))
            obtain ⟨k1, s1, n1, aa1, mm1, cc1, rfl, rfl, rfl, rfl⟩ := is_cells his
            have HTK := Lib.hid ht
            have hltq : (q : Int) < (mr : Int) := by omega
            clear his hrw ht hfb
            go_wp2_with fail
            refine (HC.out _ _ (HNR.out.no (Fr.alloc wr _)) (Fr.alloc wr _)).mono ?_
            rintro e w2 ⟨v2, rfl, hn2, hf2⟩
            have HN2 : Hid (Nums base w2 v2 (unkL (r.take (q + 1)) l1)) := Lib.hid (by rw [take_snoc HTK.out, unkL_snoc]; exact hn2)
            have HF2 : Hid (Fb base w0 w2) := Lib.hid ((HFR.out.then (Fr.alloc wr _)).trans hf2)
            clear hn2 hf2
            go_wp2_with fail
            exact ⟨⟨q + 1, by omega, by go_num, HF2, HN2⟩, by simp [intOf]; omega⟩
end Go.Proofs.Ytfjddfcndammdaa
