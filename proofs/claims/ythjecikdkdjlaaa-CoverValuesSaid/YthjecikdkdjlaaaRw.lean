/- Rows of rows, made one behind the other; all that go into a pattern's head. -/
import Derived.Test.YthjecikdkdjlaaaIn
namespace Go.Proofs.Ythjecikdkdjlaaa
open Go.RowKit

theorem zero58 : ∃ i z, Try.prog.info? 58 = some i ∧ i.zero = some z ∧ i.size = 1 ∧ i.bytes = 24 ∧ z.cells.size = 1 := ⟨_, _, rfl, rfl, rfl, rfl, rfl⟩
/-- v is a slice of rows that the call owns -/
def OutR (base B : Nat) (w : World) (v : Value) (rows : List (List T)) : Prop :=
  ∃ vs : List Value, vs.length = rows.length ∧ w.ownsRow B 58 1 v rows.length vs ∧ ∀ (j : Nat) (r : List T) (u : Value), rows[j]? = some r → vs[j]? = some u → RowV base w u r.reverse
theorem OutR.nil (base B : Nat) (w : World) : OutR base B w (.slice none 0 0) [] := ⟨[], rfl, ⟨rfl, .inl ⟨rfl, rfl⟩⟩, fun j r u h => by simp at h⟩
theorem owns58_no {w w' : World} {base n : Nat} {v : Value} {xs : List Value} (h : w.ownsRow base 58 1 v n xs) (hf : Fr No w w') : w'.ownsRow base 58 1 v n xs := by
  refine ⟨h.1, ?_⟩
  rcases h.2 with h2 | ⟨g, cap, cur, h1, h2, h3, h4⟩
  · exact .inl h2
  · exact .inr ⟨g, cap, cur, h1, h2, hf.keeps h3 no_one, h4⟩
theorem OutR.no {base B : Nat} {w w' : World} {v : Value} {rows : List (List T)} (h : OutR base B w v rows) (hf : Fr No w w') : OutR base B w' v rows := by
  obtain ⟨vs, h1, h2, h3⟩ := h
  exact ⟨vs, h1, owns58_no h2 hf, fun j r u hj hu => (h3 j r u hj hu).no hf⟩
theorem OutR.slice {base B : Nat} {w : World} {v : Value} {rows : List (List T)} (h : OutR base B w v rows) : ∃ a c, v = .slice a rows.length c := by
  obtain ⟨vs, h1, h2, h3⟩ := h
  rcases h2.2 with ⟨h1, h2⟩ | ⟨g, cap, cur, h1, _⟩
  · exact ⟨none, 0, by rw [h1, h2]⟩
  · exact ⟨_, _, h1⟩
/-- rows in memory: a slice of them -/
def RowsV (base : Nat) (w : World) (v : Value) (rows : List (List T)) : Prop := ∃ a cap, v = .slice a rows.length cap ∧ RowsA base w a (rows.map List.reverse)
theorem RowsV.no {base : Nat} {w w' : World} {v : Value} {rows : List (List T)} (h : RowsV base w v rows) (hf : Fr No w w') : RowsV base w' v rows := by
  obtain ⟨a, cap, e, hr⟩ := h
  exact ⟨a, cap, e, hr.no hf⟩
theorem OutR.rows {base B : Nat} {w : World} {v : Value} {rows : List (List T)} (h : OutR base B w v rows) : RowsV base w v rows := by
  obtain ⟨vs, h1, h2, h3⟩ := h
  rcases h2.2 with ⟨h4, h5⟩ | ⟨g, cap, cur, h4, h5, h6, h7, h8, h9, h10⟩
  · refine ⟨none, 0, by rw [h4, h5], fun j l hl => ?_⟩
    have : rows = [] := List.eq_nil_of_length_eq_zero h5
    subst this
    simp at hl
  · refine ⟨some ⟨g, 0, none⟩, cap, h4, fun j l hl => ?_⟩
    rw [List.getElem?_map] at hl
    obtain ⟨r, hr, rfl⟩ := Option.map_eq_some_iff.1 hl
    have hj : j < vs.length := by rw [h1]; exact (List.getElem?_eq_some_iff.1 hr).1
    have hu : vs[j]? = some vs[j] := List.getElem?_eq_getElem hj
    refine ⟨g, 0, vs[j], rfl, ?_, h3 j r _ hr hu⟩
    rw [cell_of h6, ← hu, ← h10, List.getElem?_take_of_lt (by rw [h1] at hj; omega)]
    simp
theorem RowsV.at_ {base : Nat} {w : World} {a : Option Addr} {n cap : Nat} {rows : List (List T)} (h : RowsV base w (.slice a n cap) rows) {j : Nat} {r : List T} (hj : rows[j]? = some r) :
    ∃ b off u, a = some ⟨b, off, none⟩ ∧ w.cell? ⟨b, off + j, none⟩ = some u ∧ RowV base w u r.reverse := by
  obtain ⟨a', cap', e, hr⟩ := h
  cases e
  exact hr j r.reverse (by rw [List.getElem?_map, hj]; rfl)
theorem RowsV.len {base : Nat} {w : World} {a : Option Addr} {n cap : Nat} {rows : List (List T)} (h : RowsV base w (.slice a n cap) rows) : rows.length = n := by
  obtain ⟨a', cap', e, hr⟩ := h
  cases e
  rfl
theorem rowV_grown {base B : Nat} {w w' : World} {v u : Value} {n : Nat} {xs : List Value} {l : List T} (hb : base ≤ B) (ho : w.ownsRow B 58 1 v n xs) (hg : w.grownBy w' v.ownBlock) (h : RowV base w u l) : RowV base w' u l := by
  obtain ⟨a, cap, e, hc, hr⟩ := h
  refine ⟨a, cap, e, hc, Row.keep (fun b hb1 _ hb2 => hg.block b hb1 ?_) (fun _ h => h) a 0 l hr⟩
  rcases ho.2 with ⟨h4, h5⟩ | ⟨g, cap, cur, h4, h5, h6, _⟩
  · rw [h4]
    simp [Value.ownBlock]
  · rw [h4]
    intro e2
    have e2 : b = g := by simpa [Value.ownBlock] using e2
    subst e2
    rcases hb2 with h | ⟨cs, z, h⟩
    · omega
    · rw [h6] at h
      cases h
/-- a row is put behind the others: out = append(out, x) -/
theorem wpList_row1 {w : World} {ops : Array Oper} {rest : List Oper} {o : Oper} {a : Act} {Q : Exit → Act → World → Prop} (hgd : o.guard = none) (s x : Operand)
    (ho : o.op = .call { callee := .builtin .append, args := #[s, x], argTypes := #[56, 56] }) (base B : Nat) (v : Value) (rows : List (List T)) (hs : a.eval s = v) (hv : OutR base B w v rows)
    (gb : Nat) (u : Value) (hx : a.eval x = .slice (some ⟨gb, 0, none⟩) 1 1) (hb : w.heap[gb]? = some (.cells #[u] 58 (0, 0))) (hu1 : u.oneCell' = true) (r : List T) (hu : RowV base w u r.reverse) (hn : rows.length ≤ 1073741824) (hB : B ≤ w.heap.size) (hbB : base ≤ B)
    (h : ∀ a' c' w', Hid (OutR base B w' (.slice a' (rows.length + 1) c') (rows ++ [r])) → Hid (Fr (fun k => B ≤ k) w w') → wpList Try.prog ops Q rest (a.put o.dst (.slice a' (rows.length + 1) c')) w') : wpList Try.prog ops Q (o :: rest) a w := by
  obtain ⟨i, z, hi, hz, h1, h2, h3⟩ := zero58
  obtain ⟨vs, hvl, hown, hall⟩ := hv
  refine wpList_append_lies w hgd s x 56 ho B 58 i z 1 24 Try.underlying56 hi hz h1 h2 h3 (by decide) v rows.length vs hs hown ⟨gb, 0, none⟩ 1 1 [u] hx rfl (World.news_of_block hb) (by simp [hu1]) (by decide) (by unfold maxLen; omega) (by omega) hB _ rfl ?_
  intro g cap w' hown' hg _ _
  refine h _ _ w' (Lib.hid ⟨vs ++ [u], by simp [hvl], by rw [List.length_append]; exact hown', fun j r' u' hj hu' => ?_⟩) (Lib.hid (Fr.grownR hg (fun k e => ?_)))
  · rcases Nat.lt_or_ge j rows.length with hlt | hge
    · rw [List.getElem?_append_left hlt] at hj
      rw [List.getElem?_append_left (by omega)] at hu'
      exact rowV_grown hbB hown hg (hall j r' u' hj hu')
    · rw [List.getElem?_append_right hge] at hj
      rw [List.getElem?_append_right (by omega), hvl] at hu'
      have hj0 : j - rows.length = 0 := by
        have := (List.getElem?_eq_some_iff.1 hj).1
        simp at this
        omega
      rw [hj0] at hj hu'
      simp only [List.getElem?_cons_zero, Option.some.injEq] at hj hu'
      subst hj hu'
      exact rowV_grown hbB hown hg hu
  · rcases hown.2 with ⟨h4, _⟩ | ⟨g', cap', cur, h4, h5, _⟩
    · rw [h4] at e
      simp [Value.ownBlock] at e
    · rw [h4] at e
      have e : g' = k := by simpa [Value.ownBlock] using e
      omega
theorem allInto_snoc (is : List Inf) (q : T) {rows : List (List T)} {k : Nat} {r : List T} (h : rows[k]? = some r) : allInto is q (rows.take (k + 1)) = allInto is q (rows.take k) ++ (into is q r).toList := by
  rw [take_snoc h]
  simp only [allInto, List.filterMap_append]
  cases hi : into is q r <;> simp [hi]
theorem allInto_len (is : List Inf) (q : T) (rows : List (List T)) (k : Nat) : (allInto is q (rows.take k)).length ≤ rows.length := by
  have h1 := List.length_filterMap_le (into is q) (rows.take k)
  have h2 : (rows.take k).length ≤ rows.length := by rw [List.length_take]; omega
  simp only [allInto]
  omega
/-- rows as they may be: none is empty, none too long -/
def RowsOk (rows : List (List T)) : Prop := rows.length ≤ 1048576 ∧ ∀ r ∈ rows, ∃ p r', r = p :: r' ∧ r'.length + 1 ≤ 1048576 ∧ p.kids.length ≤ 1048576
set_option maxHeartbeats 4000000 in
theorem all_any (base : Nat) (is : List Inf) (gc : Nat) (rows : List (List T)) (q : T) (n cap : Nat) (a : Option Addr) (vq : Value) (w : World) (hok : RowsOk rows) (hq : q.kids.length ≤ 1048576) (hc : Chk w gc is) (hr : RowsV base w (.slice a n cap) rows) (hi : IsT base w q vq) (hbase : base ≤ w.heap.size) :
    Calls Try.prog 41 #[.pointer (some ⟨gc, 0, none⟩), .slice a n cap, vq] w fun e w' => Fr No w w' ∧ ∃ v, e = .returned v ∧ RowsV base w' v (allInto is q rows) := by
  have hn := hr.len
  have HR := Lib.hid hr
  have HOK := Lib.hid hok.2
  have hn2 : n ≤ 1048576 := by rw [← hn]; exact hok.1
  obtain ⟨x0, x1, x2, x3, rfl⟩ := is_agg hi
  obtain ⟨kq, sq, nq, aq, mq, cq, rfl, rfl, rfl, rfl⟩ := is_cells hi
  have HIN : Hid (∀ (p : T) (r' : List T) (u : Value) (w' : World), Fr No w w' → (p :: r') ∈ rows → RowV base w' u (r'.reverse ++ [p]) → Calls Try.prog 40 #[.pointer (some ⟨gc, 0, none⟩), u, .agg #[.int .u8 kq, .string sq, .int .i64 nq, .slice aq mq cq]] w' (IntoSaid base w' (into is q (p :: r')))) := Lib.hid (fun p r' u w' hf hm hu => by
    obtain ⟨p2, r2, he, h1, h2⟩ := hok.2 _ hm
    cases he
    have h := into_any base is gc r'.reverse p q (by simpa using h1) hq h2 u _ w' (hc.no hf) hu (hi.no hf) (Nat.le_trans hbase hf.size)
    rw [List.reverse_reverse] at h
    exact h)
  have HN := Lib.hid hn
  clear hc hi hr hok
  obtain ⟨g5, hg5⟩ : ∃ g5, w.heap.size = g5 := ⟨_, rfl⟩
  obtain ⟨w0, hw0⟩ : ∃ w0, w0 = w.alloc (.cells #[.int .u8 kq, .string sq, .int .i64 nq, .slice aq mq cq] 40) := ⟨_, rfl⟩
  have r0 : Hid (w0.heap[g5]? = some (.cells #[.int .u8 kq, .string sq, .int .i64 nq, .slice aq mq cq] 40 (0, 0))) := Lib.hid (by rw [hw0, ← hg5]; exact new_block w _)
  have HF0 : Hid (Fr No w w0) := Lib.hid (by rw [hw0]; exact Fr.alloc w _)
  have HB0 : Hid (base ≤ w0.heap.size) := Lib.hid (Nat.le_trans hbase HF0.out.size)
  clear hbase hn
  go_enter Try.func41, Try.ntmps41
  go_upto_region 1 with fail
  rw [← hw0]
  clear hw0 hg5
  go_wp2_with fail
  go_loopw [6, 13] (fun v i wr => ∃ k : Nat, k ≤ n ∧ i = .int .i64 k ∧ Hid (Fr No w0 wr) ∧ Hid (OutR base w0.heap.size wr v (allInto is q (rows.take k)))) (fun _ i _ => n - (intOf i).toNat)
  case atStart => exact ⟨0, Nat.zero_le _, rfl, Lib.hid (Fr.refl _ _), Lib.hid (OutR.nil _ _ _)⟩
  case round =>
    obtain ⟨k, hk, rfl, HF, HO⟩ := hrel
    by_cases hkn : k = n
    · subst hkn
      go_wp2_with fail
      go_ret
      refine ⟨HF0.out.then HF.out, _, rfl, ?_⟩
      have h := HO.out.rows
      rw [← HN.out, List.take_length] at h
      exact h
    · obtain ⟨r, hrk⟩ : ∃ r, rows[k]? = some r := ⟨_, List.getElem?_eq_getElem (by rw [HN.out]; omega)⟩
      obtain ⟨p, r', rfl, _, _⟩ := HOK.out r (List.mem_of_getElem? hrk)
      obtain ⟨b, off, u, rfl, hcell, hrow⟩ := (HR.out.no (HF0.out.then HF.out)).at_ hrk
      rw [List.reverse_cons] at hrow
      obtain ⟨au, cu, rfl, _, _⟩ := id hrow
      have HROW := Lib.hid hrow
      have HRK := Lib.hid hrk
      obtain ⟨mu, hmu⟩ : ∃ mu, (r'.reverse ++ [p]).length = mu := ⟨_, rfl⟩
      rw [hmu] at hcell HROW
      have hc0 : wr.cell? ⟨g5, 0, none⟩ = some (.int .u8 kq) := HF.out.cell (cell_of r0.out 0)
      have hc1 : wr.cell? ⟨g5, 1, none⟩ = some (.string sq) := HF.out.cell (cell_of r0.out 1)
      have hc2 : wr.cell? ⟨g5, 2, none⟩ = some (.int .i64 nq) := HF.out.cell (cell_of r0.out 2)
      have hc3 : wr.cell? ⟨g5, 3, none⟩ = some (.slice aq mq cq) := HF.out.cell (cell_of r0.out 3)
      have hlt : (k : Int) < (n : Int) := by omega
      clear hrow hrk hmu
      go_wp2_with fail
      refine (HIN.out p r' _ _ (HF0.out.then HF.out) (List.mem_of_getElem? HRK.out) HROW.out).mono ?_
      rintro e w2 ⟨hf2, hm⟩
      have HF2 := Lib.hid (HF.out.then hf2)
      have HO2 := Lib.hid (HO.out.no hf2)
      have HS : Hid (allInto is q (rows.take (k + 1)) = allInto is q (rows.take k) ++ (into is q (p :: r')).toList) := Lib.hid (allInto_snoc is q HRK.out)
      have hlen : (allInto is q (rows.take k)).length ≤ 1048576 := Nat.le_trans (allInto_len is q rows k) (by rw [HN.out]; omega)
      clear hc0 hc1 hc2 hc3 hcell hf2
      cases hin : into is q (p :: r') with
      | none =>
        rw [hin] at hm HS
        obtain rfl := hm
        go_wp2_with fail
        refine ⟨⟨k + 1, by omega, by go_num, HF2, Lib.hid ?_⟩, by simp [intOf]; omega⟩
        rw [HS.out]
        simpa using HO2.out
      | some l =>
        rw [hin] at hm HS
        obtain ⟨v2, rfl, hv2⟩ := hm
        obtain ⟨a2, c2, rfl, _, _⟩ := id hv2
        obtain ⟨m2, hm2⟩ : ∃ m2, l.reverse.length = m2 := ⟨_, rfl⟩
        rw [hm2] at hv2 ⊢
        have HV2 := Lib.hid hv2
        obtain ⟨av, cv, hvv⟩ := HO2.out.slice
        subst hvv
        obtain ⟨ln, hln⟩ : ∃ ln, (allInto is q (rows.take k)).length = ln := ⟨_, rfl⟩
        rw [hln] at HO2 hlen ⊢
        have HLN := Lib.hid hln
        clear hv2 hm2 hin hln
        go_wp2_with (at_builtin; refine wpList_row1 rfl _ _ rfl base w0.heap.size (.slice av ln cv) _ rfl (HO2.out.no (Fr.alloc _ _)) w2.heap.size (.slice a2 m2 c2) rfl (new_block w2 _) rfl l (HV2.out.no (Fr.alloc _ _)) (by rw [HLN.out]; omega) (Nat.le_trans HF2.out.size (Fr.alloc _ (.cells #[.slice a2 m2 c2] 58)).size) HB0.out ?_; rw [HLN.out]; intro a3 c3 w3 HO3 HF3)
        refine ⟨⟨k + 1, by omega, by go_num, Lib.hid ((HF2.out.then (Fr.alloc _ _)).own HF3.out (fun i h => h)), Lib.hid ?_⟩, by simp [intOf]; omega⟩
        rw [HS.out]
        exact HO3.out
end Go.Proofs.Ythjecikdkdjlaaa
