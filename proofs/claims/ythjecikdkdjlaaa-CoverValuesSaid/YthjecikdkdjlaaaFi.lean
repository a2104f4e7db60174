/- The first patterns of rows, one for each head. -/
import Derived.Test.YthjecikdkdjlaaaMp
import Derived.Deep.CutBlock
namespace Go.Proofs.Ythjecikdkdjlaaa
open Go.RowKit

open Classical in
noncomputable def R4 (v : Value) : Option (DataW Value × List MemPlace) := if ∃ k s n a m c, v = .agg #[.int .u8 k, .string s, .int .i64 n, .slice a m c] then some (.held v, []) else none
theorem r4_mk (k : Int) (s : ByteArray) (n : Int) (a : Option Addr) (m c : Nat) : R4 (.agg #[.int .u8 k, .string s, .int .i64 n, .slice a m c]) = some (.held (.agg #[.int .u8 k, .string s, .int .i64 n, .slice a m c]), []) := by
  unfold R4
  exact if_pos ⟨_, _, _, _, _, _, rfl⟩
theorem r4_inv {v : Value} {z : DataW Value × List MemPlace} (h : R4 v = some z) : ∃ k s n a m c, v = .agg #[.int .u8 k, .string s, .int .i64 n, .slice a m c] := by
  unfold R4 at h
  split at h
  · assumption
  · cases h
theorem zeroV40 (w : World) : (zeroValue 40).run Try.prog w = .ok (.agg #[.int .u8 0, .string ⟨#[]⟩, .int .i64 0, .slice none 0 0]) w := by kernel_rfl
theorem ownsMap_fr {w w' : World} {S : Nat → Prop} {k : TypeId} {R : Value → Option (DataW Value × List MemPlace)} {mb n : Nat} {D : DataW Value} (h : w.ownsMap Try.prog k R mb n D) (hf : Fr S w w') (hs : ¬ S mb) : w'.ownsMap Try.prog k R mb n D := by
  obtain ⟨es, clock, hb, F⟩ := h
  exact ⟨es, clock, hf.keeps hb hs, F⟩
theorem ownsMap_isMap {w : World} {k : TypeId} {R : Value → Option (DataW Value × List MemPlace)} {mb n : Nat} {D : DataW Value} (h : w.ownsMap Try.prog k R mb n D) : Maps.IsMap D := by
  obtain ⟨es, clock, _, _, _, e⟩ := h
  exact ⟨_, e⟩
/-- the map's keys are the heads of these -/
def Keys (is : List Inf) (D : DataW Value) (acc : List T) : Prop := ∀ (h : Hd) (l : Lit), keyOf Try.prog 66 (hdV h) = some l → Maps.has D l = acc.any (fun q => decide (hdOf is q = h))
theorem keys_put {is : List Inf} {D : DataW Value} {acc : List T} {p : T} {l : Lit} (h : Keys is D acc) (hD : Maps.IsMap D) (hl : keyOf Try.prog 66 (hdV (hdOf is p)) = some l) (d : DataW Value) : Keys is (D.put l d) (acc ++ [p]) := by
  intro h' l' hl'
  rw [List.any_append]
  by_cases e : hdOf is p = h'
  · subst e
    rw [hl] at hl'
    cases hl'
    rw [Maps.has_put_same hD (keyed66.key hl)]
    simp
  · have hne : l' ≠ l := fun e2 => by
      subst e2
      exact e (hdV_inj (keyed66.inj hl hl'))
    rw [Maps.has_put_other hne, h h' l' hl']
    simp [e]
theorem firstsA_snoc (is : List Inf) (r : List T) : ∀ (rows : List (List T)) (acc : List T), firstsA is (rows ++ [r]) acc = firstsA is [r] (firstsA is rows acc)
  | [], acc => by simp [firstsA]
  | [] :: rs, acc => by
    simp only [List.cons_append, firstsA]
    rw [firstsA_snoc is r rs acc]
    simp [firstsA]
  | (p :: r') :: rs, acc => by
    simp only [List.cons_append, firstsA]
    split
    · rw [firstsA_snoc is r rs acc]
      simp [firstsA]
    · rw [firstsA_snoc is r rs (acc ++ [p])]
      simp [firstsA]
theorem firsts_step (is : List Inf) {rows : List (List T)} {k : Nat} {p : T} {r' : List T} (h : rows[k]? = some (p :: r')) :
    firsts is (rows.take (k + 1)) = if isWild p || (firsts is (rows.take k)).any (fun q => decide (hdOf is q = hdOf is p)) then firsts is (rows.take k) else firsts is (rows.take k) ++ [p] := by
  rw [take_snoc h]
  simp only [firsts]
  rw [firstsA_snoc]
  simp only [firstsA]
  rfl
theorem firstsA_len (is : List Inf) : ∀ (rows : List (List T)) (acc : List T), (firstsA is rows acc).length ≤ acc.length + rows.length
  | [], acc => by simp [firstsA]
  | [] :: rs, acc => by
    simp only [firstsA]
    have := firstsA_len is rs acc
    simp only [List.length_cons]
    omega
  | (p :: r') :: rs, acc => by
    simp only [firstsA]
    split
    · have := firstsA_len is rs acc
      simp only [List.length_cons]
      omega
    · have := firstsA_len is rs (acc ++ [p])
      simp only [List.length_cons, List.length_append, List.length_nil] at this ⊢
      omega
theorem firsts_len (is : List Inf) (rows : List (List T)) (k : Nat) : (firsts is (rows.take k)).length ≤ rows.length := by
  have h := firstsA_len is (rows.take k) []
  have h2 : (rows.take k).length ≤ rows.length := by rw [List.length_take]; omega
  simp only [firsts]
  simp only [List.length_nil] at h
  omega
/-- patterns that are put one behind the other -/
def OutP (base B : Nat) (W0 w : World) (v : Value) (acc : List T) : Prop := ∃ es : List El, es.length = acc.length ∧ w.ownsRow B 40 4 v acc.length (es.flatMap El.cs) ∧ ∀ (j : Nat) (t : T) (x : El), acc[j]? = some t → es[j]? = some x → IsT base W0 t x.v
theorem OutP.nil (base B : Nat) (W0 w : World) : OutP base B W0 w (.slice none 0 0) [] := ⟨[], rfl, ⟨rfl, .inl ⟨rfl, rfl⟩⟩, fun j r u h => by simp at h⟩
theorem OutP.no {base B : Nat} {W0 w w' : World} {v : Value} {acc : List T} (h : OutP base B W0 w v acc) (hf : Fr No w w') : OutP base B W0 w' v acc := by
  obtain ⟨vs, h1, h2, h3⟩ := h
  exact ⟨vs, h1, owns_no h2 hf, h3⟩
theorem OutP.fr {base B : Nat} {S : Nat → Prop} {W0 w w' : World} {v : Value} {acc : List T} (h : OutP base B W0 w v acc) (hf : Fr S w w') (hs : ∀ b c t z, S b → w.heap[b]? = some (.cells c t z) → False) : OutP base B W0 w' v acc := by
  obtain ⟨vs, h1, h2, h3⟩ := h
  refine ⟨vs, h1, ⟨h2.1, ?_⟩, h3⟩
  rcases h2.2 with h2 | ⟨g, cap, cur, h4, h5, h6, h7⟩
  · exact .inl h2
  · exact .inr ⟨g, cap, cur, h4, h5, hf.keeps h6 (fun hS => hs g _ _ _ hS h6), h7⟩
theorem OutP.slice {base B : Nat} {W0 w : World} {v : Value} {acc : List T} (h : OutP base B W0 w v acc) : ∃ a c, v = .slice a acc.length c := by
  obtain ⟨vs, h1, h2, h3⟩ := h
  rcases h2.2 with ⟨h1, h2⟩ | ⟨g, cap, cur, h1, _⟩
  · exact ⟨none, 0, by rw [h1, h2]⟩
  · exact ⟨_, _, h1⟩
theorem OutP.row {base B : Nat} {W0 w : World} {v : Value} {acc : List T} (h : OutP base B W0 w v acc) (hf : Fr No W0 w) : RowV base w v acc := by
  obtain ⟨es, h1, h2, h3⟩ := h
  exact row_of_els h2 h1 (fun j t x ht hx => (h3 j t x ht hx).no hf)
/-- out = append(out, p), of patterns -/
theorem wpList_pat1 {w : World} {ops : Array Oper} {rest : List Oper} {o : Oper} {a : Act} {Q : Exit → Act → World → Prop} (hgd : o.guard = none) (s x : Operand)
    (ho : o.op = .call { callee := .builtin .append, args := #[s, x], argTypes := #[22, 22] }) (base B : Nat) (W0 : World) (v : Value) (acc : List T) (hs : a.eval s = v) (hv : OutP base B W0 w v acc)
    (gb : Nat) (k : Nat) (sn : ByteArray) (n : Int) (ka : Option Addr) (km kc : Nat) (hx : a.eval x = .slice (some ⟨gb, 0, none⟩) 1 1) (hb : w.heap[gb]? = some (.cells #[.int .u8 k, .string sn, .int .i64 n, .slice ka km kc] 40 (0, 0))) (t : T) (ht : IsT base W0 t (.agg #[.int .u8 k, .string sn, .int .i64 n, .slice ka km kc])) (hn : acc.length ≤ 1073741824) (hB : B ≤ w.heap.size)
    (h : ∀ a' c' w', Hid (OutP base B W0 w' (.slice a' (acc.length + 1) c') (acc ++ [t])) → Hid (Fr (fun k => B ≤ k ∧ some k = v.ownBlock) w w') → wpList Try.prog ops Q rest (a.put o.dst (.slice a' (acc.length + 1) c')) w') : wpList Try.prog ops Q (o :: rest) a w := by
  obtain ⟨i, z, hi, hz, h1, h2, h3⟩ := zero40
  obtain ⟨es, hvl, hown, hall⟩ := hv
  refine wpList_append_lies w hgd s x 22 ho B 40 i z 4 56 Try.underlying22 hi hz h1 h2 h3 (by decide) v acc.length _ hs hown ⟨gb, 0, none⟩ 1 1 [.int .u8 k, .string sn, .int .i64 n, .slice ka km kc] hx rfl (World.news_of_block hb) (by simp [Value.oneCell']) (by decide) (by unfold maxLen; omega) (by omega) hB _ rfl ?_
  intro g cap w' hown' hg _ _
  refine h _ _ w' (Lib.hid ⟨es ++ [⟨0, .int .u8 k, .string sn, .int .i64 n, .slice ka km kc⟩], by simp [hvl], by rw [List.length_append, List.flatMap_append]; simpa [El.cs] using hown', fun j r' u' hj hu' => ?_⟩) (Lib.hid (Fr.grownR hg (fun k e => ⟨?_, e.symm⟩)))
  · rcases Nat.lt_or_ge j acc.length with hlt | hge
    · rw [List.getElem?_append_left hlt] at hj
      rw [List.getElem?_append_left (by omega)] at hu'
      exact hall j r' u' hj hu'
    · rw [List.getElem?_append_right hge] at hj
      rw [List.getElem?_append_right (by omega), hvl] at hu'
      have hj0 : j - acc.length = 0 := by
        have := (List.getElem?_eq_some_iff.1 hj).1
        simp at this
        omega
      rw [hj0] at hj hu'
      simp only [List.getElem?_cons_zero, Option.some.injEq] at hj hu'
      subst hj hu'
      exact ht
  · rcases hown.2 with ⟨h4, _⟩ | ⟨g', cap', cur, h4, h5, _⟩
    · rw [h4] at e
      simp [Value.ownBlock] at e
    · rw [h4] at e
      have e : g' = k := by simpa [Value.ownBlock] using e
      omega
set_option maxHeartbeats 1000000 in
theorem last_at (base : Nat) (l : List T) (p : T) (hl : l.getLast? = some p) (hn : l.length ≤ 1152921504606846976) (v : Value) (w0 w : World) (hf : Fr No w0 w) (hr : RowV base w0 v l) : Calls Try.prog 35 #[v] w fun e w' => ∃ u, e = .returned u ∧ IsT base w0 p u ∧ Fr No w w' := by
  obtain ⟨a, cap, rfl, hcap, hrow⟩ := hr
  obtain ⟨m, hm⟩ : ∃ m, l.length = m + 1 := ⟨l.length - 1, by
    cases l with
    | nil => cases hl
    | cons a r => simp⟩
  have hp : l[m]? = some p := by
    rw [List.getLast?_eq_getElem?, hm] at hl
    simpa using hl
  obtain ⟨b, off, c0, c1, c2, c3, rfl, _, _, d0, d1, d2, d3, his⟩ := Row.at_ 0 l hrow m p hp
  rw [Nat.zero_add] at d0 d1 d2 d3
  obtain ⟨k, s, n, a, m', c, rfl, rfl, rfl, rfl⟩ := is_cells his
  have HIS := Lib.hid his
  rw [hm] at hn ⊢
  have hF := hf.then (Fr.alloc w (.cells #[.int .u8 0, .string ⟨#[]⟩, .int .i64 0, .slice none 0 0] 40))
  have e0 := hF.cell d0
  have e1 := hF.cell d1
  have e2 := hF.cell d2
  have e3 := hF.cell d3
  have hk1 : ((m + 1 : Nat) : Int) - 1 = m := by omega
  clear his hrow hl hp hm d0 d1 d2 d3 hF hf
  go_enter Try.func35, Try.ntmps35
  go_wp2_with fail
  (try simp only [Exit.inBlock, Exit.then])
  refine bodyPost_ret (results_ty rfl _ _ w.heap.size _ rfl rfl (new_block w _)) rfl ?_
  exact ⟨_, rfl, HIS.out, Fr.alloc w _⟩
set_option maxHeartbeats 8000000 in
set_option maxRecDepth 100000 in
theorem firsts_any (base : Nat) (is : List Inf) (gc : Nat) (rows : List (List T)) (n cap : Nat) (a : Option Addr) (w : World) (hok : RowsOk rows) (hwf : ∀ r ∈ rows, ∀ p ∈ r, (hdOf is p).Wf) (hc : Chk w gc is) (hr : RowsV base w (.slice a n cap) rows) (hbase : base ≤ w.heap.size) :
    Calls Try.prog 36 #[.pointer (some ⟨gc, 0, none⟩), .slice a n cap] w fun e w' => Fr No w w' ∧ ∃ v, e = .returned v ∧ RowV base w' v (firsts is rows) := by
  have hn := hr.len
  have HR := Lib.hid hr
  have HOK := Lib.hid hok.2
  have HWF := Lib.hid hwf
  have hn2 : n ≤ 1048576 := by rw [← hn]; exact hok.1
  have HN := Lib.hid hn
  have HHP : Hid (∀ (p : T) (v : Value) (w' : World), Fr No w w' → IsT base w' p v → Calls Try.prog 31 #[.pointer (some ⟨gc, 0, none⟩), v] w' (SaidV w' (hdV (hdOf is p)))) := Lib.hid (fun p v w' hf h => head_any base is gc p v w' (hc.no hf) h)
  have HLP : Hid (∀ (p : T) (r' : List T) (u : Value) (w' : World), Fr No w w' → (p :: r') ∈ rows → RowV base w u (r'.reverse ++ [p]) → Calls Try.prog 35 #[u] w' fun e w2 => ∃ v, e = .returned v ∧ IsT base w p v ∧ Fr No w' w2) := Lib.hid (fun p r' u w' hf hm hu => by
    obtain ⟨p2, r2, he, h1, h2⟩ := hok.2 _ hm
    cases he
    exact last_at base (r'.reverse ++ [p]) p (by simp) (by simp; omega) u w w' hf hu)
  have HWP : Hid (∀ (p : T) (v : Value) (w' : World), IsT base w' p v → Calls Try.prog 28 #[v] w' (SaidT w' (isWild p))) := Lib.hid (fun p v w' h => wild_any base p v w' h)
  clear hc hr hok hwf hn
  obtain ⟨w0, hw0⟩ : ∃ w0, w.alloc (.map #[] 0) = w0 := ⟨_, rfl⟩
  obtain ⟨mb, hmb⟩ : ∃ mb, w.heap.size = mb := ⟨_, rfl⟩
  have HM0 : Hid (w0.ownsMap Try.prog 66 R4 mb 0 (.map [])) := Lib.hid (by rw [← hw0, ← hmb]; exact World.ownsMap_made w _ _ _)
  have HF0 : Hid (Fr No w w0) := Lib.hid (by rw [← hw0]; exact Fr.alloc w _)
  have hmb0 : mb < w0.heap.size := HM0.out.lt
  have HMB : Hid (w.heap.size ≤ mb) := Lib.hid (by rw [hmb]; exact Nat.le_refl _)
  have hmm : (Instr.makeMap 80 none).run Try.prog w = .ok (.map (some mb)) w0 := by
    rw [← hw0, ← hmb]
    exact run_makeMap _ _
  go_enter Try.func36, Try.ntmps36
  go_wp2_with fail
  clear hmm hw0 hmb
  go_loopw [6, 15] (fun v i wr => ∃ k : Nat, k ≤ n ∧ i = .int .i64 k ∧ Hid (Fr No w wr) ∧ Hid (OutP base (w0.heap.size) w wr v (firsts is (rows.take k))) ∧ Hid (w0.heap.size ≤ wr.heap.size) ∧ Hid (∃ D, wr.ownsMap Try.prog 66 R4 mb k D ∧ Keys is D (firsts is (rows.take k)))) (fun _ i _ => n - (intOf i).toNat)
  case atStart => exact ⟨0, Nat.zero_le _, rfl, HF0, Lib.hid (OutP.nil _ _ _ _), Lib.hid (Nat.le_refl _), Lib.hid ⟨_, HM0.out, fun h l _ => rfl⟩⟩
  case round =>
    obtain ⟨k, hk, rfl, HF, HO, HZ, HMM⟩ := hrel
    by_cases hkn : k = n
    · subst hkn
      go_wp2_with fail
      go_ret
      refine ⟨HF.out, _, rfl, ?_⟩
      have h := HO.out.row HF.out
      rw [← HN.out, List.take_length] at h
      exact h
    · obtain ⟨r, hrk⟩ : ∃ r, rows[k]? = some r := ⟨_, List.getElem?_eq_getElem (by rw [HN.out]; omega)⟩
      obtain ⟨p, r', rfl, _, _⟩ := HOK.out r (List.mem_of_getElem? hrk)
      obtain ⟨b, off, u, rfl, hcell, hrow⟩ := HR.out.at_ hrk
      replace hcell := HF.out.cell hcell
      rw [List.reverse_cons] at hrow
      obtain ⟨au, cu, rfl, _, _⟩ := id hrow
      have HROW := Lib.hid hrow
      have HRK := Lib.hid hrk
      obtain ⟨mu, hmu⟩ : ∃ mu, (r'.reverse ++ [p]).length = mu := ⟨_, rfl⟩
      rw [hmu] at hcell HROW
      obtain ⟨D, hmap, hkeys⟩ := HMM.out
      have HM := Lib.hid hmap
      have HK := Lib.hid hkeys
      obtain ⟨kl, hkl⟩ := key_hd (HWF.out _ (List.mem_of_getElem? hrk) p (by simp))
      have HKL := Lib.hid hkl
      have hlt : (k : Int) < (n : Int) := by omega
      clear hrow hrk hmu hmap hkeys hkl HMM
      go_wp2_with fail
      refine (HLP.out p r' _ _ HF.out (List.mem_of_getElem? HRK.out) HROW.out).mono ?_
      rintro e w2 ⟨vp, rfl, hip, hf2⟩
      obtain ⟨x0, x1, x2, x3, rfl⟩ := is_agg hip
      obtain ⟨kp, sp, np, ap, mp, cp, rfl, rfl, rfl, rfl⟩ := is_cells hip
      have HF2 : Hid (Fr No wr w2) := Lib.hid hf2
      have HIP : Hid (IsT base w p (.agg #[.int .u8 kp, .string sp, .int .i64 np, .slice ap mp cp])) := Lib.hid hip
      clear hip hf2 hcell
      go_upto_region 7 with fail
      obtain ⟨w3, hw3⟩ : ∃ w3, w2.alloc (.cells #[.int .u8 kp, .string sp, .int .i64 np, .slice ap mp cp] 40) = w3 := ⟨_, rfl⟩
      obtain ⟨g9, hg9⟩ : ∃ g9, w2.heap.size = g9 := ⟨_, rfl⟩
      have hR9 : w3.heap[g9]? = some (.cells #[.int .u8 kp, .string sp, .int .i64 np, .slice ap mp cp] 40 (0, 0)) := by rw [← hw3, ← hg9]; exact new_block w2 _
      have HF3 : Hid (Fr No wr w3) := Lib.hid (by rw [← hw3]; exact HF2.out.then (Fr.alloc _ _))
      have HFW : Hid (Fr No w w3) := Lib.hid (HF.out.then HF3.out)
      have HIP3 : Hid (∀ w', Fr No w3 w' → IsT base w' p (.agg #[.int .u8 kp, .string sp, .int .i64 np, .slice ap mp cp])) := Lib.hid (fun w' hf => HIP.out.no (HFW.out.then hf))
      have HC9 : Hid (∀ w', Fr No w3 w' → cellsP w' g9 kp sp np ap mp cp) := Lib.hid (fun w' hf => ⟨cell_of (hf.keeps hR9 no_one) 0, cell_of (hf.keeps hR9 no_one) 1, cell_of (hf.keeps hR9 no_one) 2, cell_of (hf.keeps hR9 no_one) 3⟩)
      have HM3 : Hid (∀ w', Fr No w3 w' → w'.ownsMap Try.prog 66 R4 mb k D) := Lib.hid (fun w' hf => ownsMap_fr HM.out (HF3.out.then hf) no_one)
      have HO3 : Hid (∀ w', Fr No w3 w' → OutP base w0.heap.size w w' u6 (firsts is (rows.take k))) := Lib.hid (fun w' hf => HO.out.no (HF3.out.then hf))
      have HZ3 : Hid (w0.heap.size ≤ w3.heap.size) := Lib.hid (Nat.le_trans HZ.out HF3.out.size)
      have hgm : mb < g9 := by rw [← hg9]; exact Nat.lt_of_lt_of_le hmb0 (Nat.le_trans HZ.out HF2.out.size)
      rw [hw3, hg9]
      clear hw3 hg9 HM HO hR9
      obtain ⟨a0, a1, a2, a3⟩ := HC9.out _ (Fr.refl _ _)
      go_wp2_with fail
      refine (HHP.out _ _ _ HFW.out (HIP3.out _ (Fr.refl _ _))).mono ?_
      rintro e w4 ⟨rfl, hf4⟩
      have HF4 : Hid (Fr No w3 w4) := Lib.hid hf4
      obtain ⟨vl, psl, hlook, hvl⟩ := (HM3.out _ hf4).look_ok keyed66 Try.underlying80 (zeroV40 w4) (r4_mk 0 ⟨#[]⟩ 0 none 0 0) HKL.out
      obtain ⟨kl0, sl0, nl0, al0, ml0, cl0, rfl⟩ := r4_inv hvl
      rw [HK.out _ _ HKL.out] at hlook
      obtain ⟨bh, hbh⟩ : ∃ bh, (firsts is (rows.take k)).any (fun q => decide (hdOf is q = hdOf is p)) = bh := ⟨_, rfl⟩
      rw [hbh] at hlook
      have HST : Hid (firsts is (rows.take (k + 1)) = if isWild p || bh then firsts is (rows.take k) else firsts is (rows.take k) ++ [p]) := Lib.hid (by rw [← hbh]; exact firsts_step is HRK.out)
      clear hvl hf4 a0 a1 a2 a3 hbh
      cases bh with
      | true =>
        go_wp2_with fail
        have hend : Fr No w3 (w4.alloc (.cells #[.int .u8 kl0, .string sl0, .int .i64 nl0, .slice al0 ml0 cl0] 40)) := HF4.out.then (Fr.alloc _ _)
        have HS2 : firsts is (rows.take (k + 1)) = firsts is (rows.take k) := by rw [HST.out]; simp
        refine ⟨⟨k + 1, by omega, by go_num, Lib.hid (HFW.out.then hend), Lib.hid ?_, Lib.hid (Nat.le_trans HZ3.out hend.size), Lib.hid ⟨D, (HM3.out _ hend).mono (by omega), ?_⟩⟩, by simp [intOf]; omega⟩
        · rw [HS2]; exact HO3.out _ hend
        · rw [HS2]; exact HK.out
      | false =>
        obtain ⟨a0, a1, a2, a3⟩ := HC9.out _ (HF4.out.then (Fr.alloc _ (.cells #[.int .u8 kl0, .string sl0, .int .i64 nl0, .slice al0 ml0 cl0] 40)))
        go_wp2_with fail
        refine (HWP.out p _ _ (HIP3.out _ (HF4.out.then (Fr.alloc _ _)))).mono ?_
        rintro e w6 ⟨rfl, hf6⟩
        have HF6 : Hid (Fr No w3 w6) := Lib.hid ((HF4.out.then (Fr.alloc _ _)).then hf6)
        clear hf6 a0 a1 a2 a3 hlook
        cases hw : isWild p with
        | true =>
          have HS2 : Hid (firsts is (rows.take (k + 1)) = firsts is (rows.take k)) := Lib.hid (by rw [HST.out, hw]; simp)
          clear hw
          go_wp2_with fail
          refine ⟨⟨k + 1, by omega, by go_num, Lib.hid (HFW.out.then HF6.out), Lib.hid ?_, Lib.hid (Nat.le_trans HZ3.out HF6.out.size), Lib.hid ⟨D, (HM3.out _ HF6.out).mono (by omega), ?_⟩⟩, by simp [intOf]; omega⟩
          · rw [HS2.out]; exact HO3.out _ HF6.out
          · rw [HS2.out]; exact HK.out
        | false =>
          have HS2 : Hid (firsts is (rows.take (k + 1)) = firsts is (rows.take k) ++ [p]) := Lib.hid (by rw [HST.out, hw]; simp)
          clear hw
          go_upto_region 9 with fail
          refine region_e (fun w' => (w'.cell? ⟨g9, 0, none⟩ = some (.int .u8 kp) ∧ w'.cell? ⟨g9, 1, none⟩ = some (.string sp) ∧ w'.cell? ⟨g9, 2, none⟩ = some (.int .i64 np) ∧ w'.cell? ⟨g9, 3, none⟩ = some (.slice ap mp cp))) [5] (by kernel_rfl) ?_ (fun hHeld => ?_)
          · exact HC9.out _ (HF6.out.then (Fr.drew _))
          refine take_op 0 (some 36) (Op.move ( .tmp 5)) 80 ?_ (by kernel_rfl) (by kernel_rfl) (by kernel_rfl) (fun _ _ _ h => h) ?_ (by assumption) ?_
          rotate_left
          · intro w hSw; (try dsimp only at hSw); go_simp; (try (with_reducible rfl))
          try simp only [Act.put, List.setIfInBounds_toArray, List.set_cons_zero, List.set_cons_succ]
          refine take_op 1 (some 37) (Op.move ( .tmp 0)) 53 ?_ (by kernel_rfl) (by kernel_rfl) (by kernel_rfl) (fun _ _ _ h => h) ?_ (by assumption) ?_
          rotate_left
          · intro w hSw; (try dsimp only at hSw); go_simp; (try (with_reducible rfl))
          try simp only [Act.put, List.setIfInBounds_toArray, List.set_cons_zero, List.set_cons_succ]
          refine take_op 2 (some 38) (Op.load 40 ( .tmp 9)) 40 ?_ (by kernel_rfl) (by kernel_rfl) (by kernel_rfl) (fun _ _ _ h => h) ?_ (by assumption) ?_
          rotate_left
          · intro w hSw; (try dsimp only at hSw); go_simp; (try (with_reducible rfl))
          try simp only [Act.put, List.setIfInBounds_toArray, List.set_cons_zero, List.set_cons_succ]
          refine take_op 4 (some 40) (Op.load 40 ( .tmp 9)) 40 ?_ (by kernel_rfl) (by kernel_rfl) (by kernel_rfl) (fun _ _ _ h => h) ?_ (by assumption) ?_
          rotate_left
          · intro w hSw; (try dsimp only at hSw); go_simp; (try (with_reducible rfl))
          try simp only [Act.put, List.setIfInBounds_toArray, List.set_cons_zero, List.set_cons_succ]
          refine ready_e (rs := [3]) (by kernel_rfl) (by simp) ?_
          refine do_mid (o := _) rfl (fun K hK => ?_) none_e -- slot 39 F31
          go_simp
          go_at_call 31
          refine (HHP.out _ _ _ ((HFW.out.then HF6.out).then (Fr.drew _)) (HIP3.out _ (HF6.out.then (Fr.drew _)))).mono ?_
          rintro e' w7 ⟨rfl, hf7⟩
          have HF7 : Hid (Fr No w3 w7) := Lib.hid ((HF6.out.then (Fr.drew _)).then hf7)
          clear hf7
          refine hK.out _ _ ?_ (fun hHeld => ?_)
          · exact HC9.out _ HF7.out
          clear hK K
          try dsimp only
          try simp only [Act.put, List.setIfInBounds_toArray, List.set_cons_zero, List.set_cons_succ]
          obtain ⟨w8, hrun8, hown8, hg8⟩ := (HM3.out _ HF7.out).update keyed66 Try.underlying80 (by unfold maxLen; omega) HKL.out (r4_mk kp sp np ap mp cp)
          refine ready_e (rs := [5]) (by kernel_rfl) (by simp) ?_
          refine do_late (o := _) rfl (by kernel_rfl) (fun K hK => ?_) none_e -- slot None mapUpdate
          go_simp
          refine hK.out _ _ ?_
          clear hK K
          try dsimp only
          try simp only [Act.put, List.setIfInBounds_toArray, List.set_cons_zero, List.set_cons_succ]
          refine done_e (by kernel_rfl) ?_ _
          have HF8 : Hid (Fr (Just mb) w3 w8) := Lib.hid ((HF7.out.mono (fun _ _ h => h.elim)).trans (Fr.grownR hg8 (fun k e => by cases e; rfl)) (fun _ _ h => h))
          have HF78 : Hid (Fr (Just mb) w7 w8) := Lib.hid (Fr.grownR hg8 (fun k e => by cases e; rfl))
          have HW8 : Hid (Fr No w w8) := Lib.hid ((HFW.out.then HF7.out).own HF78.out (fun i e => by rw [show i = mb from e]; exact HMB.out))
          have HO8 : Hid (OutP base w0.heap.size w w8 u6 (firsts is (rows.take k))) := Lib.hid ((HO3.out _ HF7.out).fr HF78.out (fun b c t z hb hc => by
            obtain ⟨es, clock, hm, _⟩ := HM3.out _ HF7.out
            rw [show b = mb from hb] at hc
            rw [hm] at hc
            cases hc))
          have HM8 := Lib.hid hown8
          have hne : ¬ Just mb g9 := fun e => by have : g9 = mb := e; omega
          obtain ⟨b0, b1, b2, b3⟩ := hHeld
          have c0 := HF78.out.cellS (a := ⟨g9, 0, none⟩) hne b0
          have c1 := HF78.out.cellS (a := ⟨g9, 1, none⟩) hne b1
          have c2 := HF78.out.cellS (a := ⟨g9, 2, none⟩) hne b2
          have c3 := HF78.out.cellS (a := ⟨g9, 3, none⟩) hne b3
          have HZ8 : Hid (w0.heap.size ≤ w8.heap.size) := Lib.hid (Nat.le_trans HZ3.out HF8.out.size)
          have hlen : (firsts is (rows.take k)).length ≤ 1048576 := Nat.le_trans (firsts_len is rows k) (by rw [HN.out]; omega)
          obtain ⟨av, cv, hvv⟩ := HO8.out.slice
          subst hvv
          obtain ⟨ln, hln⟩ : ∃ ln, (firsts is (rows.take k)).length = ln := ⟨_, rfl⟩
          rw [hln] at HO8 hlen ⊢
          have HLN := Lib.hid hln
          clear hown8 hg8 hrun8 b0 b1 b2 b3 HO3 hln
          go_wp2_with (at_builtin; refine wpList_pat1 rfl _ _ rfl base w0.heap.size w (.slice av ln cv) _ rfl (HO8.out.no (Fr.alloc _ _)) w8.heap.size kp sp np ap mp cp rfl (new_block w8 _) p HIP.out (by rw [HLN.out]; omega) (Nat.le_trans HZ8.out (Fr.alloc _ (.cells #[.int .u8 kp, .string sp, .int .i64 np, .slice ap mp cp] 40)).size) ?_; rw [HLN.out]; intro a9 c9 w9 HO9 HF9)
          refine ⟨⟨k + 1, by omega, by go_num, Lib.hid ((HW8.out.then (Fr.alloc _ _)).own HF9.out (fun i h => Nat.le_trans HF0.out.size h.1)), Lib.hid ?_, Lib.hid (Nat.le_trans HZ8.out (Nat.le_trans (Fr.alloc _ _).size HF9.out.size)), Lib.hid ⟨_, ownsMap_fr (HM8.out.alloc _) HF9.out (fun h => by have := h.1; omega), ?_⟩⟩, by simp [intOf]; omega⟩
          · rw [HS2.out]; exact HO9.out
          · rw [HS2.out]
            exact keys_put HK.out (ownsMap_isMap (HM3.out _ HF7.out)) HKL.out _
end Go.Proofs.Ythjecikdkdjlaaa
