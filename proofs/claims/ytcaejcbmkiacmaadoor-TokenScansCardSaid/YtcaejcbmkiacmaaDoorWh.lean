/- Scan. -/
import Derived.Test.YtcaejcbmkiacmaaDoorWg
import Derived.Test.YtcaejcbmkiacmaaDoorScanPlain
import Derived.Deep.RegionHeld3
import Derived.Maps.AppendAt
import Derived.Deep.CutRange
namespace Go.Proofs.YtcaejcbmkiacmaaDoor
open Go.RowKit

def tokCells (ts : List Tok) : List Value := ts.flatMap fun t => (tokA t).toList
def ScanSaid (w : World) (R : Except Nat (List Tok)) (e : Ending) (w' : World) : Prop :=
  Below w.heap.size w w' ∧ match R with
    | .error p => e = .returned (.tuple #[.slice none 0 0, .int .i64 p, .int .i64 10])
    | .ok ts => ∃ v, e = .returned (.tuple #[v, .int .i64 0, .int .i64 0]) ∧ w'.ownsRow w.heap.size 34 4 v ts.length (tokCells ts)
def Spells (v : Value) (s : ByteArray) (w : World) : Prop := ∀ dst, Tryd.prog.underlying dst = some .string → (convert 22 dst v).run Tryd.prog w = .ok (.string s) w
theorem skip_call (l : Bs) (s : ByteArray) (hsl : Hid (s = mk l)) (n : Nat) (hn : n ≤ 2305843009213693952) (hs : s.size = n) (k : Nat) (ok : Bool) (hk : Hid ((skipL l).1 = k ∧ (skipL l).2 = ok)) (w : World) :
    Calls Tryd.prog 22 #[.string s] w fun e w' => e = .returned (.tuple #[.int .i64 k, .bool ok]) ∧ w' = w := by
  obtain ⟨rfl, rfl⟩ := hk.out
  exact skip_any l s hsl n hn hs w
theorem readers_enter (c : UInt8) (args : Array Value) (u : World) : Sem.run Tryd.prog (callFunc (readerOf c) args) u = .ok (.enter (readerOf c) args) u := by
  unfold readerOf
  split
  · kernel_rfl
  · split
    · kernel_rfl
    · split
      · kernel_rfl
      · split <;> kernel_rfl

theorem alloc_frozen {w w' : World} {v0 v1 v2 v3 : Value} {t : TypeId} (h : Below (w.alloc (.cells #[v0, v1, v2, v3] t)).heap.size (w.alloc (.cells #[v0, v1, v2, v3] t)) w') :
    w'.heap[w.heap.size]? = some (.cells #[v0, v1, v2, v3] t (0, 0)) :=
  (h.block w.heap.size (by simp)).trans (last_block _ _)
theorem keep_alloc {w w' : World} {o : Obj} (h : Below w.heap.size w w') : Below w.heap.size w (w'.alloc o) := h.alloc h.size o
theorem keep_drew {w w' : World} (h : Below w.heap.size w w') : Below w.heap.size w w'.drew := h.drew
theorem keep_call {w w' w2 : World} (h : Below w.heap.size w w') (k : Below w'.heap.size w' w2) : Below w.heap.size w w2 := h.trans (k.mono h.size)
/-- what a reader has handed back, in parts -/
def Parted (o : Option (Tok × Nat)) (kd nm ps m : Nat) (tx : ByteArray) : Prop :=
  (o = none ∧ m = 0) ∨ ∃ t : Tok, o = some (t, m) ∧ kd = t.kind ∧ tx = mk t.text ∧ nm = t.num ∧ ps = t.pos
theorem readV_parts (o : Option (Tok × Nat)) : ∃ kd nm ps m tx, readV o = .tuple #[.agg #[.int .u8 (kd : Nat), .string tx, .int .i64 (nm : Nat), .int .i64 (ps : Nat)], .int .i64 (m : Nat)] ∧ Parted o kd nm ps m tx := by
  cases o with
  | none => exact ⟨0, 0, 0, 0, ⟨#[]⟩, rfl, .inl ⟨rfl, rfl⟩⟩
  | some p => exact ⟨p.1.kind, p.1.num, p.1.pos, p.2, mk p.1.text, rfl, .inr ⟨p.1, rfl, rfl, rfl, rfl, rfl⟩⟩
def ReadOut (w1 : World) (V : Value) (e : Ending) (w' : World) : Prop := e = .returned V ∧ Below w1.heap.size w1 w'
theorem owns_below {w w' : World} {base : Nat} {v : Value} {n : Nat} {xs : List Value} (h : w.ownsRow base 34 4 v n xs) (hb : Below w.heap.size w w') : w'.ownsRow base 34 4 v n xs := by
  refine ⟨h.1, ?_⟩
  rcases h.2 with h2 | ⟨g, cap, cur, h1, h2, h3, h4⟩
  · exact .inl h2
  · exact .inr ⟨g, cap, cur, h1, h2, (hb.block g (by
      rcases Nat.lt_or_ge g w.heap.size with h | h
      · exact h
      · rw [Array.getElem?_eq_none h] at h3
        cases h3)).trans h3, h4⟩
theorem below_grown {B : Nat} {w w' w2 : World} {v : Value} {n : Nat} {xs : List Value} (h : Below B w w') (hB : B ≤ w.heap.size) (ho : w'.ownsRow B 34 4 v n xs) (hg : w'.grownBy w2 v.ownBlock) : Below B w w2 := by
  refine ⟨hg.os.trans h.os, hg.tape.trans h.tape, hg.output.trans h.output, Nat.le_trans h.size hg.size, fun k hk => (hg.block k (Nat.lt_of_lt_of_le hk (Nat.le_trans hB h.size)) ?_).trans (h.block k hk)⟩
  rcases ho.2 with ⟨rfl, _⟩ | ⟨g, cap, cur, rfl, h2, _⟩
  · simp [Value.ownBlock]
  · simp only [Value.ownBlock]
    intro e
    injection e with e
    omega
theorem row_first {w : World} {b : Nat} {v0 v1 v2 v3 u0 u1 u2 u3 : Value} {t : TypeId} (h : w.heap[b]? = some (.cells #[v0, v1, v2, v3] t (0, 0))) :
    ((((w.setCell ⟨b, 0, none⟩ u0).setCell ⟨b, 1, none⟩ u1).setCell ⟨b, 2, none⟩ u2).setCell ⟨b, 3, none⟩ u3).heap[b]? = some (.cells #[u0, u1, u2, u3] t (0, 0)) := four_block h u0 u1 u2 u3
theorem tok_cells (w : World) (x : List Value) (t : TypeId) (n : Nat) (hn : w.heap.size = n) : ∀ j u, x[j]? = some u → (w.alloc (.cells x.toArray t)).cell? ((⟨n, 0, none⟩ : Addr).add j) = some u := by
  intro j u hj
  subst hn
  have hb := last_block w (.cells x.toArray t)
  have e : ((⟨w.heap.size, 0, none⟩ : Addr).add j) = ⟨w.heap.size, j, none⟩ := by
    unfold Addr.add
    simp only [Nat.zero_add]
    split
    · rename_i h
      subst h
      rfl
    · rfl
  rw [e]
  simp only [World.cell?, hb]
  simpa using hj
theorem info34 : ∃ i, Tryd.prog.info? 34 = some i ∧ i.zero = some (.agg #[.int .u8 0, .string ⟨#[]⟩, .int .i64 0, .int .i64 0]) ∧ i.size = 4 ∧ i.bytes = 40 := ⟨_, rfl, rfl, rfl, rfl⟩
theorem tok_ones {a c d : Int} {b : ByteArray} {x y z : IntKind} : ∀ u ∈ [Value.int x a, .string b, .int y c, .int z d], u.oneCell' = true := by
  simp [Value.oneCell']
set_option maxHeartbeats 2000000 in
theorem scan_any (l : Bs) (a : Option Addr) (n cap : Nat) (w : World) (hn : n ≤ 1099511627776) (hl : Hid (l.length = n)) (hcv : Hid (Spells (.slice a n cap) (mk l) w)) (hT : Hid (Tables w)) :
    Calls Tryd.prog 11 #[.slice a n cap] w (ScanSaid w (scanR l)) := by
  obtain ⟨R, hR⟩ : ∃ R, scanR l = R := ⟨_, rfl⟩
  rw [hR]
  unfold scanR at hR
  rw [hl.out] at hR
  have HR := Lib.hid hR
  clear hR
  go_enter Tryd.func11, Tryd.ntmps11
  by_cases hbig : 16384 < n
  · go_wp2_with fail
    go_ret3
    have h := HR.out
    rw [if_pos hbig] at h
    subst h
    exact ⟨Below.refl _ _, rfl⟩
  · have h := HR.out
    rw [if_neg hbig] at h
    have HR2 := Lib.hid h
    clear h HR
    have hc9 := hcv.out 9 Tryd.underlying9
    have hsz : (mk l).size = n := by rw [mk_size, hl.out]
    go_wp2_with fail
    clear hc9
    go_loopw [2, 3] (fun v i wr => ∃ (q : Nat) (done : List Tok), q ≤ n ∧ done.length ≤ q ∧ i = .int .i64 q ∧ Hid (ScInv l q done) ∧ Hid (wr.ownsRow w.heap.size 34 4 v done.length (tokCells done)) ∧ Hid (Below w.heap.size w wr)) (fun _ i _ => n + 1 - (intOf i).toNat)
    case atStart => exact ⟨0, [], Nat.zero_le _, Nat.zero_le _, rfl, Lib.hid (scInv_zero l), Lib.hid ⟨rfl, .inl ⟨rfl, rfl⟩⟩, Lib.hid (Below.refl _ _)⟩
    case round =>
      obtain ⟨q, done, hq, hdl, rfl, HI, HO, HF⟩ := hrel
      have HX : Hid ((mk l).extract q n = mk (l.drop q)) := Lib.hid (by rw [mk_drop l q n hl.out.symm])
      have hsz2 : ((mk l).extract q n).size = n - q := by rw [HX.out, mk_size, List.length_drop, hl.out]
      obtain ⟨k, hk⟩ : ∃ k, (skipL (l.drop q)).1 = k := ⟨_, rfl⟩
      have hkl := skipL_le (l.drop q)
      rw [hk, List.length_drop, hl.out] at hkl
      cases hok : (skipL (l.drop q)).2
      · have hs := Lib.hid (fun w => skip_call (l.drop q) _ HX (n - q) (by omega) hsz2 k false (Lib.hid ⟨hk, hok⟩) w)
        have HK := Lib.hid hk
        have HOK := Lib.hid hok
        clear hk hok hsz2
        go_wp2_with fail
        refine (hs.out _).mono ?_
        rintro e w1 ⟨rfl, rfl⟩
        go_wp2_with fail
        go_ret3
        have h := HR2.out
        rw [scInv_bad HI.out HOK.out, HK.out] at h
        subst h
        exact ⟨HF.out, rfl⟩
      · have hs := Lib.hid (fun w => skip_call (l.drop q) _ HX (n - q) (by omega) hsz2 k true (Lib.hid ⟨hk, hok⟩) w)
        have HK := Lib.hid hk
        have HOK := Lib.hid hok
        clear hk hok hsz2
        by_cases hend : q + k = n
        · go_wp2_with fail
          refine (hs.out _).mono ?_
          rintro e w1 ⟨rfl, rfl⟩
          go_wp2_with fail
          go_ret3
          have h := HR2.out
          rw [scInv_end HI.out HOK.out (by rw [HK.out, hl.out]; omega)] at h
          subst h
          exact ⟨HF.out, u2, rfl, HO.out⟩
        · have hlt : q + k < n := by omega
          go_wp2_with fail
          refine (hs.out _).mono ?_
          rintro e w1 ⟨rfl, rfl⟩
          go_wp2_with fail
          have HX2 : Hid ((mk l).extract (q + k) n = mk (l.drop (q + k))) := Lib.hid (by rw [mk_drop l (q + k) n hl.out.symm])
          have hsz3 : ((mk l).extract (q + k) n).size = n - (q + k) := by rw [HX2.out, mk_size, List.length_drop, hl.out]
          have hqk : q + k < (mk l).size := by omega
          obtain ⟨c, hc⟩ : ∃ c, (mk l)[q + k] = c := ⟨_, rfl⟩
          have hget : l[q + k]? = some c := by rw [mk_get l (q + k) hqk, hc]
          have hdr := drop_two hget
          have hrd := fun w' (hb : Below w1.heap.size w1 w') => reader_any c (l.drop (q + k)) _ HX2 _ hdr (n - (q + k)) (by omega) hsz3 w' (Lib.hid ((hT.out.below HF.out).below hb))
          have HW : Hid (∀ w, Calls Tryd.prog 23 #[.int .u8 (mk l)[q + k].toNat] w fun e w' => e = .returned (.func (.func (readerOf c)) #[] #[]) ∧ w' = w) := Lib.hid (fun w => by rw [hc]; exact who_any c w)
          have hen := readers_enter c
          obtain ⟨kd, nm, ps, m, tx, hV, hP⟩ := readV_parts (tokT (l.drop (q + k)))
          rw [hV] at hrd
          have HRD : Hid (∀ w', Below w1.heap.size w1 w' → Calls Tryd.prog (readerOf c) #[.string ((mk l).extract (q + k) n)] w' (ReadOut w' (.tuple #[.agg #[.int .u8 kd, .string tx, .int .i64 nm, .int .i64 ps], .int .i64 m]))) := Lib.hid hrd
          have HP := Lib.hid hP
          clear hP
          have b1 : (0 : Int) ≤ (q : Int) + (k : Int) := by omega
          have b2 : (q : Int) + (k : Int) ≤ (n : Int) := by omega
          have b3 : (q : Int) + (k : Int) < (n : Int) := by omega
          have b4 : ((q : Int) + (k : Int)).toNat = q + k := by omega
          have HDR := Lib.hid hdr
          generalize readerOf c = g at HW HRD hen
          clear hrd hV hdr hget hsz3 hc
          have hqn : (((q : Int) + (k : Int)) == (n : Int)) = false := by
            simp only [beq_eq_false_iff_ne, ne_eq]
            omega
          simp only [hqn]
          go_cut [6, 8] from 34 to 44 (fun nn tk wx => ∃ g0, tk = .pointer (some ⟨g0, 0, none⟩) ∧ nn = .int .i64 m ∧ w1.heap.size ≤ g0 ∧ wx.heap[g0]? = some (.cells #[.int .u8 kd, .string tx, .int .i64 nm, .int .i64 ps] 34 (0, 0)) ∧ Below w1.heap.size w1 wx)
          case first =>
            go_region_held3 (fun w' => Below w1.heap.size w1 w') (first | assumption | exact Below.refl _ _ | exact (Below.refl _ _).drew | exact keep_alloc (by assumption) | exact keep_call (by assumption) (by assumption) | exact keep_drew (by assumption) | exact below_setCell (below_setCell (below_setCell (below_setCell (by assumption) (Nat.le_refl _) _ _) (Nat.le_refl _) _ _) (Nat.le_refl _) _ _) (Nat.le_refl _) _ _)
              (first | (go_at_call 23; refine (HW.out _).mono ?_; rintro e w' ⟨rfl, rfl⟩) | (refine (HRD.out _ (by assumption)).mono ?_; rintro e w' ⟨rfl, hb⟩; have hk : Below w1.heap.size w1 w' := keep_call (by assumption) hb; first | (have hrow : Hid (w'.heap[w1.heap.size]? = some (.cells #[.int .u8 0, .string ⟨#[]⟩, .int .i64 0, .int .i64 0] 34 (0, 0))) := Lib.hid ((hb.block w1.heap.size (by simp)).trans (last_block w1 _)); have c0 := (tokRow_of hrow.out).1; have c1 := (tokRow_of hrow.out).2.1; have c2 := (tokRow_of hrow.out).2.2.1; have c3 := (tokRow_of hrow.out).2.2.2.1; have f0 := (tokRow_of hrow.out).2.2.2.2 0; have f1 := (tokRow_of hrow.out).2.2.2.2 1; have f2 := (tokRow_of hrow.out).2.2.2.2 2; have f3 := (tokRow_of hrow.out).2.2.2.2 3) | skip))
            all_goals go_wp2_with fail
            all_goals go_meet
            all_goals first | exact ⟨_, rfl, rfl, Nat.le_refl _, row_first hrow.out, by assumption⟩ | exact ⟨_, rfl, rfl, Below.size (by assumption), last_block _ _, keep_alloc (by assumption)⟩
          case rest =>
            obtain ⟨g0, rfl, rfl, hg0, hrow, hbc⟩ := hcut
            have HB : Hid (Below w.heap.size w wc) := Lib.hid (HF.out.trans (hbc.mono HF.out.size))
            have HO2 : Hid (wc.ownsRow w.heap.size 34 4 u2 done.length (tokCells done)) := Lib.hid (owns_below HO.out hbc)
            rcases Nat.eq_zero_or_pos m with rfl | hm
            · clear hrow hbc HRD HW
              go_wp2_with fail
              go_ret3
              have ht : tokT (l.drop (q + k)) = none := by
                rcases HP.out with h | ⟨t, h, _⟩
                · exact h.1
                · have := tokT_le h
                  omega
              have h := HR2.out
              rw [scInv_no HI.out HOK.out (by rw [HK.out, hl.out]; omega) (by rw [HK.out]; exact ht), HK.out] at h
              subst h
              exact ⟨HB.out, rfl⟩
            · have c3 := (tokRow_of hrow).2.2.2.1
              have f3 := (tokRow_of hrow).2.2.2.2 3
              have hrow3 : (wc.setCell ⟨g0, 3, none⟩ (.int .i64 ((q : Int) + (k : Int)))).heap[g0]? = some (.cells #[.int .u8 kd, .string tx, .int .i64 nm, .int .i64 ((q : Int) + (k : Int))] 34 (0, 0)) := block_setCell hrow 3 (.int .i64 ((q : Int) + (k : Int)))
              have d0 := (tokRow_of hrow3).1
              have d1 := (tokRow_of hrow3).2.1
              have d2 := (tokRow_of hrow3).2.2.1
              have d3 := (tokRow_of hrow3).2.2.2.1
              have HB3 : Hid (Below w.heap.size w (wc.setCell ⟨g0, 3, none⟩ (.int .i64 ((q : Int) + (k : Int))))) := Lib.hid (below_setCell HB.out (Nat.le_trans HF.out.size hg0) _ _)
              have HO3 : Hid ((wc.setCell ⟨g0, 3, none⟩ (.int .i64 ((q : Int) + (k : Int)))).ownsRow w.heap.size 34 4 u2 done.length (tokCells done)) := Lib.hid (owns_below HO.out (below_setCell hbc hg0 _ _))
              obtain ⟨i0, hi, hz0, hz1, hz2⟩ := info34
              have HINF := Lib.hid (And.intro hi (And.intro hz0 (And.intro hz1 hz2)))
              obtain ⟨t, ht, hkd, htx, hnm, hps⟩ : ∃ t : Tok, tokT (l.drop (q + k)) = some (t, m) ∧ kd = t.kind ∧ tx = mk t.text ∧ nm = t.num ∧ ps = t.pos := by
                rcases HP.out with h | h
                · exact absurd h.2 (by omega)
                · exact h
              have hml := (tokT_le ht).2
              rw [List.length_drop, hl.out] at hml
              have HTK := Lib.hid (And.intro ht (And.intro hkd (And.intro htx hnm)))
              clear HRD HW hi hz0 hz1 hz2 HO2 hrow3 ht hkd htx hnm hps
              go_wp2_with (at_builtin; go_loud (refine wpList_append_own_at _ rfl _ _ 25 rfl w.heap.size 34 i0 (.agg #[.int .u8 0, .string ⟨#[]⟩, .int .i64 0, .int .i64 0]) 4 40 Tryd.underlying25 HINF.out.1 HINF.out.2.1 HINF.out.2.2.1 HINF.out.2.2.2 rfl (by decide) _ _ _ rfl (HO3.out.alloc _) ⟨wc.heap.size, 0, none⟩ 1 1 [.int .u8 kd, .string tx, .int .i64 nm, .int .i64 ((q : Int) + (k : Int))] rfl rfl (tok_cells _ _ _ _ (World.size_setCell _ _ _)) tok_ones (by unfold maxLen; omega) (by omega) (Nat.le_trans HB3.out.size (by simp)) ?_); intro v' w5 hown' hgrow _ _)
              have hg2 : ((wc.setCell ⟨g0, 3, none⟩ (.int .i64 ((q : Int) + (k : Int)))).alloc (.cells #[.int .u8 kd, .string tx, .int .i64 nm, .int .i64 ((q : Int) + (k : Int))] 34)).grownBy w5 u2.ownBlock := hgrow
              have hB5 := below_grown (HB3.out.alloc HB3.out.size (.cells #[.int .u8 kd, .string tx, .int .i64 nm, .int .i64 ((q : Int) + (k : Int))] 34)) (Nat.le_refl _) (HO3.out.alloc _) hg2
              obtain ⟨ht, hkd, htx, hnm⟩ := HTK.out
              refine ⟨⟨q + k + m, done ++ [{ t with pos := q + k }], by omega, by simp only [List.length_append, List.length_cons, List.length_nil]; omega, ?_, Lib.hid ?_, Lib.hid ?_, Lib.hid hB5⟩, by simp [intOf]; omega⟩
              · rfl
              · have h := scInv_tok HI.out HOK.out (by rw [HK.out]; exact ht)
                rw [HK.out] at h
                exact h
              · have e : tokCells (done ++ [{ t with pos := q + k }]) = tokCells done ++ [.int .u8 kd, .string tx, .int .i64 nm, .int .i64 ((q : Int) + (k : Int))] := by
                  simp [tokCells, tokA, hkd, htx, hnm]
                rw [e, List.length_append]
                exact hown'
end Go.Proofs.YtcaejcbmkiacmaaDoor
