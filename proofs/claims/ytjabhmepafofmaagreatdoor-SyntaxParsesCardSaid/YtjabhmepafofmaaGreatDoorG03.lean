/- Sees, Con -/
import Derived.Test.YtjabhmepafofmaaGreatDoorG02
import Derived.Test.YtjabhmepafofmaaGreatDoorG01
set_option linter.unusedVariables false
set_option linter.unusedSimpArgs false
namespace Go.Proofs.YtjabhmepafofmaaGreatDoor
open Go.RowKit
theorem bytes_inj {a b : ByteArray} (h : a.toList = b.toList) : a = b := by
 rw [ByteArray.toList_eq, ByteArray.toList_eq] at h
 obtain ⟨x⟩ := a
 obtain ⟨y⟩ := b
 exact congrArg ByteArray.mk (Array.toList_inj.1 h)
theorem bytes_eq_iff (a b : ByteArray) : (a.toList == b.toList) = decide (a = b) := by
 by_cases h : a = b
 ·
  simp [h]
 ·
  have : ¬ a.toList = b.toList := fun e => h (bytes_inj e)
  simp [h, this]
def SaidB (w : World) (b : Bool) (e : Ending) (w' : World) : Prop := e = .returned (.bool b) ∧ Fr No w w'
set_option maxHeartbeats 1000000 in
theorem isWord_any (t : Tok) (w : World) : Calls Tryz.prog 79 #[tokV t] w (SaidB w (isWordB t)) := by
 obtain ⟨k, s, n, q⟩ := t
 obtain ⟨V, hV⟩ : ∃ V, isWordB ⟨k, s, n, q⟩ = V := ⟨_, rfl⟩
 have HV := Lib.hid hV
 rw [hV]
 clear hV
 show Calls Tryz.prog 79 #[.agg #[.int .u8 k, .string s, .int .i64 n, .int .i64 q]] w (SaidB w V)
 have HK : Hid (((k : Int) == 6) = decide (k = 6)) := Lib.hid (by
  by_cases h : k = 6
  ·
   simp [h]
  ·
   rw [decide_eq_false h]
   simp only [beq_eq_false_iff_ne, ne_eq]
   omega)
 by_cases h0 : 0 < s.size
 ·
  have hb : s.toList.isEmpty = false := by
   cases hl : s.toList with
   | nil =>
    have e := bytes_inj (hl.trans (show ([] : List UInt8) = (⟨#[]⟩ : ByteArray).toList by first | kernel_rfl | simp))
    subst e
    exact absurd h0 (by decide)
   | cons _ _ => rfl
  have HL : Hid (letterB s = (decide (97 ≤ (s[0]'h0).toNat) && decide ((s[0]'h0).toNat ≤ 122))) := Lib.hid (by rw [letterB, dif_pos h0])
  by_cases h1 : 97 ≤ (s[0]'h0).toNat
  ·
   have hd : decide ((97 : Int) ≤ ((s[0]'h0).toNat : Int)) = true := decide_eq_true (by omega)
   have HD : Hid (decide (((s[0]'h0).toNat : Int) ≤ 122) = decide ((s[0]'h0).toNat ≤ 122)) := Lib.hid (by
    by_cases h : (s[0]'h0).toNat ≤ 122
    ·
     rw [decide_eq_true h]
     exact decide_eq_true (by omega)
    ·
     rw [decide_eq_false h]
     exact decide_eq_false (by omega))
   have HE : Hid (V = (decide ((s[0]'h0).toNat ≤ 122) == decide (k = 6))) := Lib.hid (by rw [← HV.out, isWordB, HL.out, decide_eq_true h1, Bool.true_and])
   clear h1
   go_enter Tryz.func79, Tryz.ntmps79
   go_wp2_with fail
   go_ret
   refine ⟨?_, Fr.alloc w _⟩
   rw [HE.out, ← HD.out, ← HK.out]
   rfl
  ·
   have hd : decide ((97 : Int) ≤ ((s[0]'h0).toNat : Int)) = false := decide_eq_false (by omega)
   have HE : Hid (V = (false == decide (k = 6))) := Lib.hid (by rw [← HV.out, isWordB, HL.out, decide_eq_false h1, Bool.false_and])
   clear h1
   go_enter Tryz.func79, Tryz.ntmps79
   go_wp2_with fail
   go_ret
   refine ⟨?_, Fr.alloc w _⟩
   rw [HE.out, ← HK.out]
   cases ((k : Int) == 6) <;> rfl
 ·
  have hs : s = ⟨#[]⟩ := by
   obtain ⟨x⟩ := s
   have h1 : x.size = 0 := by
    have : (ByteArray.mk x).size = x.size := rfl
    omega
   rw [Array.eq_empty_of_size_eq_zero h1]
  subst hs
  have HE : Hid (V = (false == decide (k = 6))) := Lib.hid (by rw [← HV.out]; rfl)
  clear h0
  go_enter Tryz.func79, Tryz.ntmps79
  go_wp2_with fail
  go_ret
  refine ⟨?_, Fr.alloc w _⟩
  rw [HE.out, ← HK.out]
  cases ((k : Int) == 6) <;> rfl
/-- the texts of a row of words and signs -/
def Texts (w : World) (a : Option Addr) (l : List ByteArray) : Prop := ∀ (j : Nat) (s : ByteArray), l[j]? = some s → ∃ b off, a = some ⟨b, off, none⟩ ∧ w.cell? ⟨b, off + j, none⟩ = some (.string s)
theorem Texts.no {w w' : World} {a : Option Addr} {l : List ByteArray} (h : Texts w a l) (hf : Fr No w w') : Texts w' a l := fun j s hj => by
 obtain ⟨b, off, e, hc⟩ := h j s hj
 exact ⟨b, off, e, hf.cell hc⟩
theorem Texts.row {w : World} {g : Nat} {l : List ByteArray} {e : TypeId} {z : Nat × Nat} (h : w.heap[g]? = some (.cells (l.map Value.string).toArray e z)) : Texts w (some ⟨g, 0, none⟩) l := fun j s hj => by
 refine ⟨g, 0, rfl, ?_⟩
 rw [cell_of h, Nat.zero_add, List.getElem?_toArray, List.getElem?_map, hj]
 rfl
def indexB (l : List ByteArray) (s : ByteArray) : Nat → Int
 | i => match l with
  | [] => -1
  | x :: r => if x = s then i else indexB r s (i + 1)
theorem indexB_any (l : List ByteArray) (s : ByteArray) : ∀ i, decide (0 ≤ indexB l s i) = l.any fun x => decide (x = s) := by
 induction l with
 | nil => intro i; rfl
 | cons x r ih =>
  intro i
  simp only [indexB, List.any_cons]
  by_cases h : x = s
  ·
   simp [h]
  ·
   simp only [h, if_false, ih, decide_false, Bool.false_or]
set_option maxHeartbeats 1000000 in
theorem index_any (l : List ByteArray) (s : ByteArray) (a : Option Addr) (n c : Nat) (w : World) (hn : l.length = n) (hb : n ≤ 1048576) (ht : Texts w a l) :
  Calls Tryz.prog 93 #[.slice a n c, .string s] w fun e w' => e = .returned (.int .i64 (indexB l s 0)) ∧ w' = w := by
 have HT := Lib.hid ht
 have HN := Lib.hid hn
 obtain ⟨V, hV⟩ : ∃ V, indexB l s 0 = V := ⟨_, rfl⟩
 have HV := Lib.hid hV
 rw [hV]
 clear hV ht hn
 go_enter Tryz.func93, Tryz.ntmps93
 go_wp2_with fail
 go_loopw [8] (fun v wx => ∃ i : Nat, i ≤ n ∧ v = .int .i64 i ∧ Hid (wx = w) ∧ Hid (indexB (l.drop i) s i = V)) (fun v _ => n - (intOf v).toNat)
 case atStart => exact ⟨0, Nat.zero_le _, rfl, Lib.hid rfl, HV⟩
 case round =>
  obtain ⟨i, hi, rfl, HW, HD⟩ := hrel
  by_cases hin : i = n
  ·
   have HE : Hid (V = -1) := Lib.hid (by rw [← HD.out, hin, ← HN.out, List.drop_length]; rfl)
   subst hin
   go_wp2_with fail
   go_ret
   exact ⟨by rw [HE.out]; rfl, HW.out⟩
  ·
   obtain ⟨x, hx⟩ : ∃ x, l[i]? = some x := ⟨_, List.getElem?_eq_getElem (by rw [HN.out]; omega)⟩
   obtain ⟨b, off, rfl, d0⟩ := HT.out i x hx
   rw [← HW.out] at d0
   have hil : i < l.length := by rw [HN.out]; omega
   have hxe : l[i]'hil = x := by
    have := List.getElem?_eq_getElem hil
    rw [hx] at this
    exact (Option.some.inj this).symm
   have HDR : Hid ((if x = s then (i : Int) else indexB (l.drop (i + 1)) s (i + 1)) = V) := Lib.hid (by
    have h1 := HD.out
    rw [List.drop_eq_getElem_cons hil, hxe] at h1
    exact h1)
   have hlt : (i : Int) < (n : Int) := by omega
   clear hxe hil hx
   by_cases he : x = s
   ·
    have hq : (s.toList == x.toList) = true := by rw [bytes_eq_iff]; exact decide_eq_true he.symm
    have HE : Hid (V = i) := Lib.hid (by rw [← HDR.out, if_pos he])
    clear he
    go_wp2_with fail
    go_ret
    exact ⟨by rw [HE.out]; rfl, HW.out⟩
   ·
    have hq : (s.toList == x.toList) = false := by rw [bytes_eq_iff]; exact decide_eq_false (fun h => he h.symm)
    have HE : Hid (indexB (l.drop (i + 1)) s (i + 1) = V) := Lib.hid (by rw [← HDR.out, if_neg he])
    clear he
    go_wp2_with fail
    exact ⟨⟨i + 1, by omega, by go_num, HW, HE⟩, by simp [intOf]; omega⟩
set_option maxHeartbeats 1000000 in
theorem contains_any (l : List ByteArray) (s : ByteArray) (a : Option Addr) (n c : Nat) (w : World) (hn : l.length = n) (hb : n ≤ 1048576) (ht : Texts w a l) :
  Calls Tryz.prog 80 #[.slice a n c, .string s] w (SaidB w (l.any fun x => decide (x = s))) := by
 have HI := Lib.hid (index_any l s a n c w hn hb ht)
 have HA := Lib.hid (indexB_any l s 0)
 clear hn hb ht
 go_enter Tryz.func80, Tryz.ntmps80
 go_wp2_with fail
 refine HI.out.mono ?_
 rintro e w1 ⟨rfl, rfl⟩
 go_wp2_with fail
 go_ret
 refine ⟨?_, Fr.refl _ _⟩
 rw [← HA.out]
 rfl
theorem beq_nat (k m : Nat) : ((k : Int) == (m : Int)) = decide (k = m) := by
 by_cases h : k = m
 ·
  simp [h]
 ·
  rw [decide_eq_false h]
  simp only [beq_eq_false_iff_ne, ne_eq]
  omega
set_option maxHeartbeats 2000000 in
theorem sees_any (gp : Nat) (a : Option Addr) (c : Nat) (l : List Tok) (p : Nat) (ts : List ByteArray) (at_ : Option Addr) (n ct : Nat) (w : World) (h : Par w gp a c l p) (hn : ts.length = n) (hb : n ≤ 1048576) (ht : Texts w at_ ts) :
  Calls Tryz.prog 51 #[.pointer (some ⟨gp, 0, none⟩), .slice at_ n ct] w (SaidB w (seesB (l.getD p zTok) ts)) := by
 have HN := Lib.hid (next_any gp a c l p w h)
 have HW : Hid (∀ (t : Tok) (w' : World), Calls Tryz.prog 79 #[.agg #[.int .u8 t.kind, .string t.text, .int .i64 t.num, .int .i64 t.pos]] w' (SaidB w' (isWordB t))) := Lib.hid (fun t w' => isWord_any t w')
 have HC : Hid (∀ (s : ByteArray) (w' : World), Fr No w w' → Calls Tryz.prog 80 #[.slice at_ n ct, .string s] w' (SaidB w' (ts.any fun x => decide (x = s)))) := Lib.hid (fun s w' hf => contains_any ts s at_ n ct w' hn hb (ht.no hf))
 obtain ⟨t, htk⟩ : ∃ t, l.getD p zTok = t := ⟨_, rfl⟩
 rw [htk] at HN ⊢
 obtain ⟨V, hV⟩ : ∃ V, seesB t ts = V := ⟨_, rfl⟩
 have HV := Lib.hid hV
 rw [hV]
 clear hV htk h hn hb ht
 obtain ⟨B1, hB1⟩ : ∃ B1, isWordB t = B1 := ⟨_, rfl⟩
 obtain ⟨B2, hB2⟩ : ∃ B2, (ts.any fun x => decide (x = t.text)) = B2 := ⟨_, rfl⟩
 have HW1 : Hid (∀ w' : World, Calls Tryz.prog 79 #[.agg #[.int .u8 t.kind, .string t.text, .int .i64 t.num, .int .i64 t.pos]] w' (SaidB w' B1)) := Lib.hid (fun w' => by rw [← hB1]; exact HW.out t w')
 have HC1 : Hid (∀ w' : World, Fr No w w' → Calls Tryz.prog 80 #[.slice at_ n ct, .string t.text] w' (SaidB w' B2)) := Lib.hid (fun w' hf => by rw [← hB2]; exact HC.out t.text w' hf)
 have HVV : Hid (V = ((decide (t.kind = 6) || decide (t.kind = 7)) && B1 && B2)) := Lib.hid (by rw [← HV.out, ← hB1, ← hB2]; rfl)
 clear hB1 hB2 HW HC HV
 obtain ⟨k, s, m, q⟩ := t
 simp only [tokV] at HN HVV HW1 HC1
 have hk6 := beq_nat k 6
 have hk7 := beq_nat k 7
 have HEND : ∀ V', V' = V → ∀ w', Fr No w w' → SaidB w V (.returned (.bool V')) w' := fun V' e w' hf => ⟨by rw [e], hf⟩
 go_enter Tryz.func51, Tryz.ntmps51
 go_wp2_with fail
 refine HN.out.mono ?_
 rintro e w1 ⟨rfl, hf1⟩
 have HF1 := Lib.hid hf1
 clear hf1
 go_upto_region 2 with fail
 obtain ⟨w2, hw2⟩ : ∃ w2, w1.alloc (.cells #[.int .u8 k, .string s, .int .i64 m, .int .i64 q] 31) = w2 := ⟨_, rfl⟩
 obtain ⟨g5, hg5⟩ : ∃ g5, w1.heap.size = g5 := ⟨_, rfl⟩
 have R2 : Hid (w2.heap[g5]? = some (.cells #[.int .u8 k, .string s, .int .i64 m, .int .i64 q] 31 (0, 0))) := Lib.hid (by rw [← hw2, ← hg5]; exact new_block _ _)
 have HF2 : Hid (Fr No w w2) := Lib.hid (by rw [← hw2]; exact HF1.out.then (Fr.alloc _ _))
 rw [hw2, hg5]
 clear hw2 hg5
 clear hk6 hk7 HEND
 obtain ⟨⟨c0, c1, c2, c3⟩, f0, f1, f2, f3⟩ := z49 R2.out
 by_cases h6 : k = 6
 ·
  subst h6
  cases B1 with
  | false =>
   have HE : Hid (V = false) := Lib.hid (by rw [HVV.out]; simp)
   go_wp2_with fail
   refine (HW1.out _).mono ?_
   rintro e w3 ⟨rfl, hf3⟩
   have HF3 := Lib.hid (HF2.out.then hf3)
   clear hf3
   go_wp2_with fail
   go_ret
   exact ⟨by rw [HE.out]; rfl, HF3.out⟩
  | true =>
   have HE : Hid (V = B2) := Lib.hid (by rw [HVV.out]; simp)
   go_wp2_with fail
   refine (HW1.out _).mono ?_
   rintro e w3 ⟨rfl, hf3⟩
   have HF3 := Lib.hid (HF2.out.then hf3)
   have R3 := Lib.hid (hf3.keeps R2.out no_one)
   clear hf3 c0 c1 c2 c3 f0 f1 f2 f3
   obtain ⟨⟨c0, c1, c2, c3⟩, f0, f1, f2, f3⟩ := z49 R3.out
   go_wp2_with fail
   refine (HC1.out _ HF3.out).mono ?_
   rintro e w4 ⟨rfl, hf4⟩
   have HF4 := Lib.hid (HF3.out.then hf4)
   clear hf4
   go_wp2_with fail
   go_ret
   exact ⟨by rw [HE.out]; rfl, HF4.out⟩
 by_cases h7 : k = 7
 ·
  subst h7
  cases B1 with
  | false =>
   have HE : Hid (V = false) := Lib.hid (by rw [HVV.out]; simp)
   go_wp2_with fail
   refine (HW1.out _).mono ?_
   rintro e w3 ⟨rfl, hf3⟩
   have HF3 := Lib.hid (HF2.out.then hf3)
   clear hf3
   go_wp2_with fail
   go_ret
   exact ⟨by rw [HE.out]; rfl, HF3.out⟩
  | true =>
   have HE : Hid (V = B2) := Lib.hid (by rw [HVV.out]; simp)
   go_wp2_with fail
   refine (HW1.out _).mono ?_
   rintro e w3 ⟨rfl, hf3⟩
   have HF3 := Lib.hid (HF2.out.then hf3)
   have R3 := Lib.hid (hf3.keeps R2.out no_one)
   clear hf3 c0 c1 c2 c3 f0 f1 f2 f3
   obtain ⟨⟨c0, c1, c2, c3⟩, f0, f1, f2, f3⟩ := z49 R3.out
   go_wp2_with fail
   refine (HC1.out _ HF3.out).mono ?_
   rintro e w4 ⟨rfl, hf4⟩
   have HF4 := Lib.hid (HF3.out.then hf4)
   clear hf4
   go_wp2_with fail
   go_ret
   exact ⟨by rw [HE.out]; rfl, HF4.out⟩
 have hb6 : ((k : Int) == 6) = false := by simp only [beq_eq_false_iff_ne, ne_eq]; omega
 have hb7 : ((k : Int) == 7) = false := by simp only [beq_eq_false_iff_ne, ne_eq]; omega
 have HE : Hid (V = false) := Lib.hid (by rw [HVV.out, decide_eq_false h6, decide_eq_false h7]; rfl)
 clear h6 h7
 go_wp2_with fail
 go_ret
 exact ⟨by rw [HE.out]; rfl, HF2.out⟩
/-- what a call of the parser's comes to: Post of a result -/
def wrongP : Value := .iface 51 (.agg #[])
set_option maxHeartbeats 1000000 in
theorem skip_any (gp : Nat) (a : Option Addr) (c : Nat) (l : List Tok) (p : Nat) (ts : List ByteArray) (at_ : Option Addr) (n ct : Nat) (w : World) (h : Par w gp a c l p) (hn : ts.length = n) (hb : n ≤ 1048576) (ht : Texts w at_ ts) :
  Calls Tryz.prog 22 #[.pointer (some ⟨gp, 0, none⟩), .slice at_ n ct] w fun e w' => e = .returned (.bool (seesB (l.getD p zTok) ts)) ∧ Fr (Just gp) w w' ∧ Par w' gp a c l (if seesB (l.getD p zTok) ts then p + 1 else p) := by
 have HS := Lib.hid (sees_any gp a c l p ts at_ n ct w h hn hb ht)
 have HP := Lib.hid h
 obtain ⟨B, hB⟩ : ∃ B, seesB (l.getD p zTok) ts = B := ⟨_, rfl⟩
 have HB := Lib.hid hB
 rw [hB] at HS ⊢
 have hle := h.le
 have hlen := h.len
 clear hB h hn hb ht
 go_enter Tryz.func22, Tryz.ntmps22
 cases B with
 | false =>
  go_wp2_with fail
  refine HS.out.mono ?_
  rintro e w1 ⟨rfl, hf1⟩
  have HF1 := Lib.hid hf1
  clear hf1
  go_wp2_with fail
  go_ret
  exact ⟨rfl, HF1.out.just gp, HP.out.no HF1.out⟩
 | true =>
  have hpl : p < l.length := by
   rcases Nat.lt_or_ge p l.length with h1 | h1
   ·
    exact h1
   ·
    have h2 := HB.out
    rw [getD_end h1] at h2
    cases h2
  go_wp2_with fail
  refine HS.out.mono ?_
  rintro e w1 ⟨rfl, hf1⟩
  have HF1 := Lib.hid hf1
  have HP1 := Lib.hid (HP.out.no hf1)
  clear hf1
  have c1 : w1.cell? ⟨gp, 1, none⟩ = some (.int .i64 p) := cell_of HP1.out.blk 1
  have f1 : w1.frozen? ⟨gp, 1, none⟩ = false := free_of HP1.out.blk 1
  go_wp2_with fail
  go_ret
  exact ⟨rfl, (HF1.out.just gp).trans (Fr.setCell w1 ⟨gp, 1, none⟩ _) (fun _ _ h => h), HP1.out.set hpl⟩
/-- what a parser's function comes to -/
def Post {α : Type} (gp : Nat) (a : Option Addr) (c : Nat) (l : List Tok) (w : World) (Rep : World → α → Ending → Prop) : Re α → Ending → World → Prop
 | .ok x q, e, w' => Rep w' x e ∧ Fr (Just gp) w w' ∧ Par w' gp a c l q
 | .fail q, e, w' => e = .panicked [{ v := wrongP, recovered := false }] ∧ Fr (Just gp) w w' ∧ Par w' gp a c l q
 | .out, _, _ => True
def unitE (_ : World) (_ : Unit) (e : Ending) : Prop := e = .returned (.tuple #[])
def textE (_ : World) (s : ByteArray) (e : Ending) : Prop := e = .returned (.string s)
theorem run_must (l : List Tok) (s : ByteArray) (p : Nat) : (must s).run l p = if seesB (l.getD p zTok) [s] then .ok () (p + 1) else .fail p := by
 simp only [must, Pr.run]
 split <;> rfl
theorem run_skip (l : List Tok) (s : List ByteArray) (p : Nat) : (skip s).run l p = .ok (seesB (l.getD p zTok) s) (if seesB (l.getD p zTok) s then p + 1 else p) := by
 simp only [skip, Pr.run]
 cases seesB (l.getD p zTok) s <;> rfl
theorem run_take (l : List Tok) (k : Nat) (p : Nat) : (take k).run l p = if (l.getD p zTok).kind = k then .ok (l.getD p zTok).text (p + 1) else .fail p := by
 simp only [take, Pr.run]
 split <;> rfl
set_option maxHeartbeats 1000000 in
theorem must_any (gp : Nat) (a : Option Addr) (c : Nat) (l : List Tok) (p : Nat) (s : ByteArray) (w : World) (h : Par w gp a c l p) :
  Calls Tryz.prog 13 #[.pointer (some ⟨gp, 0, none⟩), .string s] w (Post gp a c l w unitE ((must s).run l p)) := by
 have HS : Hid (∀ w', Fr No w w' → ∀ g z, w'.heap[g]? = some (.cells #[.string s] z (0, 0)) → Calls Tryz.prog 22 #[.pointer (some ⟨gp, 0, none⟩), .slice (some ⟨g, 0, none⟩) 1 1] w' fun e w2 => e = .returned (.bool (seesB (l.getD p zTok) [s])) ∧ Fr (Just gp) w' w2 ∧ Par w2 gp a c l (if seesB (l.getD p zTok) [s] then p + 1 else p)) :=
  Lib.hid (fun w' hf g z hb => skip_any gp a c l p [s] _ 1 1 w' (h.no hf) rfl (by omega) (Texts.row (l := [s]) hb))
 rw [run_must]
 obtain ⟨B, hB⟩ : ∃ B, seesB (l.getD p zTok) [s] = B := ⟨_, rfl⟩
 rw [hB] at HS ⊢
 clear hB h
 cases B with
 | false =>
  replace HS : Hid (∀ w', Fr No w w' → ∀ g z, w'.heap[g]? = some (.cells #[.string s] z (0, 0)) → Calls Tryz.prog 22 #[.pointer (some ⟨gp, 0, none⟩), .slice (some ⟨g, 0, none⟩) 1 1] w' fun e w2 => e = .returned (.bool false) ∧ Fr (Just gp) w' w2 ∧ Par w2 gp a c l p) := HS
  show Calls _ _ _ _ (Post gp a c l w unitE (.fail p))
  go_enter Tryz.func13, Tryz.ntmps13
  go_wp2_with fail
  refine (HS.out _ (Fr.alloc _ _) _ _ (new_block _ _)).mono ?_
  rintro e w1 ⟨rfl, hf1, hp1⟩
  have HF1 : Hid (Fr (Just gp) w w1) := Lib.hid (((Fr.alloc _ _).just gp).trans hf1 (fun _ _ h => h))
  have HP1 := Lib.hid hp1
  clear hf1 hp1 HS
  go_wp2_with fail
  exact ⟨rfl, rfl, HF1.out, HP1.out⟩
 | true =>
  replace HS : Hid (∀ w', Fr No w w' → ∀ g z, w'.heap[g]? = some (.cells #[.string s] z (0, 0)) → Calls Tryz.prog 22 #[.pointer (some ⟨gp, 0, none⟩), .slice (some ⟨g, 0, none⟩) 1 1] w' fun e w2 => e = .returned (.bool true) ∧ Fr (Just gp) w' w2 ∧ Par w2 gp a c l (p + 1)) := HS
  show Calls _ _ _ _ (Post gp a c l w unitE (.ok () (p + 1)))
  go_enter Tryz.func13, Tryz.ntmps13
  go_wp2_with fail
  refine (HS.out _ (Fr.alloc _ _) _ _ (new_block _ _)).mono ?_
  rintro e w1 ⟨rfl, hf1, hp1⟩
  have HF1 : Hid (Fr (Just gp) w w1) := Lib.hid (((Fr.alloc _ _).just gp).trans hf1 (fun _ _ h => h))
  have HP1 := Lib.hid hp1
  clear hf1 hp1 HS
  go_wp2_with fail
  exact ⟨rfl, .tuple #[], by simp [results, show Tryz.f13.results = #[] from rfl], rfl, HF1.out, HP1.out⟩
theorem kind_lt {l : List Tok} {p k : Nat} (h : (l.getD p zTok).kind = k) (hk : k ≠ 0) : p < l.length := by
 rcases Nat.lt_or_ge p l.length with h1 | h1
 ·
  exact h1
 ·
  rw [getD_end h1] at h
  exact absurd h.symm hk
set_option maxHeartbeats 1000000 in
theorem take_any (gp : Nat) (a : Option Addr) (c : Nat) (l : List Tok) (p k : Nat) (hk : k ≠ 0) (w : World) (h : Par w gp a c l p) :
  Calls Tryz.prog 23 #[.pointer (some ⟨gp, 0, none⟩), .int .u8 k] w (Post gp a c l w textE ((take k).run l p)) := by
 have HN := Lib.hid (next_any gp a c l p w h)
 have HP := Lib.hid h
 have hlen := h.len
 have HKL : Hid ((l.getD p zTok).kind = k → p < l.length) := Lib.hid (fun e => kind_lt e hk)
 rw [run_take]
 obtain ⟨t, htk⟩ : ∃ t, l.getD p zTok = t := ⟨_, rfl⟩
 rw [htk] at HN HKL ⊢
 clear htk h
 obtain ⟨kt, s, m, q⟩ := t
 simp only [tokV] at HN HKL
 by_cases he : kt = k
 ·
  subst he
  have hpl := HKL.out rfl
  rw [if_pos rfl]
  obtain ⟨n, hn⟩ : ∃ n, l.length = n := ⟨_, rfl⟩
  have HLN := Lib.hid hn
  rw [hn] at hpl hlen
  clear hn
  have hd : decide ((n : Int) ≤ (p : Int)) = false := decide_eq_false (by omega)
  have hd2 : decide (n ≤ p) = false := decide_eq_false (by omega)
  have hq : ((kt : Int) != (kt : Int)) = false := by simp
  show Calls _ _ _ _ (Post gp a c l w textE (.ok s (p + 1)))
  clear HKL
  go_enter Tryz.func23, Tryz.ntmps23
  go_wp2_with fail
  refine HN.out.mono ?_
  rintro e w1 ⟨rfl, hf1⟩
  have HF1 := Lib.hid hf1
  clear hf1
  go_upto_region 2 with fail
  obtain ⟨w2, hw2⟩ : ∃ w2, w1.alloc (.cells #[.int .u8 kt, .string s, .int .i64 m, .int .i64 q] 31) = w2 := ⟨_, rfl⟩
  obtain ⟨g5, hg5⟩ : ∃ g5, w1.heap.size = g5 := ⟨_, rfl⟩
  have R2 : Hid (w2.heap[g5]? = some (.cells #[.int .u8 kt, .string s, .int .i64 m, .int .i64 q] 31 (0, 0))) := Lib.hid (by rw [← hw2, ← hg5]; exact new_block _ _)
  have HF2 : Hid (Fr No w w2) := Lib.hid (by rw [← hw2]; exact HF1.out.then (Fr.alloc _ _))
  rw [hw2, hg5]
  clear hw2 hg5
  have HP2 := Lib.hid (HP.out.no HF2.out)
  have d0 : w2.cell? ⟨gp, 0, none⟩ = some (.slice a n c) := by rw [← HLN.out]; exact cell_of HP2.out.blk 0
  have d1 : w2.cell? ⟨gp, 1, none⟩ = some (.int .i64 p) := cell_of HP2.out.blk 1
  obtain ⟨⟨c0, c1, c2, c3⟩, f0, f1, f2, f3⟩ := z49 R2.out
  go_quiet (fail)
  obtain ⟨w3, hw3⟩ : ∃ w3, w2.drewN nq = w3 := ⟨_, rfl⟩
  have HF23 : Hid (Fr No w2 w3) := Lib.hid (by rw [← hw3]; exact Fr.drewN _ _)
  rw [hw3]
  clear hw3 d0 d1 c0 c1 c2 c3 f0 f1 f2 f3
  have HP3 := Lib.hid (HP2.out.no HF23.out)
  have R3 := Lib.hid (HF23.out.keeps R2.out no_one)
  have d1 : w3.cell? ⟨gp, 1, none⟩ = some (.int .i64 p) := cell_of HP3.out.blk 1
  have df : w3.frozen? ⟨gp, 1, none⟩ = false := free_of HP3.out.blk 1
  obtain ⟨⟨c0, c1, c2, c3⟩, f0, f1, f2, f3⟩ := z49 R3.out
  have hne : gp ≠ g5 := fun e => by
   have h1 := HP2.out.blk
   rw [e, R2.out] at h1
   cases h1
  have hne2 : g5 ≠ gp := fun e => hne e.symm
  go_wp2_with fail
  go_ret
  exact ⟨rfl, ((HF2.out.then HF23.out).just gp).trans (Fr.setCell w3 ⟨gp, 1, none⟩ _) (fun _ _ h => h), HP3.out.set (by rw [HLN.out]; exact hpl)⟩
 ·
  have hq : ((kt : Int) != (k : Int)) = true := by
   simp only [bne_iff_ne, ne_eq]
   omega
  rw [if_neg he]
  show Calls _ _ _ _ (Post gp a c l w textE (.fail p))
  clear HKL he
  go_enter Tryz.func23, Tryz.ntmps23
  go_wp2_with fail
  refine HN.out.mono ?_
  rintro e w1 ⟨rfl, hf1⟩
  have HF1 := Lib.hid hf1
  clear hf1
  go_upto_region 2 with fail
  obtain ⟨w2, hw2⟩ : ∃ w2, w1.alloc (.cells #[.int .u8 kt, .string s, .int .i64 m, .int .i64 q] 31) = w2 := ⟨_, rfl⟩
  obtain ⟨g5, hg5⟩ : ∃ g5, w1.heap.size = g5 := ⟨_, rfl⟩
  have R2 : Hid (w2.heap[g5]? = some (.cells #[.int .u8 kt, .string s, .int .i64 m, .int .i64 q] 31 (0, 0))) := Lib.hid (by rw [← hw2, ← hg5]; exact new_block _ _)
  have HF2 : Hid (Fr No w w2) := Lib.hid (by rw [← hw2]; exact HF1.out.then (Fr.alloc _ _))
  rw [hw2, hg5]
  clear hw2 hg5
  obtain ⟨⟨c0, c1, c2, c3⟩, f0, f1, f2, f3⟩ := z49 R2.out
  go_quiet (fail)
  go_wp2_with fail
  exact ⟨rfl, rfl, (HF2.out.then (Fr.drewN _ _)).just gp, HP.out.no (HF2.out.then (Fr.drewN _ _))⟩
end Go.Proofs.YtjabhmepafofmaaGreatDoor
namespace Go.Proofs.YtjabhmepafofmaaGreatDoor
open Go.RowKit
/-- a struct is handed back, in memory that the call has made -/
def stE {α : Type} (x : α → List X) (B : Nat) (w' : World) (t : α) (e : Ending) : Prop := ∃ cs, e = .returned (.agg cs.toArray) ∧ Hc (fun b => B ≤ b) w' (x t) cs
/-- a row of structs is handed back -/
def rowE {α : Type} (k : Nat) (x : α → List X) (B : Nat) (w' : World) (l : List α) (e : Ending) : Prop := ∃ v, e = .returned v ∧ Hx (fun b => B ≤ b) w' (.row k (l.map x)) v
def txE (_ : Nat) (w' : World) (s : ByteArray) (e : Ending) : Prop := textE w' s e
/-- the contract of a parser's function, its other arguments given -/
def CT {α : Type} (gp : Nat) (a : Option Addr) (c : Nat) (l : List Tok) (f : FuncId) (args : List Value) (Rep : Nat → World → α → Ending → Prop) (m : Pr α) : Prop :=
 ∀ (w : World) (p : Nat), Par w gp a c l p → m.run l p ≠ .out → Calls Tryz.prog f (Value.pointer (some ⟨gp, 0, none⟩) :: args).toArray w (Post gp a c l w (Rep w.heap.size) (m.run l p))
section
variable {α : Type} {gp : Nat} {a : Option Addr} {c : Nat} {l : List Tok} {f : FuncId} {args : List Value} {Rep : Nat → World → α → Ending → Prop} {m : Pr α}
theorem CT.bad (h : CT gp a c l f args Rep m) {w : World} {p q : Nat} (hp : Par w gp a c l p) (hr : m.run l p = .fail q) :
  Calls Tryz.prog f (Value.pointer (some ⟨gp, 0, none⟩) :: args).toArray w fun e w' => e = .panicked [{ v := wrongP, recovered := false }] ∧ Fr (Just gp) w w' ∧ Par w' gp a c l q := by
 have := h w p hp (by rw [hr]; exact fun e => by cases e)
 rw [hr] at this
 exact this
theorem CT.good (h : CT gp a c l f args Rep m) {w : World} {p q : Nat} {x : α} (hp : Par w gp a c l p) (hr : m.run l p = .ok x q) :
  Calls Tryz.prog f (Value.pointer (some ⟨gp, 0, none⟩) :: args).toArray w fun e w' => Rep w.heap.size w' x e ∧ Fr (Just gp) w w' ∧ Par w' gp a c l q := by
 have := h w p hp (by rw [hr]; exact fun e => by cases e)
 rw [hr] at this
 exact this
end
structure Oks (gp : Nat) (a : Option Addr) (c : Nat) (l : List Tok) (g : Gr) : Prop where
 ty : CT gp a c l 30 [] (stE xT) g.ty
 row : CT gp a c l 58 [] (stE xT) g.row
 post : CT gp a c l 84 [] (stE xT) g.post
 tyAtom : CT gp a c l 97 [] (stE xT) g.tyAtom
 exp : CT gp a c l 24 [] (stE xE) g.exp
 rule : CT gp a c l 54 [] (stE xR) g.rule
 level : ∀ n : Nat, n ≤ 5 → CT gp a c l 55 [.int .i64 n] (stE xE) (g.level n)
 calls : CT gp a c l 82 [] (stE xE) g.calls
 prefix_ : CT gp a c l 95 [] (stE xE) g.prefix_
 atom : CT gp a c l 105 [] (stE xE) g.atom
 round : CT gp a c l 110 [] (stE xE) g.round
 let_ : CT gp a c l 109 [] (stE xE) g.let_
 pat : CT gp a c l 81 [] (stE xT) g.pat
 patAtom : CT gp a c l 94 [] (stE xT) g.patAtom
 patRound : CT gp a c l 104 [] (stE xT) g.patRound
 dec : ∀ b : Bool, CT gp a c l 12 [.bool b] (stE xD) (g.dec b)
 con : CT gp a c l 29 [] (stE xC) g.con
 fun_ : CT gp a c l 26 [] (stE xF) g.fun_
 vars : CT gp a c l 27 [] (rowE 1 (fun s => [xb s])) g.vars
theorem hc_lit {ok : Nat → Prop} {w : World} {v : Value} {r : List X} {cs : List Value} (h : Hc ok w (.lit v :: r) cs) : ∃ d, cs = v :: d ∧ Hc ok w r d := by
 simp only [Hc, Hx] at h
 obtain ⟨u, d, rfl, rfl, h⟩ := h
 exact ⟨d, rfl, h⟩
theorem hc_row {ok : Nat → Prop} {w : World} {k : Nat} {l : List (List X)} {r : List X} {cs : List Value} (h : Hc ok w (.row k l :: r) cs) : ∃ a cp d, cs = .slice a l.length cp :: d ∧ Hx ok w (.row k l) (.slice a l.length cp) ∧ Hc ok w r d := by
 simp only [Hc] at h
 obtain ⟨u, d, rfl, h1, h2⟩ := h
 have h1' := h1
 simp only [Hx] at h1
 obtain ⟨a, cp, rfl, _⟩ := h1
 exact ⟨a, cp, d, rfl, h1', h2⟩
theorem hc_nil {ok : Nat → Prop} {w : World} {cs : List Value} (h : Hc ok w [] cs) : cs = [] := by
 simpa only [Hc] using h
/-- a type's cells -/
theorem hcT {ok : Nat → Prop} {w : World} {t : T} {cs : List Value} (h : Hc ok w (xT t) cs) : ∃ (k : Nat) (s : ByteArray) (n : Int) (b : Option Addr) (m cp : Nat), cs = [.int .u8 k, .string s, .int .i64 n, .slice b m cp] := by
 obtain ⟨k, s, n, l⟩ := t
 simp only [xT, xk, xb, xi] at h
 obtain ⟨_, rfl, h1⟩ := hc_lit h
 obtain ⟨_, rfl, h2⟩ := hc_lit h1
 obtain ⟨_, rfl, h3⟩ := hc_lit h2
 obtain ⟨b, cp, _, rfl, _, h4⟩ := hc_row h3
 rw [hc_nil h4]
 exact ⟨k, s, n, b, _, cp, rfl⟩
theorem hcE {ok : Nat → Prop} {w : World} {t : E} {cs : List Value} (h : Hc ok w (xE t) cs) : ∃ (k : Nat) (s : ByteArray) (n : Int) (u : ByteArray) (b1 : Option Addr) (m1 c1 : Nat) (b2 : Option Addr) (m2 c2 : Nat) (b3 : Option Addr) (m3 c3 : Nat), cs = [.int .u8 k, .string s, .int .i64 n, .string u, .slice b1 m1 c1, .slice b2 m2 c2, .slice b3 m3 c3] := by
 obtain ⟨k, s, n, u, x, y, z⟩ := t
 simp only [xE, xk, xb, xi] at h
 obtain ⟨_, rfl, h1⟩ := hc_lit h
 obtain ⟨_, rfl, h2⟩ := hc_lit h1
 obtain ⟨_, rfl, h3⟩ := hc_lit h2
 obtain ⟨_, rfl, h4⟩ := hc_lit h3
 obtain ⟨b1, c1, _, rfl, _, h5⟩ := hc_row h4
 obtain ⟨b2, c2, _, rfl, _, h6⟩ := hc_row h5
 obtain ⟨b3, c3, _, rfl, _, h7⟩ := hc_row h6
 rw [hc_nil h7]
 exact ⟨k, s, n, u, b1, _, c1, b2, _, c2, b3, _, c3, rfl⟩
/-- rows of one's own block -/
theorem hx_nil {ok : Nat → Prop} {w : World} (k : Nat) : Hx ok w (.row k []) (.slice none 0 0) := by
 simp only [Hx]
 exact ⟨none, 0, rfl, by simp, ⟨Nat.le_refl _, Nat.zero_le _⟩, by simp [Hrow]⟩
theorem hx_lits {ok : Nat → Prop} {w : World} {g k n : Nat} {cs : Array Value} {e : TypeId} {z : Nat × Nat} {ls : List (List X)} (hb : w.heap[g]? = some (.cells cs e z)) (hg : ok g) (hk : 0 < k) (hn : ls.length = n) (hm : n ≤ 2)
  (h : ∀ (j : Nat) (x : List X), ls[j]? = some x → ∃ c, c.length = k ∧ (∀ (m : Nat) (u : Value), c[m]? = some u → cs[j * k + m]? = some u) ∧ Hc ok w x c) : Hx ok w (.row k ls) (.slice (some ⟨g, 0, none⟩) n n) := by
 simp only [Hx]
 refine ⟨some ⟨g, 0, none⟩, n, by rw [hn], (fun e => nomatch e), ⟨by omega, by unfold maxLen; omega⟩, Hrow.of_at hk 0 _ fun j x hj => ?_⟩
 obtain ⟨d, h1, h2, h3⟩ := h j x hj
 exact ⟨g, 0, d, rfl, hg, h1, fun m u hu => by rw [Nat.zero_add, Nat.zero_add, cell_of hb]; exact h2 m u hu, h3⟩
theorem hx_one {ok : Nat → Prop} {w : World} {g k : Nat} {c : List Value} {e : TypeId} {z : Nat × Nat} {x : List X} (hb : w.heap[g]? = some (.cells c.toArray e z)) (hg : ok g) (hk : c.length = k) (hk0 : 0 < k) (h : Hc ok w x c) : Hx ok w (.row k [x]) (.slice (some ⟨g, 0, none⟩) 1 1) :=
 hx_lits hb hg hk0 rfl (by omega) fun j y hj => by
  have hj0 : j < 1 := (List.getElem?_eq_some_iff.1 hj).1
  obtain rfl : j = 0 := by omega
  cases hj
  exact ⟨c, hk, fun m u hu => by rw [Nat.zero_mul, Nat.zero_add, List.getElem?_toArray]; exact hu, h⟩
theorem hx_two {ok : Nat → Prop} {w : World} {g k : Nat} {c d : List Value} {e : TypeId} {z : Nat × Nat} {x y : List X} (hb : w.heap[g]? = some (.cells (c ++ d).toArray e z)) (hg : ok g) (hk : c.length = k) (hk2 : d.length = k) (hk0 : 0 < k) (h : Hc ok w x c) (h2 : Hc ok w y d) : Hx ok w (.row k [x, y]) (.slice (some ⟨g, 0, none⟩) 2 2) :=
 hx_lits hb hg hk0 rfl (by omega) fun j u hj => by
  have hj0 : j < 2 := (List.getElem?_eq_some_iff.1 hj).1
  have hj1 : j = 0 ∨ j = 1 := by omega
  rcases hj1 with rfl | rfl <;> cases hj
  ·
   exact ⟨c, hk, fun m u hu => by rw [Nat.zero_mul, Nat.zero_add, List.getElem?_toArray, List.getElem?_append_left (List.getElem?_eq_some_iff.1 hu).1]; exact hu, h⟩
  ·
   exact ⟨d, hk2, fun m u hu => by rw [Nat.one_mul, List.getElem?_toArray, List.getElem?_append_right (by omega), hk, show k + m - k = m by omega]; exact hu, h2⟩
/-- cells one by one -/
theorem hc_cons {ok : Nat → Prop} {w : World} {x : X} {r : List X} {u : Value} {d : List Value} (h : Hx ok w x u) (h2 : Hc ok w r d) : Hc ok w (x :: r) (u :: d) := by
 simp only [Hc]
 exact ⟨u, d, rfl, h, h2⟩
theorem hx_lit {ok : Nat → Prop} {w : World} (v : Value) : Hx ok w (.lit v) v := by
 simp only [Hx]
theorem hc_end {ok : Nat → Prop} {w : World} : Hc ok w [] [] := by
 simp only [Hc]
theorem hcT_mk {ok : Nat → Prop} {w : World} {v : Value} {l : List T} (k : Nat) (s : ByteArray) (n : Int) (h : Hx ok w (.row 4 (l.map xT)) v) : Hc ok w (xT (.mk k s n l)) [.int .u8 k, .string s, .int .i64 n, v] := by
 simp only [xT, xTs_map]
 exact hc_cons (hx_lit _) (hc_cons (hx_lit _) (hc_cons (hx_lit _) (hc_cons h hc_end)))
theorem Hx.no {ok : Nat → Prop} {w w' : World} {x : X} {v : Value} (h : Hx ok w x v) (hf : Fr No w w') : Hx ok w' x v := h.keep (fun b hb ho => ⟨hf.block b hb no_one, ho⟩)
theorem Hx.mono {ok ok' : Nat → Prop} {w : World} {x : X} {v : Value} (h : Hx ok w x v) (ho : ∀ b, b < w.heap.size → ok b → ok' b) : Hx ok' w x v := h.keep (fun b hb hk => ⟨rfl, ho b hb hk⟩)
theorem Hx.fr {ok : Nat → Prop} {S : Nat → Prop} {w w' : World} {x : X} {v : Value} (h : Hx ok w x v) (hf : Fr S w w') (hs : ∀ b, ok b → ¬ S b) : Hx ok w' x v := h.keep (fun b hb ho => ⟨hf.block b hb (hs b ho), ho⟩)
end Go.Proofs.YtjabhmepafofmaaGreatDoor
namespace Go.Proofs.YtjabhmepafofmaaGreatDoor
open Go.RowKit
/-- cells of one block, one behind the other, are written -/
def setFrom (g : Nat) : Nat → List Value → World → World
 | _, [], w => w
 | i, v :: r, w => setFrom g (i + 1) r (w.setCell ⟨g, i, none⟩ v)
theorem setFrom_fr (g : Nat) : ∀ (i : Nat) (vs : List Value) (w : World), Fr (Just g) w (setFrom g i vs w)
 | _, [], w => Fr.refl _ _
 | i, v :: r, w => (Fr.setCell w ⟨g, i, none⟩ v).trans (setFrom_fr g (i + 1) r _) (fun _ _ h => h)
theorem setFrom_block (g : Nat) (t : TypeId) (z : Nat × Nat) : ∀ (vs : List Value) (pre old : List Value) (w : World), w.heap[g]? = some (.cells (pre ++ old).toArray t z) → old.length = vs.length → (setFrom g pre.length vs w).heap[g]? = some (.cells (pre ++ vs).toArray t z)
 | [], pre, old, w, h, hl => by
  have : old = [] := List.eq_nil_of_length_eq_zero hl
  subst this
  exact h
 | v :: r, pre, [], w, h, hl => by simp at hl
 | v :: r, pre, o :: old, w, h, hl => by
  have h1 := block_setCell h pre.length v
  rw [List.setIfInBounds_toArray, List.set_append_right _ _ (Nat.le_refl _), Nat.sub_self, List.set_cons_zero, show pre ++ v :: old = (pre ++ [v]) ++ old by simp] at h1
  have h2 := setFrom_block g t z r (pre ++ [v]) old _ h1 (by simpa using hl)
  rw [List.length_append, show pre.length + [v].length = pre.length + 1 from rfl, List.append_assoc] at h2
  exact h2
theorem setFrom_all {g : Nat} {t : TypeId} {w : World} {old : List Value} (vs : List Value) (h : w.heap[g]? = some (.cells old.toArray t (0, 0))) (hl : old.length = vs.length) : (setFrom g 0 vs w).heap[g]? = some (.cells vs.toArray t (0, 0)) := setFrom_block g t (0, 0) vs [] old w h hl
theorem Par.of {w w' : World} {gp : Nat} {a : Option Addr} {c : Nat} {l : List Tok} {p q : Nat} (h : Par w gp a c l p) (hf : Fr (Just gp) w w') (hb : w'.heap[gp]? = some (.cells #[.slice a l.length c, .int .i64 q] 49 (0, 0))) (hq : q ≤ l.length) : Par w' gp a c l q := ⟨hb, h.row.fr hf, hq, h.len, h.lev.fr hf⟩
theorem sk_any {gp : Nat} {a : Option Addr} {c : Nat} {l : List Tok} {p g n : Nat} {ts : List ByteArray} {w : World} {B : Bool} (h : Par w gp a c l p) (hg : w.heap[g]? = some (.cells (ts.map Value.string).toArray 9 (0, 0))) (hn : ts.length = n) (hb : n ≤ 1048576) (hB : seesB (l.getD p zTok) ts = B) :
  Calls Tryz.prog 22 #[.pointer (some ⟨gp, 0, none⟩), .slice (some ⟨g, 0, none⟩) n n] w fun e w' => e = .returned (.bool B) ∧ Fr (Just gp) w w' ∧ Par w' gp a c l (if B then p + 1 else p) := by
 rw [← hB]
 exact skip_any gp a c l p ts _ n n w h hn hb (Texts.row hg)
theorem must_bad {gp : Nat} {a : Option Addr} {c : Nat} {l : List Tok} {p : Nat} {s : ByteArray} {w : World} (h : Par w gp a c l p) (hB : seesB (l.getD p zTok) [s] = false) :
  Calls Tryz.prog 13 #[.pointer (some ⟨gp, 0, none⟩), .string s] w fun e w' => e = .panicked [{ v := wrongP, recovered := false }] ∧ Fr (Just gp) w w' ∧ Par w' gp a c l p := by
 have := must_any gp a c l p s w h
 rw [run_must, hB] at this
 exact this
theorem must_good {gp : Nat} {a : Option Addr} {c : Nat} {l : List Tok} {p : Nat} {s : ByteArray} {w : World} (h : Par w gp a c l p) (hB : seesB (l.getD p zTok) [s] = true) :
  Calls Tryz.prog 13 #[.pointer (some ⟨gp, 0, none⟩), .string s] w fun e w' => e = .returned (.tuple #[]) ∧ Fr (Just gp) w w' ∧ Par w' gp a c l (p + 1) := by
 have := must_any gp a c l p s w h
 rw [run_must, hB] at this
 exact this
theorem take_bad {gp : Nat} {a : Option Addr} {c : Nat} {l : List Tok} {p k : Nat} {w : World} (h : Par w gp a c l p) (hk : k ≠ 0) (hB : ¬ (l.getD p zTok).kind = k) :
  Calls Tryz.prog 23 #[.pointer (some ⟨gp, 0, none⟩), .int .u8 k] w fun e w' => e = .panicked [{ v := wrongP, recovered := false }] ∧ Fr (Just gp) w w' ∧ Par w' gp a c l p := by
 have := take_any gp a c l p k hk w h
 rw [run_take, if_neg hB] at this
 exact this
theorem take_good {gp : Nat} {a : Option Addr} {c : Nat} {l : List Tok} {p k : Nat} {w : World} (h : Par w gp a c l p) (hk : k ≠ 0) (hB : (l.getD p zTok).kind = k) :
  Calls Tryz.prog 23 #[.pointer (some ⟨gp, 0, none⟩), .int .u8 k] w fun e w' => e = .returned (.string (l.getD p zTok).text) ∧ Fr (Just gp) w w' ∧ Par w' gp a c l (p + 1) := by
 have := take_any gp a c l p k hk w h
 rw [run_take, if_pos hB] at this
 exact this
end Go.Proofs.YtjabhmepafofmaaGreatDoor
namespace Go.Proofs.YtjabhmepafofmaaGreatDoor
open Go.RowKit
theorem run_mono (l : List Tok) {α : Type} : ∀ (m : Pr α) (p q : Nat) (x : α), m.run l p = .ok x q → p ≤ q
 | .ret a, p, q, x, h => by
  simp only [Pr.run, Re.ok.injEq] at h
  omega
 | .fail, p, q, x, h => by cases h
 | .out, p, q, x, h => by cases h
 | .look f, p, q, x, h => run_mono l (f (l.getD p zTok)) p q x h
 | .adv m, p, q, x, h => by
  have := run_mono l m (p + 1) q x h
  omega
def RX (ok : Nat → Prop) (w : World) (x : List X) (c : List Value) : Prop := Hc ok w x c
theorem keptX : Kept RX := ⟨fun hs t c h => Hc.keep hs t c h⟩
def lenOf : Value → Nat
 | .slice _ m _ => m
 | _ => 0
/-- a row of one's own in a block that has just been laid -/
theorem out_lits {e k B g n : Nat} {ok : Nat → Prop} {w : World} {ls : List (List X)} {cs : List (List Value)} (hb : w.heap[g]? = some (.cells cs.flatten.toArray e (0, 0))) (hB : B ≤ g) (hn : ls.length = n) (hc : cs.length = n) (hk : ∀ c ∈ cs, c.length = k) (hn1 : n ≤ 1048576)
  (h : ∀ (j : Nat) (t : List X) (c : List Value), ls[j]? = some t → cs[j]? = some c → Hc (fun b => ok b ∧ b ≠ g) w t c) : OutG RX e k ok B w (.slice (some ⟨g, 0, none⟩) n n) n ls := by
 refine ⟨hn, cs, hc, hk, ⟨by rw [flatten_len cs hk, hc], .inr ⟨g, n, cs.flatten.toArray, rfl, hB, hb, Nat.le_refl _, by unfold maxLen; omega, by rw [List.size_toArray, flatten_len cs hk, hc], ?_⟩⟩, fun j t c hj hcj => ?_⟩
 ·
  rw [List.take_of_length_le (by rw [flatten_len cs hk, hc]; exact Nat.le_refl _)]
 ·
  refine Hc.mono (h j t c hj hcj) fun b _ hb => ⟨hb.1, fun e => ?_⟩
  have : g = b := by simpa [Value.ownBlock] using e
  exact hb.2 this.symm
theorem hx_of_out {e k B n : Nat} {ok ok' : Nat → Prop} {w : World} {a : Option Addr} {c : Nat} {ls : List (List X)} (h : OutG RX e k ok B w (.slice a n c) n ls) (hk : 0 < k) (h1 : ∀ b, B ≤ b → b < w.heap.size → ok' b) (h2 : ∀ b, b < w.heap.size → ok b → ok' b) : Hx ok' w (.row k ls) (.slice a n c) := by
 have h0 := h
 obtain ⟨hn, cs, hc, hkc, hown, hr⟩ := h
 simp only [Hx]
 refine ⟨a, c, by rw [hn], ?_, ?_, Hrow.of_at hk 0 _ fun j x hj => ?_⟩
 ·
  intro e
  rcases hown.2 with ⟨h2, h3⟩ | ⟨g, cap, cur, h2, _⟩
  ·
   cases h2
   exact ⟨rfl, List.eq_nil_of_length_eq_zero hn⟩
  ·
   cases h2
   cases e
 ·
  rcases hown.2 with ⟨h2, h3⟩ | ⟨g, cap, cur, h2, _, _, h4, h5, _⟩
  ·
   cases h2
   exact ⟨by omega, Nat.zero_le _⟩
  ·
   cases h2
   exact ⟨by omega, h5⟩
 ·
  obtain ⟨g, d, rfl, hB, hl, hcell, hx, cur, z, hb⟩ := h0.at_ hj
  refine ⟨g, 0, d, rfl, h1 g hB (lt_of_block hb), hl, fun m u hu => ?_, Hc.mono hx (fun b hb ho => h2 b hb ho.1)⟩
  rw [Nat.zero_add, Nat.zero_add]
  exact hcell m u hu
end Go.Proofs.YtjabhmepafofmaaGreatDoor
namespace Go.Proofs.YtjabhmepafofmaaGreatDoor
open Go.RowKit
theorem hcR {ok : Nat → Prop} {w : World} {t : R} {cs : List Value} (h : Hc ok w (xR t) cs) : ∃ (k : Nat) (s : ByteArray) (n : Int) (b : Option Addr) (m cp : Nat) (k2 : Nat) (s2 : ByteArray) (n2 : Int) (u : ByteArray) (b1 : Option Addr) (m1 c1 : Nat) (b2 : Option Addr) (m2 c2 : Nat) (b3 : Option Addr) (m3 c3 : Nat),
  cs = [.int .u8 k, .string s, .int .i64 n, .slice b m cp, .int .u8 k2, .string s2, .int .i64 n2, .string u, .slice b1 m1 c1, .slice b2 m2 c2, .slice b3 m3 c3] := by
 obtain ⟨p, e⟩ := t
 simp only [xR] at h
 obtain ⟨d1, d2, rfl, h1, h2⟩ := Hc.split h
 obtain ⟨k, s, n, b, m, cp, rfl⟩ := hcT h1
 obtain ⟨k2, s2, n2, u, b1, m1, c1, b2, m2, c2, b3, m3, c3, rfl⟩ := hcE h2
 exact ⟨k, s, n, b, m, cp, k2, s2, n2, u, b1, m1, c1, b2, m2, c2, b3, m3, c3, rfl⟩
theorem hcC {ok : Nat → Prop} {w : World} {t : C} {cs : List Value} (h : Hc ok w (xC t) cs) : ∃ (z : ByteArray) (q : Bool) (k : Nat) (s : ByteArray) (n : Int) (b : Option Addr) (m cp : Nat), cs = [.string z, .bool q, .int .u8 k, .string s, .int .i64 n, .slice b m cp] := by
 obtain ⟨z, q, t⟩ := t
 simp only [xC, xb] at h
 obtain ⟨d1, d2, rfl, h1, h2⟩ := Hc.split h
 obtain ⟨_, rfl, h3⟩ := hc_lit h1
 obtain ⟨_, rfl, h4⟩ := hc_lit h3
 obtain ⟨k, s, n, b, m, cp, rfl⟩ := hcT h2
 rw [hc_nil h4]
 exact ⟨z, q, k, s, n, b, m, cp, rfl⟩
theorem hcF {ok : Nat → Prop} {w : World} {t : F} {cs : List Value} (h : Hc ok w (xF t) cs) : ∃ (z : ByteArray) (b : Option Addr) (m cp : Nat) (k2 : Nat) (s2 : ByteArray) (n2 : Int) (u : ByteArray) (b1 : Option Addr) (m1 c1 : Nat) (b2 : Option Addr) (m2 c2 : Nat) (b3 : Option Addr) (m3 c3 : Nat),
  cs = [.string z, .slice b m cp, .int .u8 k2, .string s2, .int .i64 n2, .string u, .slice b1 m1 c1, .slice b2 m2 c2, .slice b3 m3 c3] := by
 obtain ⟨z, l, e⟩ := t
 simp only [xF, xb] at h
 obtain ⟨d1, d2, rfl, h1, h2⟩ := Hc.split h
 obtain ⟨_, rfl, h3⟩ := hc_lit h1
 obtain ⟨b, cp, _, rfl, _, h4⟩ := hc_row h3
 obtain ⟨k2, s2, n2, u, b1, m1, c1, b2, m2, c2, b3, m3, c3, rfl⟩ := hcE h2
 rw [hc_nil h4]
 exact ⟨z, b, _, cp, k2, s2, n2, u, b1, m1, c1, b2, m2, c2, b3, m3, c3, rfl⟩
theorem hcD {ok : Nat → Prop} {w : World} {t : D} {cs : List Value} (h : Hc ok w (xD t) cs) : ∃ (z0 : Nat) (z : ByteArray) (p1 : Option Addr) (q1 r1 : Nat) (p2 : Option Addr) (q2 r2 : Nat) (p3 : Option Addr) (q3 r3 : Nat) (k : Nat) (s : ByteArray) (n : Int) (b : Option Addr) (m cp : Nat) (k2 : Nat) (s2 : ByteArray) (n2 : Int) (u : ByteArray) (b1 : Option Addr) (m1 c1 : Nat) (b2 : Option Addr) (m2 c2 : Nat) (b3 : Option Addr) (m3 c3 : Nat),
  cs = [.int .u8 z0, .string z, .slice p1 q1 r1, .slice p2 q2 r2, .slice p3 q3 r3, .int .u8 k, .string s, .int .i64 n, .slice b m cp, .int .u8 k2, .string s2, .int .i64 n2, .string u, .slice b1 m1 c1, .slice b2 m2 c2, .slice b3 m3 c3] := by
 obtain ⟨z0, z, x1, x2, x3, t, e⟩ := t
 simp only [xD, xb, xk] at h
 obtain ⟨d1, d2, rfl, h1, h2⟩ := Hc.split h
 obtain ⟨_, rfl, h3⟩ := hc_lit h1
 obtain ⟨_, rfl, h4⟩ := hc_lit h3
 obtain ⟨p1, r1, _, rfl, _, h5⟩ := hc_row h4
 obtain ⟨p2, r2, _, rfl, _, h6⟩ := hc_row h5
 obtain ⟨p3, r3, _, rfl, _, h7⟩ := hc_row h6
 obtain ⟨d3, d4, rfl, h8, h9⟩ := Hc.split h2
 obtain ⟨k, s, n, b, m, cp, rfl⟩ := hcT h8
 obtain ⟨k2, s2, n2, u, b1, m1, c1, b2, m2, c2, b3, m3, c3, rfl⟩ := hcE h9
 rw [hc_nil h7]
 exact ⟨z0, z, p1, _, r1, p2, _, r2, p3, _, r3, k, s, n, b, m, cp, k2, s2, n2, u, b1, m1, c1, b2, m2, c2, b3, m3, c3, rfl⟩
set_option maxRecDepth 100000 in
theorem elemT : ElemOk Tryz.prog 40 4 56 := ⟨⟨_, _, rfl, rfl, rfl, rfl, rfl⟩, by decide⟩
set_option maxRecDepth 100000 in
theorem elemP : ElemOk Tryz.prog 97 4 56 := ⟨⟨_, _, rfl, rfl, rfl, rfl, rfl⟩, by decide⟩
set_option maxRecDepth 100000 in
theorem elemE : ElemOk Tryz.prog 44 7 120 := ⟨⟨_, _, rfl, rfl, rfl, rfl, rfl⟩, by decide⟩
set_option maxRecDepth 100000 in
theorem elemR : ElemOk Tryz.prog 99 11 176 := ⟨⟨_, _, rfl, rfl, rfl, rfl, rfl⟩, by decide⟩
set_option maxRecDepth 100000 in
theorem elemF : ElemOk Tryz.prog 71 9 160 := ⟨⟨_, _, rfl, rfl, rfl, rfl, rfl⟩, by decide⟩
set_option maxRecDepth 100000 in
theorem elemC : ElemOk Tryz.prog 76 6 80 := ⟨⟨_, _, rfl, rfl, rfl, rfl, rfl⟩, by decide⟩
set_option maxRecDepth 100000 in
theorem elemD : ElemOk Tryz.prog 46 16 272 := ⟨⟨_, _, rfl, rfl, rfl, rfl, rfl⟩, by decide⟩
set_option maxRecDepth 100000 in
theorem elemS : ElemOk Tryz.prog 9 1 16 := ⟨⟨_, _, rfl, rfl, rfl, rfl, rfl⟩, by decide⟩
end Go.Proofs.YtjabhmepafofmaaGreatDoor
namespace Go.Proofs.YtjabhmepafofmaaGreatDoor
open Go.RowKit
theorem hx_slice {ok : Nat → Prop} {w : World} {k : Nat} {ls : List (List X)} {v : Value} (h : Hx ok w (.row k ls) v) : ∃ a c, v = .slice a ls.length c := by
 simp only [Hx] at h
 obtain ⟨a, c, e, _⟩ := h
 exact ⟨a, c, e⟩
theorem hx_at {ok : Nat → Prop} {w : World} {k n cp : Nat} {a : Option Addr} {ls : List (List X)} (h : Hx ok w (.row k ls) (.slice a n cp)) {j : Nat} {x : List X} (hj : ls[j]? = some x) :
  ∃ g off c, a = some ⟨g, off, none⟩ ∧ ok g ∧ c.length = k ∧ (∀ (m : Nat) (u : Value), c[m]? = some u → w.cell? ⟨g, off + j * k + m, none⟩ = some u) ∧ Hc ok w x c := by
 simp only [Hx] at h
 obtain ⟨a', c', e, _, _, hr⟩ := h
 cases e
 obtain ⟨g, off, c, e, ho, hl, hc, hx⟩ := Hrow.at_ 0 ls hr j x hj
 exact ⟨g, off, c, e, ho, hl, fun m u hu => by have := hc m u hu; rw [Nat.zero_add] at this; exact this, hx⟩
/-- the place of the parser, as memory has it -/
def posOf (gp : Nat) (w : World) : Nat := match w.cell? ⟨gp, 1, none⟩ with
 | some (.int _ p) => p.toNat
 | _ => 0
theorem posOf_at {gp p : Nat} {w : World} {v : Value} (h : w.heap[gp]? = some (.cells #[v, .int .i64 (p : Nat)] 49 (0, 0))) : posOf gp w = p := by
 unfold posOf
 rw [cell_of h 1]
 rfl
theorem enters84 (args : Array Value) (u : World) : Sem.run Tryz.prog (callFunc 84 args) u = .ok (.enter 84 args) u := by kernel_rfl
theorem enters30 (args : Array Value) (u : World) : Sem.run Tryz.prog (callFunc 30 args) u = .ok (.enter 30 args) u := by kernel_rfl
theorem enters54 (args : Array Value) (u : World) : Sem.run Tryz.prog (callFunc 54 args) u = .ok (.enter 54 args) u := by kernel_rfl
theorem enters24 (args : Array Value) (u : World) : Sem.run Tryz.prog (callFunc 24 args) u = .ok (.enter 24 args) u := by kernel_rfl
theorem enters81 (args : Array Value) (u : World) : Sem.run Tryz.prog (callFunc 81 args) u = .ok (.enter 81 args) u := by kernel_rfl
theorem enters26 (args : Array Value) (u : World) : Sem.run Tryz.prog (callFunc 26 args) u = .ok (.enter 26 args) u := by kernel_rfl
theorem enters29 (args : Array Value) (u : World) : Sem.run Tryz.prog (callFunc 29 args) u = .ok (.enter 29 args) u := by kernel_rfl
theorem enters57 (args : Array Value) (u : World) : Sem.run Tryz.prog (callFunc 57 args) u = .ok (.enter 57 args) u := by kernel_rfl
end Go.Proofs.YtjabhmepafofmaaGreatDoor
