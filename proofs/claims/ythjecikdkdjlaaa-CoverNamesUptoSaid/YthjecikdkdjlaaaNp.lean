/- What names variables have, and the order of infos, says nothing. Plain. -/
import Derived.Test.YthjecikdkdjlaaaPl
namespace Go.Proofs.Ythjecikdkdjlaaa

/-- infos that tell the same -/
structure Like (is is' : List Inf) : Prop where
  isNone : ∀ s, (findI is s).isNone = (findI is' s).isNone
  of : ∀ s, (infoOf is s).of = (infoOf is' s).of
  has : ∀ s, (infoOf is s).has = (infoOf is' s).has
  all : ∀ of nm, (∃ x ∈ is, x.of = of ∧ x.name = nm) ↔ ∃ x ∈ is', x.of = of ∧ x.name = nm
mutual
theorem Like.unkT {is is' : List Inf} (h : Like is is') : ∀ t : T, unkT is t = unkT is' t
  | .mk k s n r => by simp only [Go.Proofs.Ythjecikdkdjlaaa.unkT, h.isNone, Like.unkL h r]
theorem Like.unkL {is is' : List Inf} (h : Like is is') : ∀ l : List T, unkL is l = unkL is' l
  | [] => rfl
  | t :: r => by simp only [Go.Proofs.Ythjecikdkdjlaaa.unkL, Like.unkT h t, Like.unkL h r]
end
theorem Like.rightP {is is' : List Inf} (h : Like is is') : rightP is = rightP is' := by
  funext p
  simp only [Go.Proofs.Ythjecikdkdjlaaa.rightP, h.has]
theorem Like.hdOf {is is' : List Inf} (h : Like is is') : hdOf is = hdOf is' := by
  funext p
  simp only [Go.Proofs.Ythjecikdkdjlaaa.hdOf, h.of]
theorem Like.whole {is is' : List Inf} (h : Like is is') : ∀ l, whole is l = whole is' l
  | [] => rfl
  | p :: l => by
    rw [Bool.eq_iff_iff, whole_cons, whole_cons, h.of]
    have key : (∀ x ∈ is, x.of = (infoOf is' p.name).of → ∃ q ∈ p :: l, q.name = x.name) ↔ ∀ x ∈ is', x.of = (infoOf is' p.name).of → ∃ q ∈ p :: l, q.name = x.name := by
      constructor
      · intro h1 x hx ho
        obtain ⟨y, hy, h2, h3⟩ := (h.all _ _).2 ⟨x, hx, rfl, rfl⟩
        rw [← h3]
        exact h1 y hy (h2.trans ho)
      · intro h1 x hx ho
        obtain ⟨y, hy, h2, h3⟩ := (h.all _ _).1 ⟨x, hx, rfl, rfl⟩
        rw [← h3]
        exact h1 y hy (h2.trans ho)
    rw [key]
theorem Like.into {is is' : List Inf} (h : Like is is') (q : T) : into is q = into is' q := by
  funext r
  cases r with
  | nil => rfl
  | cons p r => simp only [Go.Proofs.Ythjecikdkdjlaaa.into, h.hdOf]
theorem Like.firstsA {is is' : List Inf} (h : Like is is') : ∀ (rows : List (List T)) (acc : List T), firstsA is rows acc = firstsA is' rows acc
  | [], acc => rfl
  | [] :: rs, acc => by
    simp only [Go.Proofs.Ythjecikdkdjlaaa.firstsA]
    exact h.firstsA rs acc
  | (p :: r) :: rs, acc => by
    simp only [Go.Proofs.Ythjecikdkdjlaaa.firstsA, h.hdOf]
    split
    · exact h.firstsA rs acc
    · exact h.firstsA rs _
theorem Like.useW {is is' : List Inf} (h : Like is is') : ∀ (F : Nat) (rows : List (List T)) (row : List T), phi rows row < F → useW is rows row = useW is' rows row
  | 0, _, _, h => absurd h (Nat.not_lt_zero _)
  | F + 1, rows, [], _ => by rw [useW_nil, useW_nil]
  | F + 1, rows, p :: r, hF => by
    have ha : ∀ q, allInto is q rows = allInto is' q rows := fun q => by simp only [allInto, h.into]
    have hf : firsts is rows = firsts is' rows := h.firstsA rows []
    rw [useW_cons, useW_cons, ← hf, ← h.whole]
    split
    · split
      · rw [Bool.eq_iff_iff, List.any_eq_true, List.any_eq_true]
        have e : ∀ q ∈ firsts is rows, Go.Proofs.Ythjecikdkdjlaaa.useW is (allInto is q rows) (List.replicate q.kids.length anyP ++ r) = Go.Proofs.Ythjecikdkdjlaaa.useW is' (allInto is' q rows) (List.replicate q.kids.length anyP ++ r) := fun q hq => by
          rw [← ha]
          exact h.useW F _ _ (Nat.lt_of_lt_of_le (phi_first hq) (Nat.le_of_lt_succ hF))
        constructor
        · rintro ⟨q, hq, h1⟩
          exact ⟨q, hq, (e q hq) ▸ h1⟩
        · rintro ⟨q, hq, h1⟩
          exact ⟨q, hq, (e q hq).symm ▸ h1⟩
      · exact h.useW F _ _ (Nat.lt_of_lt_of_le phi_rest (Nat.le_of_lt_succ hF))
    · rename_i hw
      rw [← ha]
      exact h.useW F _ _ (Nat.lt_of_lt_of_le (phi_own (by simpa using hw)) (Nat.le_of_lt_succ hF))
theorem Like.use {is is' : List Inf} (h : Like is is') (rows : List (List T)) (row : List T) : Go.Proofs.Ythjecikdkdjlaaa.useW is rows row = Go.Proofs.Ythjecikdkdjlaaa.useW is' rows row := h.useW _ rows row (Nat.lt_succ_self _)
theorem Like.fitsL {is is' : List Inf} (h : Like is is') : ∀ (F : Nat) (l : List T), partsL l < F → fitsL is l = fitsL is' l
  | 0, _, h => absurd h (Nat.not_lt_zero _)
  | F + 1, l, hF => by
    have hc : ∀ d k, colP is l d k = colP is' l d k := fun d k => by simp only [colP, h.hdOf]
    have hs : sortOk is l = sortOk is' l := by simp only [sortOk, h.hdOf]
    rw [fitsL_eq, fitsL_eq, h.rightP, hs, h.hdOf]
    congr 2
    rw [Bool.eq_iff_iff, List.all_eq_true, List.all_eq_true]
    have e : ∀ q ∈ l, ∀ k, Go.Proofs.Ythjecikdkdjlaaa.fitsL is (colP is l (Go.Proofs.Ythjecikdkdjlaaa.hdOf is' q) k) = Go.Proofs.Ythjecikdkdjlaaa.fitsL is' (colP is' l (Go.Proofs.Ythjecikdkdjlaaa.hdOf is' q) k) := fun q hq k => by
      rw [← hc]
      refine h.fitsL F _ ?_
      have h1 := partsL_col is (Go.Proofs.Ythjecikdkdjlaaa.hdOf is' q) k l
      have h2 : 0 < l.length := List.length_pos_of_mem hq
      omega
    constructor <;> intro h1 q hq <;> have h2 := h1 q hq
    · simpa only [e q hq] using h2
    · simpa only [e q hq] using h2
theorem Like.allUse {is is' : List Inf} (h : Like is is') : ∀ (l a : List T), allUse is a l = allUse is' a l
  | [], a => rfl
  | p :: r, a => by simp only [Go.Proofs.Ythjecikdkdjlaaa.allUse, h.use, h.allUse r]
theorem Like.check {is is' : List Inf} (h : Like is is') (l : List T) (wh : Bool) : checkP is l wh = checkP is' l wh := by
  unfold checkP
  rw [h.unkL, h.fitsL _ l (Nat.lt_succ_self _), h.allUse, h.use]
/-- an info without its place -/
def bareI (x : Inf) : Inf := { x with place := 0, many := -1 }
def backI (is : List Inf) : List Inf := (is.map bareI).reverse
theorem find_iff {is : List Inf} (hn : (is.map Inf.name).Nodup) {s : ByteArray} {x : Inf} : findI is s = some x ↔ x ∈ is ∧ x.name = s := by
  induction is with
  | nil => simp [findI]
  | cons y l ih =>
    rw [List.map_cons, List.nodup_cons] at hn
    simp only [findI, List.find?_cons] at ih ⊢
    by_cases hy : y.name = s
    · simp only [hy, decide_true, List.mem_cons]
      constructor
      · intro h
        cases h
        exact ⟨.inl rfl, hy⟩
      · rintro ⟨h | h, h2⟩
        · rw [h]
        · exact absurd (List.mem_map.2 ⟨x, h, h2.trans hy.symm⟩) hn.1
    · simp only [hy, decide_false, List.mem_cons]
      rw [ih hn.2]
      constructor
      · rintro ⟨h, h2⟩
        exact ⟨.inr h, h2⟩
      · rintro ⟨h | h, h2⟩
        · rw [h] at h2
          exact absurd h2 hy
        · exact ⟨h, h2⟩
theorem mem_back {is : List Inf} {x : Inf} : x ∈ backI is ↔ ∃ y ∈ is, bareI y = x := by simp [backI]
theorem names_back (is : List Inf) : (backI is).map Inf.name = (is.map Inf.name).reverse := by
  simp only [backI, List.map_reverse, List.map_map]
  rfl
theorem find_back {is : List Inf} (hn : (is.map Inf.name).Nodup) (s : ByteArray) : findI (backI is) s = (findI is s).map bareI := by
  have hb : ((backI is).map Inf.name).Nodup := by rw [names_back, List.Nodup, List.pairwise_reverse]; exact hn.imp fun h => h.symm
  cases h : findI is s with
  | none =>
    cases h2 : findI (backI is) s with
    | none => rfl
    | some x =>
      obtain ⟨h3, h4⟩ := (find_iff hb).1 h2
      obtain ⟨y, hy, rfl⟩ := mem_back.1 h3
      rw [(find_iff hn).2 ⟨hy, h4⟩] at h
      cases h
  | some x =>
    obtain ⟨h3, h4⟩ := (find_iff hn).1 h
    exact (find_iff hb).2 ⟨mem_back.2 ⟨x, h3, rfl⟩, h4⟩
theorem like_back {is : List Inf} (hn : (is.map Inf.name).Nodup) : Like (backI is) is where
  isNone s := by
    rw [find_back hn]
    cases findI is s <;> rfl
  of s := by
    unfold infoOf
    rw [find_back hn]
    cases findI is s <;> rfl
  has s := by
    unfold infoOf
    rw [find_back hn]
    cases findI is s <;> rfl
  all of nm := by
    constructor
    · rintro ⟨x, hx, h1, h2⟩
      obtain ⟨y, hy, rfl⟩ := mem_back.1 hx
      exact ⟨y, hy, h1, h2⟩
    · rintro ⟨x, hx, h1, h2⟩
      exact ⟨bareI x, mem_back.2 ⟨x, hx, rfl⟩, h1, h2⟩
/-- the order of infos and their places say nothing -/
theorem check_back {is : List Inf} (hn : (is.map Inf.name).Nodup) (l : List T) (wh : Bool) : checkP (backI is) l wh = checkP is l wh := (like_back hn).check l wh

theorem plain_kids : ∀ p : T, (plainT p).kids = plainL p.kids
  | .mk _ _ _ _ => rfl
theorem plain_wild : ∀ p : T, isWild (plainT p) = isWild p
  | .mk k s n l => by
    rw [Bool.eq_iff_iff, wild_kind, wild_kind]
    show ((if k = 2 then 1 else k) = 1 ∨ (if k = 2 then 1 else k) = 2) ↔ (k = 1 ∨ k = 2)
    split <;> omega
theorem plain_not {k : Nat} {s : ByteArray} {n : Int} {l : List T} (h : isWild (.mk k s n l) = false) : plainT (.mk k s n l) = .mk k s n (plainL l) := by
  have h2 : k ≠ 2 := fun e => by
    rw [(wild_kind (p := .mk k s n l)).2 (.inr e)] at h
    cases h
  simp only [plainT, h2, if_false]
theorem plain_hd (is : List Inf) : ∀ p : T, isWild p = false → hdOf is (plainT p) = hdOf is p
  | .mk k s n l, h => by
    rw [plain_not h]
    simp only [hdOf, T.kind, T.num, T.name, T.kids, plainL_len]
    rfl
theorem plain_name : ∀ p : T, isWild p = false → (plainT p).name = p.name ∧ (plainT p).kind = p.kind
  | .mk k s n l, h => by
    rw [plain_not h]
    exact ⟨rfl, rfl⟩
theorem plain_right (is : List Inf) (p : T) : rightP is (plainT p) = rightP is p := by
  cases h : isWild p with
  | false =>
    have h1 := plain_name p h
    simp only [rightP, plain_kids, plainL_len, h1.1, h1.2]
  | true =>
    have h1 := wild_kind.1 h
    have h2 := wild_kind.1 ((plain_wild p).trans h)
    simp only [rightP, plain_kids, plainL_len]
    rw [if_pos (by rcases h2 with h | h <;> simp [h]), if_pos (by rcases h1 with h | h <;> simp [h])]
mutual
theorem plain_unk (is : List Inf) : ∀ t : T, unkT is (plainT t) = unkT is t
  | .mk k s n l => by
    simp only [plainT, unkT, plain_unkL is l]
    by_cases h : k = 2
    · simp [h]
    · simp [h]
theorem plain_unkL (is : List Inf) : ∀ l : List T, unkL is (plainL l) = unkL is l
  | [] => rfl
  | t :: r => by simp only [plainL, unkL, plain_unk is t, plain_unkL is r]
end
mutual
theorem plain_parts : ∀ t : T, parts (plainT t) = parts t
  | .mk k s n l => by simp only [plainT, parts, plain_partsL l]
theorem plain_partsL : ∀ l : List T, partsL (plainL l) = partsL l
  | [] => rfl
  | t :: r => by simp only [plainL, partsL, plain_parts t, plain_partsL r]
end
theorem plainL_append (l m : List T) : plainL (l ++ m) = plainL l ++ plainL m := by simp [plainL_map]
theorem plain_anyP : plainT anyP = anyP := rfl
theorem plain_anys (n : Nat) : plainL (List.replicate n anyP) = List.replicate n anyP := by rw [plainL_map, List.map_replicate, plain_anyP]
theorem plain_into (is : List Inf) (q : T) (hq : isWild q = false) : ∀ r : List T, into is (plainT q) (plainL r) = (into is q r).map plainL
  | [] => rfl
  | p :: r => by
    simp only [plainL, into, plain_wild]
    cases hp : isWild p with
    | true => simp only [if_true, Option.map_some, plainL_append, plain_anys, plain_kids, plainL_len]
    | false =>
      simp only [Bool.false_eq_true, if_false, plain_hd is p hp, plain_hd is q hq]
      split
      · simp only [Option.map_some, plainL_append, plain_kids]
      · rfl
theorem plain_all (is : List Inf) (q : T) (hq : isWild q = false) (rows : List (List T)) : allInto is (plainT q) (rows.map plainL) = (allInto is q rows).map plainL := by
  induction rows with
  | nil => rfl
  | cons r rs ih =>
    simp only [allInto, List.map_cons, List.filterMap_cons, plain_into is q hq] at ih ⊢
    cases into is q r with
    | none => simpa using ih
    | some x => simp [ih]
theorem plain_firstsA (is : List Inf) : ∀ (rows : List (List T)) (acc : List T), (∀ q ∈ acc, isWild q = false) → firstsA is (rows.map plainL) (acc.map plainT) = (firstsA is rows acc).map plainT
  | [], acc, _ => rfl
  | [] :: rs, acc, h => by
    simp only [List.map_cons, plainL, firstsA]
    exact plain_firstsA is rs acc h
  | (p :: r) :: rs, acc, h => by
    simp only [List.map_cons, plainL, firstsA, plain_wild]
    cases hp : isWild p with
    | true =>
      simp only [Bool.true_or, if_true]
      exact plain_firstsA is rs acc h
    | false =>
      have e : ((acc.map plainT).any fun q => decide (hdOf is q = hdOf is (plainT p))) = acc.any fun q => decide (hdOf is q = hdOf is p) := by
        rw [plain_hd is p hp, List.any_map, Bool.eq_iff_iff, List.any_eq_true, List.any_eq_true]
        constructor
        · rintro ⟨q, hq, h1⟩
          exact ⟨q, hq, by simpa only [Function.comp, plain_hd is q (h q hq)] using h1⟩
        · rintro ⟨q, hq, h1⟩
          exact ⟨q, hq, by simpa only [Function.comp, plain_hd is q (h q hq)] using h1⟩
      rw [e]
      split
      · exact plain_firstsA is rs acc h
      · have h2 := plain_firstsA is rs (acc ++ [p]) (fun q hq => by
          rcases List.mem_append.1 hq with hq | hq
          · exact h q hq
          · rw [List.mem_singleton.1 hq]
            exact hp)
        rw [List.map_append] at h2
        exact h2
theorem plain_firsts (is : List Inf) (rows : List (List T)) : firsts is (rows.map plainL) = (firsts is rows).map plainT := plain_firstsA is rows [] (fun q h => by cases h)
theorem plain_whole (is : List Inf) : ∀ l : List T, (∀ q ∈ l, isWild q = false) → whole is (l.map plainT) = whole is l
  | [], _ => rfl
  | p :: l, h => by
    obtain ⟨h1, h2⟩ := plain_name p (h p (List.mem_cons_self ..))
    rw [List.map_cons, Bool.eq_iff_iff, whole_cons, whole_cons, h1, h2]
    have key : ∀ nm : ByteArray, (∃ q ∈ plainT p :: l.map plainT, q.name = nm) ↔ ∃ q ∈ p :: l, q.name = nm := fun nm => by
      rw [← List.map_cons (f := plainT)]
      constructor
      · rintro ⟨q, hq, e⟩
        obtain ⟨q', hq', rfl⟩ := List.mem_map.1 hq
        exact ⟨q', hq', by rw [← (plain_name q' (h q' hq')).1]; exact e⟩
      · rintro ⟨q, hq, e⟩
        exact ⟨plainT q, List.mem_map.2 ⟨q, hq, rfl⟩, by rw [(plain_name q (h q hq)).1]; exact e⟩
    simp only [key]
theorem plain_rest (rows : List (List T)) : restRows (rows.map plainL) = (restRows rows).map plainL := by
  induction rows with
  | nil => rfl
  | cons r rs ih =>
    cases r with
    | nil => simpa [restRows, plainL] using ih
    | cons p r =>
      simp only [restRows, List.map_cons, List.filterMap_cons, plainL, plain_wild] at ih ⊢
      cases isWild p <;> simp [ih]
theorem plain_useF (is : List Inf) : ∀ (F : Nat) (rows : List (List T)) (row : List T), phi rows row < F → useW is (rows.map plainL) (plainL row) = useW is rows row
  | 0, _, _, h => absurd h (Nat.not_lt_zero _)
  | F + 1, rows, [], _ => by
    simp only [plainL, useW_nil]
    cases rows <;> rfl
  | F + 1, rows, p :: r, hF => by
    rw [plainL, useW_cons, useW_cons, plain_wild, plain_firsts, plain_whole is _ (fun q hq => (firsts_mem hq).1), plain_rest]
    split
    · split
      · rw [List.any_map, Bool.eq_iff_iff, List.any_eq_true, List.any_eq_true]
        have e : ∀ q ∈ firsts is rows, useW is (allInto is (plainT q) (rows.map plainL)) (List.replicate (plainT q).kids.length anyP ++ plainL r) = useW is (allInto is q rows) (List.replicate q.kids.length anyP ++ r) := fun q hq => by
          have h1 := plain_useF is F (allInto is q rows) (List.replicate q.kids.length anyP ++ r) (Nat.lt_of_lt_of_le (phi_first hq) (Nat.le_of_lt_succ hF))
          rw [plainL_append, plain_anys, ← plain_all is q (firsts_mem hq).1] at h1
          rw [plain_kids, plainL_len]
          exact h1
        constructor
        · rintro ⟨q, hq, h1⟩
          refine ⟨q, hq, ?_⟩
          rw [← e q hq]
          exact h1
        · rintro ⟨q, hq, h1⟩
          refine ⟨q, hq, ?_⟩
          show useW is (allInto is (plainT q) (rows.map plainL)) (List.replicate (plainT q).kids.length anyP ++ plainL r) = true
          rw [e q hq]
          exact h1
      · exact plain_useF is F _ _ (Nat.lt_of_lt_of_le phi_rest (Nat.le_of_lt_succ hF))
    · rename_i hw
      have hw : isWild p = false := by simpa using hw
      have h1 := plain_useF is F (allInto is p rows) (p.kids ++ r) (Nat.lt_of_lt_of_le (phi_own hw) (Nat.le_of_lt_succ hF))
      rw [plainL_append, ← plain_all is p hw] at h1
      rw [plain_kids]
      exact h1
theorem plain_use (is : List Inf) (rows : List (List T)) (row : List T) : useW is (rows.map plainL) (plainL row) = useW is rows row := plain_useF is _ rows row (Nat.lt_succ_self _)
theorem plain_col (is : List Inf) (d : Hd) (k : Nat) : ∀ l : List T, colP is (plainL l) d k = plainL (colP is l d k)
  | [] => rfl
  | q :: l => by
    have ih := plain_col is d k l
    simp only [colP, plainL, List.filterMap_cons, plain_wild] at ih ⊢
    cases hq : isWild q with
    | true => simpa using ih
    | false =>
      rw [plain_hd is q hq, plain_kids, plainL_map, List.getElem?_map]
      by_cases h : hdOf is q = d
      · simp only [h, and_self, if_true]
        cases q.kids[k]? with
        | none => simpa using ih
        | some t => simp [ih, plainL]
      · simpa [h] using ih
theorem plain_fitsF (is : List Inf) : ∀ (F : Nat) (l : List T), partsL l < F → fitsL is (plainL l) = fitsL is l
  | 0, _, h => absurd h (Nat.not_lt_zero _)
  | F + 1, l, hF => by
    rw [Bool.eq_iff_iff, fitsL_iff, fitsL_iff, plainL_map]
    have hm : ∀ (P : T → Prop), (∀ p ∈ l.map plainT, P p) ↔ ∀ p ∈ l, P (plainT p) := fun P => by simp
    simp only [hm, plain_right, plain_wild]
    refine and_congr Iff.rfl (and_congr ?_ ?_)
    · constructor
      · intro h p hp q hq wp wq
        have := h p hp q hq wp wq
        rwa [plain_hd is p wp, plain_hd is q wq] at this
      · intro h p hp q hq wp wq
        rw [plain_hd is p wp, plain_hd is q wq]
        exact h p hp q hq wp wq
    · have e : ∀ q ∈ l, isWild q = false → ∀ k, fitsL is (colP is (l.map plainT) (hdOf is (plainT q)) k) = fitsL is (colP is l (hdOf is q) k) := fun q hq wq k => by
        rw [plain_hd is q wq, ← plainL_map, plain_col]
        refine plain_fitsF is F _ ?_
        have h1 := partsL_col is (hdOf is q) k l
        have h2 : 0 < l.length := List.length_pos_of_mem hq
        omega
      constructor
      · intro h q hq wq k hk
        have := h q hq wq k (by rw [plain_kids, plainL_len]; exact hk)
        rwa [e q hq wq] at this
      · intro h q hq wq k hk
        rw [e q hq wq]
        rw [plain_kids, plainL_len] at hk
        exact h q hq wq k hk
theorem plain_one (l : List T) : (plainL l).map one = (l.map one).map plainL := by
  rw [plainL_map, List.map_map, List.map_map]
  rfl
theorem plain_allUse (is : List Inf) : ∀ (l a : List T), allUse is (plainL a) (plainL l) = allUse is a l
  | [], a => rfl
  | p :: r, a => by
    have h1 := plain_use is (a.map one) [p]
    have h2 := plain_allUse is r (a ++ [p])
    rw [plainL_append] at h2
    simp only [plainL, allUse, plain_one] at h1 h2 ⊢
    rw [h1, h2]
/-- what names variables have says nothing -/
theorem check_plain (is : List Inf) (l : List T) (wh : Bool) : checkP is (plainL l) wh = checkP is l wh := by
  have h1 := plain_allUse is l []
  have h2 := plain_use is (l.map one) [anyP]
  simp only [plainL] at h1 h2
  unfold checkP
  rw [plain_partsL, plain_unkL, plain_fitsF is _ l (Nat.lt_succ_self _), h1, plain_one]
  rw [show plainT anyP = anyP from rfl] at h2
  rw [h2]
end Go.Proofs.Ythjecikdkdjlaaa
