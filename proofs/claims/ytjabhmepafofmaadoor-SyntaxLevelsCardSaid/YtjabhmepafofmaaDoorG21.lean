/- The tokens of a source, by the document. -/
import Derived.Test.YtjabhmepafofmaaDoorG01
import Derived.Deep.CutRange
import Derived.Deep.RegionHeld3
import Derived.Laws.BytesArg
import Derived.Lib.SlBytesConst
import Derived.Maps.AppendAt
import Derived.WalkKit
set_option linter.unusedVariables false
set_option linter.unusedSimpArgs false
namespace Go.Proofs.YtjabhmepafofmaaDoor.Sc
open Go.RowKit

abbrev Bs := List UInt8
def small (c : UInt8) : Bool := decide (97 ≤ c.toNat) && decide (c.toNat ≤ 122)
def great (c : UInt8) : Bool := decide (65 ≤ c.toNat) && decide (c.toNat ≤ 90)
def digit (c : UInt8) : Bool := decide (48 ≤ c.toNat) && decide (c.toNat ≤ 57)
def part (c : UInt8) : Bool := small c || great c || digit c || decide (c.toNat = 95)
/-- how many bytes a comment still has, so many of them open; none: it has no end -/
def cm : Nat → Bs → Option Nat
  | _, [] => none
  | _, [_] => none
  | o, a :: b :: r =>
    if a = 40 ∧ b = 42 then (cm (o + 1) r).map (· + 2)
    else if a = 42 ∧ b = 41 then (if o = 1 then some 2 else (cm (o - 1) r).map (· + 2))
    else (cm o (b :: r)).map (· + 1)
def opens : Bs → Bool
  | a :: b :: _ => decide (a = 40) && decide (b = 42)
  | _ => false
def closes : Bs → Bool
  | a :: b :: _ => decide (a = 42) && decide (b = 41)
  | _ => false
def white (c : UInt8) : Bool := decide (c = 32) || decide (c = 9) || decide (c = 10) || decide (c = 13)
/-- how many bytes the blank or the comment has with which a text begins; none: a comment without end -/
def blank : Bs → Option Nat
  | [] => some 0
  | c :: r => if white c then some 1 else if opens (c :: r) then (cm 1 (r.drop 1)).map (· + 2) else some 0
structure Tok where
  kind : Nat
  text : Bs
  num : Nat
  pos : Nat
deriving DecidableEq, Inhabited
def words : List Bs := [[100, 97, 116, 97, 116, 121, 112, 101],[111, 102],[101, 120, 99, 101, 112, 116, 105, 111, 110],[118, 97, 108],[102, 117, 110],[97, 110, 100],[102, 110],[108, 101, 116],[105, 110],[101, 110, 100],[105, 102],[116, 104, 101, 110],[101, 108, 115, 101],[99, 97, 115, 101],[104, 97, 110, 100, 108, 101],[114, 97, 105, 115, 101],[114, 111, 111, 116],[100, 111],[116, 114, 117, 101],[102, 97, 108, 115, 101],[100, 105, 118],[109, 111, 100]]
def signs : List Bs := [[61, 62],[45, 62],[58, 61],[60, 61],[62, 61],[60, 62],[40],[41],[44],[59],[61],[42],[124],[58],[33],[43],[45],[126],[60],[62],[94],[95]]
/-- a list of bytes as a string -/
def mk (l : Bs) : ByteArray := ⟨l.toArray⟩
theorem mk_data (l : Bs) : (mk l).data.toList = l := by simp [mk]
theorem mk_size (l : Bs) : (mk l).size = l.length := by simp [mk, ByteArray.size]
theorem mk_extract (l : Bs) (a b : Nat) : (mk l).extract a b = mk ((l.take b).drop a) := by
  have h : ((mk l).extract a b).data = (l.toArray.extract a b) := by simp [mk, ByteArray.data_extract]
  have e : ((mk l).extract a b) = ⟨((mk l).extract a b).data⟩ := rfl
  rw [e, h]
  simp only [mk, List.extract_toArray, List.extract_eq_take_drop, List.drop_take]
theorem mk_drop (l : Bs) (a : Nat) (n : Nat) (hn : n = l.length) : (mk l).extract a n = mk (l.drop a) := by
  rw [mk_extract, hn, List.take_length]
theorem mk_take (l : Bs) (a : Nat) : (mk l).extract 0 a = mk (l.take a) := by
  rw [mk_extract, List.drop_zero]
theorem mk_get (l : Bs) (q : Nat) (h : q < (mk l).size) : l[q]? = some (mk l)[q] := by
  have hl : q < l.length := by rwa [mk_size] at h
  rw [List.getElem?_eq_getElem hl]
  congr 1
theorem takeWhile_cut (p : UInt8 → Bool) : ∀ (l : Bs) (q : Nat) (c : UInt8), (∀ k, k < q → ∀ c, l[k]? = some c → p c = true) → l[q]? = some c → p c = false → l.takeWhile p = l.take q
  | [], q, c, _, h, _ => by simp at h
  | a :: r, 0, c, _, h, hp => by
    simp only [List.getElem?_cons_zero, Option.some.injEq] at h
    subst h
    simp [hp]
  | a :: r, q + 1, c, h0, h, hp => by
    have ha : p a = true := h0 0 (by omega) a rfl
    rw [List.takeWhile_cons_of_pos ha, List.take_succ_cons]
    congr 1
    exact takeWhile_cut p r q c (fun k hk c hc => h0 (k + 1) (by omega) c (by simpa using hc)) (by simpa using h) hp
theorem takeWhile_all (p : UInt8 → Bool) : ∀ (l : Bs), (∀ k, k < l.length → ∀ c, l[k]? = some c → p c = true) → l.takeWhile p = l
  | [], _ => rfl
  | a :: r, h0 => by
    have ha : p a = true := h0 0 (by simp) a rfl
    rw [List.takeWhile_cons_of_pos ha, takeWhile_all p r fun k hk c hc => h0 (k + 1) (by simp; omega) c (by simpa using hc)]
/-- what 'comment' answers -/
def cmt (l : Bs) : Option Nat := (cm 1 (l.drop 2)).map (· + 2)
def CmInv (l : Bs) (o q : Nat) : Prop := (o = 0 ∧ q = 0) ∨ (0 < o ∧ cmt l = (cm o (l.drop q)).map (· + q))
theorem opens_len {l : Bs} {q : Nat} (h : opens (l.drop q) = true) : q + 2 ≤ l.length := by
  have : (l.drop q).length = l.length - q := List.length_drop
  cases h1 : l.drop q with
  | nil => rw [h1] at h; simp [opens] at h
  | cons a r => cases r with
    | nil => rw [h1] at h; simp [opens] at h
    | cons b r => rw [h1] at this; simp at this; omega
theorem closes_len {l : Bs} {q : Nat} (h : closes (l.drop q) = true) : q + 2 ≤ l.length := by
  have : (l.drop q).length = l.length - q := List.length_drop
  cases h1 : l.drop q with
  | nil => rw [h1] at h; simp [closes] at h
  | cons a r => cases r with
    | nil => rw [h1] at h; simp [closes] at h
    | cons b r => rw [h1] at this; simp at this; omega
theorem cm_opens (o : Nat) (x : Bs) (h : opens x = true) : cm o x = (cm (o + 1) (x.drop 2)).map (· + 2) := by
  match x, h with
  | a :: b :: r, h =>
    simp [opens] at h
    simp [cm, h]
theorem cm_closes (o : Nat) (x : Bs) (h : closes x = true) : cm o x = if o = 1 then some 2 else (cm (o - 1) (x.drop 2)).map (· + 2) := by
  match x, h with
  | a :: b :: r, h =>
    simp [closes] at h
    simp [cm, h]
theorem cm_else (o : Nat) (x : Bs) (h : opens x = false) (k : closes x = false) : cm o x = (cm o (x.drop 1)).map (· + 1) := by
  match x with
  | [] => simp [cm]
  | [a] => simp [cm]
  | a :: b :: r =>
    simp [opens] at h
    simp [closes] at k
    simp only [cm, List.drop_succ_cons, List.drop_zero]
    rw [if_neg (fun e => h e.1 e.2), if_neg (fun e => k e.1 e.2)]
theorem map_add (x : Option Nat) (a b : Nat) : (x.map (· + a)).map (· + b) = x.map (· + (b + a)) := by
  cases x <;> simp <;> omega
theorem inv_open {l : Bs} {o q : Nat} (h : CmInv l o q) (hl : opens (l.drop q) = true) : CmInv l (o + 1) (q + 2) := by
  refine .inr ⟨by omega, ?_⟩
  rcases h with ⟨rfl, rfl⟩ | ⟨h0, h⟩
  · simp [cmt]
  · rw [h, cm_opens o _ hl, List.drop_drop, map_add]
theorem inv_close {l : Bs} {o q : Nat} (h : CmInv l o q) (hl : closes (l.drop q) = true) (ho : 1 < o) : CmInv l (o - 1) (q + 2) := by
  refine .inr ⟨by omega, ?_⟩
  rcases h with ⟨rfl, rfl⟩ | ⟨h0, h⟩
  · omega
  · rw [h, cm_closes o _ hl, if_neg (by omega), List.drop_drop, map_add]
theorem inv_last {l : Bs} {q : Nat} (h : CmInv l 1 q) (hl : closes (l.drop q) = true) : cmt l = some (q + 2) := by
  rcases h with ⟨h0, _⟩ | ⟨h0, h⟩
  · omega
  · rw [h, cm_closes 1 _ hl, if_pos rfl]
    simp
    omega
theorem inv_end {l : Bs} {o q : Nat} (h : CmInv l o q) (ho : 0 < o) (hq : l.length ≤ q) : cmt l = none := by
  rcases h with ⟨h0, _⟩ | ⟨h0, h⟩
  · omega
  · rw [h, List.drop_eq_nil_of_le hq]
    simp [cm]
theorem inv_else {l : Bs} {o q : Nat} (h : CmInv l o q) (ho : 0 < o) (h1 : opens (l.drop q) = false) (h2 : closes (l.drop q) = false) : CmInv l o (q + 1) := by
  refine .inr ⟨ho, ?_⟩
  rcases h with ⟨rfl, rfl⟩ | ⟨h0, h⟩
  · omega
  · rw [h, cm_else o _ h1 h2, List.drop_drop, map_add]
theorem cm_le : ∀ (l : Bs) (o k : Nat), cm o l = some k → k ≤ l.length
  | [], o, k, h => by simp [cm] at h
  | [_], o, k, h => by simp [cm] at h
  | a :: b :: r, o, k, h => by
    unfold cm at h
    split at h
    · obtain ⟨j, h1, h2⟩ := Option.map_eq_some_iff.1 h
      have := cm_le r _ _ h1
      simp; omega
    · split at h
      · split at h
        · simp at h; subst h; simp
        · obtain ⟨j, h1, h2⟩ := Option.map_eq_some_iff.1 h
          have := cm_le r _ _ h1
          simp; omega
      · obtain ⟨j, h1, h2⟩ := Option.map_eq_some_iff.1 h
        have := cm_le (b :: r) _ _ h1
        simp at this ⊢; omega
theorem cmt_le {l : Bs} {k : Nat} (h : cmt l = some k) (h0 : opens l = true) : 2 ≤ k ∧ k ≤ l.length := by
  unfold cmt at h
  obtain ⟨j, h1, h2⟩ := Option.map_eq_some_iff.1 h
  have h3 := cm_le _ _ _ h1
  have h4 : 0 + 2 ≤ l.length := opens_len (q := 0) (by simpa using h0)
  simp at h3
  omega
theorem opens_white {c : UInt8} {r : Bs} (h : opens (c :: r) = true) : white c = false := by
  cases r with
  | nil => simp [opens] at h
  | cons b r =>
    simp [opens] at h
    rw [h.1]
    decide
theorem blank_cmt {l : Bs} (h : opens l = true) : blank l = cmt l := by
  cases l with
  | nil => simp [opens] at h
  | cons c r =>
    simp only [blank, opens_white h, h, if_true]
    rfl
theorem blank_no {c : UInt8} {r : Bs} (h : opens (c :: r) = false) : blank (c :: r) = if white c then some 1 else some 0 := by
  simp [blank, h]
/-- the readers: the token with which a text begins, and how long it is; none: it is none -/
def nameT (l : Bs) : Option (Tok × Nat) :=
  if 32 < (l.takeWhile part).length then none
  else some (⟨if great (l.headD 0) then 2 else if (l.takeWhile part) ∈ words then 6 else 1, l.takeWhile part, 0, 0⟩, (l.takeWhile part).length)
def tickT (l : Bs) : Option (Tok × Nat) :=
  if (l.drop 1).takeWhile part = [] ∨ 32 < ((l.drop 1).takeWhile part).length ∨ small ((l.drop 1).headD 0) = false then none
  else some (⟨3, l.take (1 + ((l.drop 1).takeWhile part).length), 0, 0⟩, 1 + ((l.drop 1).takeWhile part).length)
theorem mk_head (x : Bs) (h : 0 < (mk x).size) : (mk x)[0] = x.headD 0 := by
  have h2 := mk_get x 0 h
  cases x with
  | nil => simp at h2
  | cons a r =>
    simp only [List.getElem?_cons_zero, Option.some.injEq] at h2
    simp [← h2]
/-- a number's digits, some being read; none: it is too great -/
def numF : Nat → Bs → Option Nat
  | acc, [] => some acc
  | acc, c :: r => if (4611686018427387903 - (c.toNat - 48)) / 10 < acc then none else numF (10 * acc + (c.toNat - 48)) r
def numT (l : Bs) : Option (Tok × Nat) := (numF 0 (l.takeWhile digit)).map fun v => (⟨4, [], v, 0⟩, (l.takeWhile digit).length)
theorem takeWhile_mem (p : UInt8 → Bool) : ∀ (l : Bs) (c : UInt8), c ∈ l.takeWhile p → p c = true
  | [], c, h => by simp at h
  | a :: r, c, h => by
    cases hp : p a
    · simp [hp] at h
    · simp [hp] at h
      rcases h with rfl | h
      · exact hp
      · exact takeWhile_mem p r c h
/-- the byte that stands behind a backslash, as what it is; none: it must not -/
def escaped (c : UInt8) : Option UInt8 := if c = 110 then some 10 else if c = 92 then some 92 else if c = 34 then some 34 else none
/-- a string's content, and how many bytes it has behind its first quote -/
def textF : Bs → Option (Bs × Nat)
  | [] => none
  | [c] => if c = 34 then some ([], 1) else none
  | c :: d :: r =>
    if c = 34 then some ([], 1)
    else if c.toNat < 32 ∨ 126 < c.toNat then none
    else if c = 92 then
      match escaped d with
      | none => none
      | some x => (textF r).map fun p => (x :: p.1, p.2 + 2)
    else (textF (d :: r)).map fun p => (c :: p.1, p.2 + 1)
def textT (l : Bs) : Option (Tok × Nat) := (textF (l.drop 1)).map fun p => (⟨5, p.1, 0, 0⟩, 1 + p.2)
theorem textF_nil : textF [] = none := by simp [textF]
theorem textF_quote (r : Bs) : textF (34 :: r) = some ([], 1) := by cases r <;> simp [textF]
theorem textF_bad (c : UInt8) (r : Bs) (h : c ≠ 34) (hb : c.toNat < 32 ∨ 126 < c.toNat) : textF (c :: r) = none := by cases r <;> simp [textF, h, hb]
theorem textF_slash_end : textF [92] = none := by simp [textF]
theorem textF_slash (d : UInt8) (r : Bs) : textF (92 :: d :: r) = match escaped d with
      | none => none
      | some x => (textF r).map fun p => (x :: p.1, p.2 + 2) := by
  rw [textF, if_neg (by decide), if_neg (by decide), if_pos rfl]
theorem textF_plain (c : UInt8) (r : Bs) (h : c ≠ 34) (hb : ¬ (c.toNat < 32 ∨ 126 < c.toNat)) (hs : c ≠ 92) : textF (c :: r) = (textF r).map fun p => (c :: p.1, p.2 + 1) := by
  cases r with
  | nil => simp [textF, h]
  | cons d r => rw [textF, if_neg h, if_neg hb, if_neg hs]
/-- what has been read, and what is left -/
def TxInv (l : Bs) (q : Nat) (done : Bs) : Prop := textF (l.drop 1) = (textF (l.drop q)).map fun p => (done ++ p.1, p.2 + (q - 1))
theorem txInv_one (l : Bs) : TxInv l 1 [] := by
  unfold TxInv
  cases textF (l.drop 1) <;> simp
theorem txInv_plain {l : Bs} {q : Nat} {done : Bs} {c : UInt8} (hi : TxInv l q done) (hq : 1 ≤ q) (hd : l.drop q = c :: l.drop (q + 1)) (h : c ≠ 34) (hb : ¬ (c.toNat < 32 ∨ 126 < c.toNat)) (hs : c ≠ 92) : TxInv l (q + 1) (done ++ [c]) := by
  unfold TxInv at hi ⊢
  rw [hi, hd, textF_plain c _ h hb hs]
  cases textF (l.drop (q + 1)) with
  | none => rfl
  | some p =>
    simp
    omega
theorem txInv_slash {l : Bs} {q : Nat} {done : Bs} {d x : UInt8} (hi : TxInv l q done) (hq : 1 ≤ q) (hd : l.drop q = 92 :: d :: l.drop (q + 2)) (he : escaped d = some x) : TxInv l (q + 2) (done ++ [x]) := by
  unfold TxInv at hi ⊢
  rw [hi, hd, textF_slash, he]
  cases textF (l.drop (q + 2)) with
  | none => rfl
  | some p =>
    simp
    omega
theorem drop_two {l : Bs} {q : Nat} {c : UInt8} (h : l[q]? = some c) : l.drop q = c :: l.drop (q + 1) := by
  obtain ⟨h1, h2⟩ := List.getElem?_eq_some_iff.1 h
  rw [List.drop_eq_getElem_cons h1, h2]
/-- the first sign with which a text begins -/
def signFrom (l : Bs) : List Bs → Option (Tok × Nat)
  | [] => none
  | x :: r => if x.isPrefixOf l then some (⟨7, x, 0, 0⟩, x.length) else signFrom l r
def signT (l : Bs) : Option (Tok × Nat) := signFrom l signs
def tokT (l : Bs) : Option (Tok × Nat) :=
  match l with
  | [] => none
  | c :: r => if small c || great c then nameT (c :: r) else if digit c then numT (c :: r) else if c = 39 then tickT (c :: r) else if c = 34 then textT (c :: r) else signT (c :: r)
/-- the tokens of a text; or where it has none -/
def scanF : Nat → Nat → Bs → Except Nat (List Tok)
  | 0, _, _ => .ok []
  | f + 1, pos, l =>
    match blank l with
    | none => .error pos
    | some (n + 1) => scanF f (pos + (n + 1)) (l.drop (n + 1))
    | some 0 =>
      match l with
      | [] => .ok []
      | _ => match tokT l with
        | none => .error pos
        | some (t, n) => (scanF f (pos + n) (l.drop n)).map ({ t with pos := pos } :: ·)
def scanL (pos : Nat) (l : Bs) : Except Nat (List Tok) := scanF (l.length + 1) pos l
theorem textF_le : ∀ (l : Bs) (o : Bs) (k : Nat), textF l = some (o, k) → 1 ≤ k ∧ k ≤ l.length
  | [], o, k, h => by simp [textF] at h
  | [c], o, k, h => by
    rw [textF] at h
    split at h
    · simp only [Option.some.injEq, Prod.mk.injEq] at h
      simp [← h.2]
    · cases h
  | c :: d :: r, o, k, h => by
    rw [textF] at h
    split at h
    · simp only [Option.some.injEq, Prod.mk.injEq] at h
      simp [← h.2]
    · split at h
      · cases h
      · split at h
        · cases he : escaped d with
          | none => rw [he] at h; cases h
          | some x =>
            rw [he] at h
            obtain ⟨p, h1, h2⟩ := Option.map_eq_some_iff.1 h
            simp only [Prod.mk.injEq] at h2
            have := textF_le r p.1 p.2 h1
            simp only [List.length_cons]
            omega
        · obtain ⟨p, h1, h2⟩ := Option.map_eq_some_iff.1 h
          simp only [Prod.mk.injEq] at h2
          have := textF_le (d :: r) p.1 p.2 h1
          simp only [List.length_cons] at this ⊢
          omega
theorem takeWhile_le (p : UInt8 → Bool) (l : Bs) : (l.takeWhile p).length ≤ l.length := (List.takeWhile_sublist p).length_le
theorem signFrom_le (l : Bs) : ∀ (ss : List Bs) (t : Tok) (k : Nat), (∀ x ∈ ss, x ≠ []) → signFrom l ss = some (t, k) → 1 ≤ k ∧ k ≤ l.length
  | [], t, k, _, h => by simp [signFrom] at h
  | x :: r, t, k, h0, h => by
    rw [signFrom] at h
    split at h
    · rename_i hp
      simp only [Option.some.injEq, Prod.mk.injEq] at h
      have h1 := (List.isPrefixOf_iff_prefix.1 hp).length_le
      have h2 := List.length_pos_iff.2 (h0 x (by simp))
      omega
    · exact signFrom_le l r t k (fun y hy => h0 y (by simp [hy])) h
theorem tokT_le {l : Bs} {t : Tok} {k : Nat} (h : tokT l = some (t, k)) : 1 ≤ k ∧ k ≤ l.length := by
  cases l with
  | nil => simp [tokT] at h
  | cons c r =>
    unfold tokT at h
    simp only at h
    split at h
    · rename_i hc
      unfold nameT at h
      split at h
      · cases h
      · simp only [Option.some.injEq, Prod.mk.injEq] at h
        have h1 := takeWhile_le part (c :: r)
        have hp : part c = true := by
          unfold part
          rcases Bool.or_eq_true _ _ ▸ hc with h | h <;> simp [h]
        have h2 : 1 ≤ ((c :: r).takeWhile part).length := by simp [hp]
        omega
    · split at h
      · rename_i hd
        unfold numT at h
        obtain ⟨v, _, h2⟩ := Option.map_eq_some_iff.1 h
        simp only [Prod.mk.injEq] at h2
        have h1 := takeWhile_le digit (c :: r)
        have h3 : 1 ≤ ((c :: r).takeWhile digit).length := by simp [hd]
        omega
      · split at h
        · unfold tickT at h
          split at h
          · cases h
          · simp only [Option.some.injEq, Prod.mk.injEq] at h
            have h1 := takeWhile_le part ((c :: r).drop 1)
            simp only [List.length_drop, List.length_cons] at h1 ⊢
            omega
        · split at h
          · unfold textT at h
            obtain ⟨p, h1, h2⟩ := Option.map_eq_some_iff.1 h
            simp only [Prod.mk.injEq] at h2
            have := textF_le _ p.1 p.2 h1
            simp only [List.length_drop, List.length_cons] at this ⊢
            omega
          · exact signFrom_le _ signs t k (by decide) h
theorem blank_le {l : Bs} {n : Nat} (hb : blank l = some n) : n ≤ l.length := by
  cases l with
  | nil => simp [blank] at hb; omega
  | cons c r =>
    cases ho : opens (c :: r)
    · rw [blank_no ho] at hb
      split at hb <;> simp at hb <;> subst hb <;> simp
    · rw [blank_cmt ho] at hb
      exact (cmt_le hb ho).2
theorem scanF_fuel : ∀ (f g : Nat) (pos : Nat) (l : Bs), l.length < f → l.length < g → scanF f pos l = scanF g pos l
  | 0, _, _, _, h, _ => by omega
  | _, 0, _, _, _, h => by omega
  | f + 1, g + 1, pos, l, hf, hg => by
    simp only [scanF]
    cases hb : blank l with
    | none => rfl
    | some n =>
      cases n with
      | succ n =>
        have h1 := blank_le hb
        exact scanF_fuel f g _ _ (by simp; omega) (by simp; omega)
      | zero =>
        cases l with
        | nil => rfl
        | cons c r =>
          simp only
          cases ht : tokT (c :: r) with
          | none => rfl
          | some p =>
            have h1 := tokT_le (show tokT (c :: r) = some (p.1, p.2) from ht)
            simp only
            rw [scanF_fuel f g _ _ (by simp only [List.length_drop, List.length_cons] at *; omega) (by simp only [List.length_drop, List.length_cons] at *; omega)]
theorem scanL_none {pos : Nat} {l : Bs} (hb : blank l = none) : scanL pos l = .error pos := by
  simp [scanL, scanF, hb]
theorem scanL_blank {pos : Nat} {l : Bs} {n : Nat} (hb : blank l = some (n + 1)) : scanL pos l = scanL (pos + (n + 1)) (l.drop (n + 1)) := by
  have h1 := blank_le hb
  cases l with
  | nil => simp [blank] at hb
  | cons c r =>
    have e : scanL pos (c :: r) = scanF (c :: r).length (pos + (n + 1)) ((c :: r).drop (n + 1)) := by
      show scanF ((c :: r).length + 1) pos (c :: r) = _
      conv => lhs; unfold scanF
      rw [hb]
    rw [e]
    exact scanF_fuel _ _ _ _ (by simp only [List.length_drop, List.length_cons] at *; omega) (by simp)
theorem scanL_nil (pos : Nat) : scanL pos [] = .ok [] := by simp [scanL, scanF, blank]
theorem scanL_no {pos : Nat} {l : Bs} (hb : blank l = some 0) (h0 : l ≠ []) (ht : tokT l = none) : scanL pos l = .error pos := by
  cases l with
  | nil => exact absurd rfl h0
  | cons c r => simp [scanL, scanF, hb, ht]
theorem scanL_tok {pos : Nat} {l : Bs} {t : Tok} {n : Nat} (hb : blank l = some 0) (ht : tokT l = some (t, n)) : scanL pos l = (scanL (pos + n) (l.drop n)).map ({ t with pos := pos } :: ·) := by
  cases l with
  | nil => simp [tokT] at ht
  | cons c r =>
    have h1 := tokT_le ht
    have e : scanL pos (c :: r) = (scanF (c :: r).length (pos + n) ((c :: r).drop n)).map ({ t with pos := pos } :: ·) := by
      show scanF ((c :: r).length + 1) pos (c :: r) = _
      conv => lhs; unfold scanF
      rw [hb]
      simp only [ht]
    rw [e, scanL]
    rw [scanF_fuel _ (((c :: r).drop n).length + 1) _ _ (by simp only [List.length_drop]; omega) (by omega)]
/-- what Scan answers -/
def scanR (l : Bs) : Except Nat (List Tok) := if 16384 < l.length then .error 16384 else scanL 0 l
/-- so far Scan has come -/
def ScInv (l : Bs) (q : Nat) (done : List Tok) : Prop := scanL 0 l = (scanL q (l.drop q)).map (done ++ ·)
theorem scInv_zero (l : Bs) : ScInv l 0 [] := by
  unfold ScInv
  rw [List.drop_zero]
  cases scanL 0 l <;> simp [Except.map]
theorem takeWhile_take (p : UInt8 → Bool) : ∀ (l : Bs), l.takeWhile p = l.take (l.takeWhile p).length
  | [] => rfl
  | a :: r => by
    cases hp : p a
    · simp [hp]
    · simp only [List.takeWhile_cons_of_pos hp, List.length_cons, List.take_succ_cons]
      rw [← takeWhile_take p r]
theorem takeWhile_next (p : UInt8 → Bool) : ∀ (l : Bs) (c : UInt8) (r : Bs), l.drop (l.takeWhile p).length = c :: r → p c = false
  | [], c, r, h => by simp at h
  | a :: s, c, r, h => by
    cases hp : p a
    · simp only [List.takeWhile_cons, hp, Bool.false_eq_true, if_false, List.length_nil, List.drop_zero, List.cons.injEq] at h
      rw [← h.1, hp]
    · rw [List.takeWhile_cons_of_pos hp] at h
      simp only [List.length_cons, List.drop_succ_cons] at h
      exact takeWhile_next p s c r h
theorem signs_two : ∀ y ∈ signs, y.length ≤ 2 ∧ ∀ a b, y = [a, b] → b ≠ 32 ∧ b ≠ 10 ∧ b ≠ 9 ∧ b ≠ 40 := by
  have h : ∀ y ∈ signs, y.length ≤ 2 ∧ y[1]? ≠ some 32 ∧ y[1]? ≠ some 10 ∧ y[1]? ≠ some 9 ∧ y[1]? ≠ some 40 := by decide
  intro y hy
  refine ⟨(h y hy).1, ?_⟩
  rintro a b rfl
  simpa using (h _ hy).2
theorem blank_zero_of {c : UInt8} {r : Bs} (hw : white c = false) (ho : opens (c :: r) = false) : blank (c :: r) = some 0 := by
  rw [blank_no ho, hw]
  rfl
def digitsL (n : Nat) : Bs := if n < 10 then [UInt8.ofNat (48 + n)] else digitsL (n / 10) ++ [UInt8.ofNat (48 + n % 10)]
def escL (l : Bs) : Bs := l.flatMap fun c => if c = 10 then [92, 110] else if c = 34 ∨ c = 92 then [92, c] else [c]
/-- a token, as it is written -/
def wr (t : Tok) : Bs := if t.kind = 4 then digitsL t.num else if t.kind = 5 then 34 :: (escL t.text ++ [34]) else t.text
end Go.Proofs.YtjabhmepafofmaaDoor.Sc
namespace Go.Proofs.YtjabhmepafofmaaDoor.Sc
open Go.RowKit

theorem prefix_opens (l : Bs) : List.isPrefixOf [40, 42] l = opens l := by
  match l with
  | [] => rfl
  | [a] => simp [opens, List.isPrefixOf]
  | a :: b :: r =>
    show ((40 : UInt8) == a && ((42 : UInt8) == b && true)) = (decide (a = 40) && decide (b = 42))
    rw [Bool.eq_iff_iff]
    simp only [Bool.and_eq_true, beq_iff_eq, decide_eq_true_eq, and_true]
    exact ⟨fun h => ⟨h.1.symm, h.2.symm⟩, fun h => ⟨h.1.symm, h.2.symm⟩⟩
theorem prefix_closes (l : Bs) : List.isPrefixOf [42, 41] l = closes l := by
  match l with
  | [] => rfl
  | [a] => simp [closes, List.isPrefixOf]
  | a :: b :: r =>
    show ((42 : UInt8) == a && ((41 : UInt8) == b && true)) = (decide (a = 42) && decide (b = 41))
    rw [Bool.eq_iff_iff]
    simp only [Bool.and_eq_true, beq_iff_eq, decide_eq_true_eq, and_true]
    exact ⟨fun h => ⟨h.1.symm, h.2.symm⟩, fun h => ⟨h.1.symm, h.2.symm⟩⟩
def tokA (t : Tok) : Array Value := #[.int .u8 t.kind, .string (mk t.text), .int .i64 t.num, .int .i64 t.pos]
def tokV (t : Tok) : Value := .agg (tokA t)
/-- what a reader hands back -/
def readV : Option (Tok × Nat) → Value
  | none => .tuple #[.agg #[.int .u8 0, .string ⟨#[]⟩, .int .i64 0, .int .i64 0], .int .i64 0]
  | some (t, n) => .tuple #[tokV t, .int .i64 n]
theorem results_cell_tmp {P : Program} {fn : Func} {a t u : Nat} (h : fn.results = #[.cell a t, .tmp u]) (tmps : Array Value) (w : World) (g : Nat) (cs : Array Value)
    (ha : tmps.getD a undef = .pointer (some ⟨g, 0, none⟩)) (hl : (loadVar t ⟨g, 0, none⟩).run P w = .ok (.agg cs) w) :
    (results fn tmps).run P w = .ok (.tuple #[.agg cs, tmps.getD u undef]) w := by
  have e : (asAddr (tmps.getD a undef)).run P w = .ok ⟨g, 0, none⟩ w := by rw [ha]; rfl
  simp only [Array.getD_eq_getD_getElem?] at e ⊢
  simp [results, h, e, hl, Result.andThen]
theorem tok_row (w : World) (g : Nat) (cs : Array Value) (hs : cs.size = 4) (hb : w.heap[g]? = some (.cells cs 49 (0, 0))) :
    (loadVar 49 ⟨g, 0, none⟩).run Tryd.prog w = .ok (.agg cs) w :=
  run_loadVar_row w g 49 49 cs (0, 0) _ hb Tryd.underlying49 rfl (by rw [hs]; kernel_rfl)
theorem last_block (w : World) (o : Obj) : (w.alloc o).heap[w.heap.size]? = some o := by
  show (w.heap.push o)[w.heap.size]? = some o
  simp
theorem below_alloc (w : World) (o : Obj) : Below w.heap.size w (w.alloc o) := (Below.refl _ w).alloc (Nat.le_refl _) _
theorem second_block (w : World) (a b : Obj) : ((w.alloc a).alloc b).heap[w.heap.size]? = some a := by
  show ((w.heap.push a).push b)[w.heap.size]? = some a
  rw [Array.getElem?_push, if_neg (by simp), Array.getElem?_push, if_pos rfl]
theorem below_two (w : World) (a b : Obj) : Below w.heap.size w ((w.alloc a).alloc b) := ((Below.refl _ w).alloc (Nat.le_refl _) _).alloc (by simp) _
theorem numF_big (acc : Nat) (c : UInt8) (r : Bs) (d : Nat) (hc : c.toNat = 48 + d) (h : (4611686018427387903 - d) / 10 < acc) : numF acc (c :: r) = none := by
  have e : c.toNat - 48 = d := by omega
  rw [numF, e, if_pos h]
theorem numF_small (acc : Nat) (c : UInt8) (r : Bs) (d : Nat) (hc : c.toNat = 48 + d) (h : ¬ (4611686018427387903 - d) / 10 < acc) : numF acc (c :: r) = numF (10 * acc + d) r := by
  have e : c.toNat - 48 = d := by omega
  rw [numF, e, if_neg h]
theorem block_setCell {w : World} {b : Nat} {arr : Array Value} {t : TypeId} {z : Nat × Nat} (h : w.heap[b]? = some (.cells arr t z)) (i : Nat) (v : Value) :
    (w.setCell ⟨b, i, none⟩ v).heap[b]? = some (.cells (arr.setIfInBounds i v) t z) := by
  simp [World.setCell, Array.getElem?_modify, h]
theorem four_block {w : World} {b : Nat} {arr : Array Value} {t : TypeId} {z : Nat × Nat} (h : w.heap[b]? = some (.cells arr t z)) (v0 v1 v2 v3 : Value) :
    ((((w.setCell ⟨b, 0, none⟩ v0).setCell ⟨b, 1, none⟩ v1).setCell ⟨b, 2, none⟩ v2).setCell ⟨b, 3, none⟩ v3).heap[b]? =
      some (.cells ((((arr.setIfInBounds 0 v0).setIfInBounds 1 v1).setIfInBounds 2 v2).setIfInBounds 3 v3) t z) :=
  block_setCell (block_setCell (block_setCell (block_setCell h 0 v0) 1 v1) 2 v2) 3 v3
theorem below_setCell {B : Nat} {w w' : World} (h : Below B w w') {b : Nat} (hb : B ≤ b) (i : Nat) (v : Value) : Below B w (w'.setCell ⟨b, i, none⟩ v) :=
  ⟨h.os, h.tape, h.output, by simpa [World.setCell] using h.size, fun k hk => (Below.heap_setCell _ _ _ _ (by show k ≠ b; omega)).trans (h.block k hk)⟩
theorem tokRow_of {w : World} {b : Nat} {v0 v1 v2 v3 : Value} {t : TypeId} (h : w.heap[b]? = some (.cells #[v0, v1, v2, v3] t (0, 0))) :
    w.cell? ⟨b, 0, none⟩ = some v0 ∧ w.cell? ⟨b, 1, none⟩ = some v1 ∧ w.cell? ⟨b, 2, none⟩ = some v2 ∧ w.cell? ⟨b, 3, none⟩ = some v3 ∧ ∀ j, w.frozen? ⟨b, j, none⟩ = false := by
  simp [World.cell?, World.frozen?, h]
def tokCells (ts : List Tok) : List Value := ts.flatMap fun t => (tokA t).toList
def ScanSaid (w : World) (R : Except Nat (List Tok)) (e : Ending) (w' : World) : Prop :=
  Below w.heap.size w w' ∧ match R with
    | .error p => e = .returned (.tuple #[.slice none 0 0, .int .i64 p, .int .i64 10])
    | .ok ts => ∃ v, e = .returned (.tuple #[v, .int .i64 0, .int .i64 0]) ∧ w'.ownsRow w.heap.size 49 4 v ts.length (tokCells ts)
def Spells (v : Value) (s : ByteArray) (w : World) : Prop := ∀ dst, Tryd.prog.underlying dst = some .string → (convert 52 dst v).run Tryd.prog w = .ok (.string s) w
theorem keep_alloc {w w' : World} {o : Obj} (h : Below w.heap.size w w') : Below w.heap.size w (w'.alloc o) := h.alloc h.size o
/-- what a reader has handed back, in parts -/
def Parted (o : Option (Tok × Nat)) (kd nm ps m : Nat) (tx : ByteArray) : Prop :=
  (o = none ∧ m = 0) ∨ ∃ t : Tok, o = some (t, m) ∧ kd = t.kind ∧ tx = mk t.text ∧ nm = t.num ∧ ps = t.pos
theorem readV_parts (o : Option (Tok × Nat)) : ∃ kd nm ps m tx, readV o = .tuple #[.agg #[.int .u8 (kd : Nat), .string tx, .int .i64 (nm : Nat), .int .i64 (ps : Nat)], .int .i64 (m : Nat)] ∧ Parted o kd nm ps m tx := by
  cases o with
  | none => exact ⟨0, 0, 0, 0, ⟨#[]⟩, rfl, .inl ⟨rfl, rfl⟩⟩
  | some p => exact ⟨p.1.kind, p.1.num, p.1.pos, p.2, mk p.1.text, rfl, .inr ⟨p.1, rfl, rfl, rfl, rfl, rfl⟩⟩
def ReadOut (w1 : World) (V : Value) (e : Ending) (w' : World) : Prop := e = .returned V ∧ Below w1.heap.size w1 w'
theorem owns_below {w w' : World} {base : Nat} {v : Value} {n : Nat} {xs : List Value} (h : w.ownsRow base 49 4 v n xs) (hb : Below w.heap.size w w') : w'.ownsRow base 49 4 v n xs := by
  refine ⟨h.1, ?_⟩
  rcases h.2 with h2 | ⟨g, cap, cur, h1, h2, h3, h4⟩
  · exact .inl h2
  · exact .inr ⟨g, cap, cur, h1, h2, (hb.block g (by
      rcases Nat.lt_or_ge g w.heap.size with h | h
      · exact h
      · rw [Array.getElem?_eq_none h] at h3
        cases h3)).trans h3, h4⟩
theorem below_grown {B : Nat} {w w' w2 : World} {v : Value} {n : Nat} {xs : List Value} (h : Below B w w') (hB : B ≤ w.heap.size) (ho : w'.ownsRow B 49 4 v n xs) (hg : w'.grownBy w2 v.ownBlock) : Below B w w2 := by
  refine ⟨hg.os.trans h.os, hg.tape.trans h.tape, hg.output.trans h.output, Nat.le_trans h.size hg.size, fun k hk => (hg.block k (Nat.lt_of_lt_of_le hk (Nat.le_trans hB h.size)) ?_).trans (h.block k hk)⟩
  rcases ho.2 with ⟨rfl, _⟩ | ⟨g, cap, cur, rfl, h2, _⟩
  · simp [Value.ownBlock]
  · simp only [Value.ownBlock]
    intro e
    injection e with e
    omega
theorem row_first {w : World} {b : Nat} {v0 v1 v2 v3 u0 u1 u2 u3 : Value} {t : TypeId} (h : w.heap[b]? = some (.cells #[v0, v1, v2, v3] t (0, 0))) :
    ((((w.setCell ⟨b, 0, none⟩ u0).setCell ⟨b, 1, none⟩ u1).setCell ⟨b, 2, none⟩ u2).setCell ⟨b, 3, none⟩ u3).heap[b]? = some (.cells #[u0, u1, u2, u3] t (0, 0)) := four_block h u0 u1 u2 u3
theorem tok_cells (w : World) (x : List Value) (t : TypeId) (n : Nat) (hn : w.heap.size = n) : ∀ j u, x[j]? = some u → (w.alloc (.cells x.toArray t)).cell? ((⟨n, 0, none⟩ : Addr).add j) = some u := by
  intro j u hj
  subst hn
  have hb := last_block w (.cells x.toArray t)
  have e : ((⟨w.heap.size, 0, none⟩ : Addr).add j) = ⟨w.heap.size, j, none⟩ := by
    unfold Addr.add
    simp only [Nat.zero_add]
    split
    · rename_i h
      subst h
      rfl
    · rfl
  rw [e]
  simp only [World.cell?, hb]
  simpa using hj
set_option maxRecDepth 100000 in
theorem info34 : ∃ i, Tryd.prog.info? 49 = some i ∧ i.zero = some (.agg #[.int .u8 0, .string ⟨#[]⟩, .int .i64 0, .int .i64 0]) ∧ i.size = 4 ∧ i.bytes = 40 := ⟨_, rfl, rfl, rfl, rfl⟩
theorem tok_ones {a c d : Int} {b : ByteArray} {x y z : IntKind} : ∀ u ∈ [Value.int x a, .string b, .int y c, .int z d], u.oneCell' = true := by
  simp [Value.oneCell']
/-- the bytes of a slice -/
def SrcAt (w : World) (a : Option Addr) (l : Bs) : Prop := ∀ i x, l[i]? = some x → ∃ b off, a = some ⟨b, off, none⟩ ∧ w.cell? ⟨b, off + i, none⟩ = some (.int .u8 (x.toNat : Nat))
theorem strOfNums_mk (l : Bs) : strOfNums (l.map fun (c : UInt8) => (c.toNat : Int)) = mk l := by
  unfold strOfNums mk
  congr 1
  simp [Function.comp_def]
theorem SrcAt.spells {w : World} {a : Option Addr} {l : Bs} (h : SrcAt w a l) (n cap : Nat) (hn : l.length = n) : Spells (.slice a n cap) (mk l) w := by
  intro dst hd
  subst hn
  cases l with
  | nil =>
    rw [run_convert_bytes_string w 52 dst 5 _ _ _ Tryd.underlying52 Tryd.underlying5 hd]
    cases a <;> rfl
  | cons c r =>
    obtain ⟨b, off, rfl, _⟩ := h 0 c rfl
    rw [← strOfNums_mk]
    refine run_convert_bytes_arg w 52 5 Tryd.underlying52 Tryd.underlying5 b off _ cap _ (by simp) (fun i hi => ?_) dst hd
    obtain ⟨b', off', h1, h2⟩ := h i _ (List.getElem?_eq_getElem hi)
    simp only [Option.some.injEq, Addr.mk.injEq] at h1
    obtain ⟨rfl, rfl, _⟩ := h1
    rw [h2]
    have e : ((c :: r).map fun (c : UInt8) => (c.toNat : Int))[i]? = some (((c :: r)[i]).toNat : Int) := by rw [List.getElem?_map, List.getElem?_eq_getElem hi]; rfl
    rw [List.getD, e]
    rfl
theorem mk_toList (l : Bs) : (mk l).toList = l := by
  rw [ByteArray.toList_eq]
  exact mk_data l
def Said (w : World) (x : Bool) (e : Ending) (w' : World) : Prop := e = .returned (.bool x) ∧ Below w.heap.size w w'
set_option maxRecDepth 100000 in
set_option maxHeartbeats 2000000 in
theorem in_any (ss : List Bs) (x : Bs) (s : ByteArray) (hs : Hid (s = mk x)) (b off n cap : Nat) (w : World) (hn : n ≤ 1099511627776) (hl : Hid (ss.length = n)) (h1 : Hid (∀ (i : Nat) (y : Bs), ss[i]? = some y → w.cell? ⟨b, off + i, none⟩ = some (.string (mk y)))) :
    Calls Tryd.prog 86 #[.slice (some ⟨b, off, none⟩) n cap, .string s] w fun e w' => e = .returned (.bool (decide (x ∈ ss))) ∧ w' = w := by
  go_enter Tryd.func86, Tryd.ntmps86
  go_wp2_with fail
  go_loopw [5] (fun i wr => ∃ k : Nat, k ≤ n ∧ i = .int .i64 k ∧ wr = w ∧ Hid (x ∉ ss.take k)) (fun i _ => n - (intOf i).toNat)
  case atStart => exact ⟨0, Nat.zero_le _, rfl, rfl, Lib.hid (by simp)⟩
  case round =>
    obtain ⟨k, hk, rfl, rfl, HX⟩ := hrel
    by_cases hkn : k = n
    · go_wp2_with fail
      go_ret
      refine ⟨?_, rfl⟩
      have : x ∉ ss := by
        have := HX.out
        rwa [hkn, ← hl.out, List.take_length] at this
      rw [decide_eq_false this]
      rfl
    · obtain ⟨y, hy⟩ : ∃ y, ss[k]? = some y := ⟨_, List.getElem?_eq_getElem (by rw [hl.out]; omega)⟩
      have c0 := h1.out k y hy
      have HY := Lib.hid hy
      clear hy
      by_cases hxy : y = x
      · have e : mk y = s := by rw [hs.out, hxy]
        rw [e] at c0
        go_wp2_with fail
        go_ret
        refine ⟨?_, rfl⟩
        rw [← hxy, decide_eq_true (List.mem_of_getElem? HY.out)]
        rfl
      · have hne : ((mk y).toList == s.toList) = false := by
          rw [beq_eq_false_iff_ne, hs.out, mk_toList, mk_toList]
          exact hxy
        have HXY := Lib.hid hxy
        clear hxy
        go_wp2_with fail
        refine ⟨⟨k + 1, by omega, rfl, trivial, Lib.hid ?_⟩, by simp [intOf]; omega⟩
        rw [List.take_add_one, HY.out]
        simp only [Option.toList_some, List.mem_append, List.mem_singleton, not_or]
        exact ⟨HX.out, fun e => HXY.out e.symm⟩
theorem below_grown2 {B : Nat} {w w' w2 : World} {e : TypeId} {s : Nat} {v : Value} {n : Nat} {xs : List Value} (h : Below B w w') (hB : B ≤ w.heap.size) (ho : w'.ownsRow B e s v n xs) (hg : w'.grownBy w2 v.ownBlock) : Below B w w2 := by
  refine ⟨hg.os.trans h.os, hg.tape.trans h.tape, hg.output.trans h.output, Nat.le_trans h.size hg.size, fun k hk => (hg.block k (Nat.lt_of_lt_of_le hk (Nat.le_trans hB h.size)) ?_).trans (h.block k hk)⟩
  rcases ho.2 with ⟨rfl, _⟩ | ⟨g, cap, cur, rfl, h2, _⟩
  · simp [Value.ownBlock]
  · simp only [Value.ownBlock]
    intro e
    injection e with e
    omega
def bytesV (l : Bs) : List Value := l.map fun (x : UInt8) => Value.int .u8 (x.toNat : Nat)
theorem srcAt_own {w : World} {base : Nat} {v : Value} {l : Bs} (h : w.ownsRow base 5 1 v l.length (bytesV l)) : ∃ a cap, v = .slice a l.length cap ∧ SrcAt w a l ∧ l.length ≤ cap ∧ cap ≤ maxLen := by
  have hz := fun g => h.cells (g := g)
  rcases h.2 with ⟨rfl, h2⟩ | ⟨g, cap, cur, rfl, h2, _, h3, h4, _⟩
  · refine ⟨none, 0, by rw [h2], fun i t hi => ?_, by omega, Nat.zero_le _⟩
    have : l = [] := List.eq_nil_of_length_eq_zero h2
    subst this
    simp at hi
  · refine ⟨some ⟨g, 0, none⟩, cap, rfl, fun i x hi => ⟨g, 0, rfl, ?_⟩, h3, h4⟩
    have hc := hz g rfl i (.int .u8 (x.toNat : Nat)) (by unfold bytesV; rw [List.getElem?_map, hi]; rfl)
    rw [Nat.zero_add]
    rw [← hc]
    unfold Addr.add
    split
    · rename_i h
      rw [h]
    · simp
set_option maxRecDepth 100000 in
theorem info5 : ∃ i, Tryd.prog.info? 5 = some i ∧ i.zero = some (.int .u8 0) ∧ i.size = 1 ∧ i.bytes = 1 := ⟨_, rfl, rfl, rfl, rfl⟩
theorem SrcAt.cells {w : World} {b off : Nat} {l : Bs} (h : SrcAt w (some ⟨b, off, none⟩) l) : ∀ j u, (bytesV l)[j]? = some u → w.cell? ((⟨b, off, none⟩ : Addr).add j) = some u := by
  intro j u hj
  unfold bytesV at hj
  rw [List.getElem?_map] at hj
  obtain ⟨x, hx, rfl⟩ := Option.map_eq_some_iff.1 hj
  obtain ⟨b', off', e1, e2⟩ := h j x hx
  simp only [Option.some.injEq, Addr.mk.injEq, and_true] at e1
  obtain ⟨rfl, rfl⟩ := e1
  rw [← e2]
  unfold Addr.add
  split
  · rename_i h
    rw [h]
    rfl
  · rfl
theorem SrcAt.take {w : World} {a : Option Addr} {l : Bs} (h : SrcAt w a l) (n : Nat) : SrcAt w a (l.take n) := by
  intro i x hi
  rw [List.getElem?_take] at hi
  split at hi
  · exact h i x hi
  · cases hi
def strV (l : List Bs) : List Value := l.map fun x => Value.string (mk x)
theorem strs_new (w : World) (l : List Bs) (t : TypeId) (z : Nat × Nat) : ∀ (i : Nat) (y : Bs), l[i]? = some y → (w.alloc (.cells (strV l).toArray t z)).cell? ⟨w.heap.size, 0 + i, none⟩ = some (.string (mk y)) := by
  intro i y hi
  have hb := last_block w (.cells (strV l).toArray t z)
  rw [Nat.zero_add]
  simp only [World.cell?, hb]
  simp [strV, hi]
theorem words_new (w : World) : Calls Tryd.prog 87 #[] w fun e w' => e = .returned (.slice (some ⟨w.heap.size, 0, none⟩) 22 22) ∧ w' = w.alloc (.cells (strV words).toArray 9) := by
  go_enter Tryd.func87, Tryd.ntmps87
  go_wp2_with fail
  go_ret
  exact ⟨rfl, rfl⟩
theorem refWord_any (x : Bs) (w : World) : Calls Tryd.prog 78 #[.string (mk x)] w (Said w (decide (x ∈ words))) := by
  go_enter Tryd.func78, Tryd.ntmps78
  go_wp2_with fail
  refine (words_new w).mono ?_
  rintro e w1 ⟨rfl, rfl⟩
  go_wp2_with fail
  refine (in_any words x _ (Lib.hid rfl) w.heap.size 0 22 22 _ (by decide) (Lib.hid rfl) (Lib.hid (strs_new w words 9 (0, 0)))).mono ?_
  rintro e w2 ⟨rfl, rfl⟩
  go_wp2_with fail
  go_ret
  exact ⟨rfl, below_alloc w _⟩
section
variable {P : Program} {ops : Array Oper} {Q : Exit → Act → World → Prop} {md : Region.Mode} {S : World → Prop}
/-- an operation that yields a value in every world that meets S is taken first -/
theorem take_op (i : Nat) (d : Option Tmp) (op : Op) (t : TypeId) (v : Value) {fuel : Nat} {listed : Array Bool} {a : Act} {w : World} (hd : (ops[i]?).map (fun o => (o.dst, o.op, o.type)) = some (d, op, t))
    (hs : Region.noSelect ops = true) (hf : Region.free md ops listed i = true) (hr : (Region.ready md ops listed).contains i = true) (hw : (ops[i]?).map (fun o => Region.wanted o (yielded ops a.tmps)) = some true)
    (hQ : ∀ c a w, Q (.panic c) (a.put d v) w → Q (.panic c) a w)
    (hy : ∀ w, S w → (execOp a.eval { dst := d, op := op, type := t, pos := "", after := #[], guard := none }).run P w = .ok (.value v) w) (hS : S w)
    (h : wpAnyH P md ops Q S fuel (listed.setIfInBounds i true) (a.put d v) w) : wpAnyH P md ops Q S (fuel + 1) listed a w := by
  cases ho : ops[i]? with
  | none => rw [ho] at hd; cases hd
  | some o =>
    rw [ho] at hd hw
    simp only [Option.map_some, Option.some.injEq, Prod.mk.injEq] at hd hw
    obtain ⟨rfl, rfl, rfl⟩ := hd
    exact wpAnyH_take ho hs hf hr hQ (Or.inl ⟨hw, fun w' hS' => hy w' hS'⟩) hS h
end
theorem own_app {w : World} {b : Nat} {v : Value} {l l2 : Bs} {n m : Nat} {news : List Value} (h : w.ownsRow b 5 1 v (n + m) (bytesV l ++ news)) (hn : l.length = n) (hm : l2.length = m) (h2 : bytesV l2 = news) : w.ownsRow b 5 1 v (l ++ l2).length (bytesV (l ++ l2)) := by
  rw [List.length_append, hn, hm]
  have e : bytesV (l ++ l2) = bytesV l ++ news := by rw [← h2]; simp [bytesV]
  rw [e]
  exact h
theorem rsmall_any (c : UInt8) (w : World) : Calls Tryd.prog 58 #[.int .u8 c.toNat] w fun e w' => e = .returned (.bool (small c)) ∧ w' = w := by
  have hc : c.toNat < 256 := c.toNat_lt
  unfold small
  generalize c.toNat = n at hc ⊢
  go_enter Tryd.func58, Tryd.ntmps58
  by_cases h : 97 ≤ n
  · go_wp2_with fail
    go_ret
    simp [h]
    omega
  · go_wp2_with fail
    go_ret
    simp [h]
theorem rgreat_any (c : UInt8) (w : World) : Calls Tryd.prog 59 #[.int .u8 c.toNat] w fun e w' => e = .returned (.bool (great c)) ∧ w' = w := by
  have hc : c.toNat < 256 := c.toNat_lt
  unfold great
  generalize c.toNat = n at hc ⊢
  go_enter Tryd.func59, Tryd.ntmps59
  by_cases h : 65 ≤ n
  · go_wp2_with fail
    go_ret
    simp [h]
    omega
  · go_wp2_with fail
    go_ret
    simp [h]
theorem rdigit_any (c : UInt8) (w : World) : Calls Tryd.prog 61 #[.int .u8 c.toNat] w fun e w' => e = .returned (.bool (digit c)) ∧ w' = w := by
  have hc : c.toNat < 256 := c.toNat_lt
  unfold digit
  generalize c.toNat = n at hc ⊢
  go_enter Tryd.func61, Tryd.ntmps61
  by_cases h : 48 ≤ n
  · go_wp2_with fail
    go_ret
    simp [h]
    omega
  · go_wp2_with fail
    go_ret
    simp [h]
theorem rpart_any (c : UInt8) (w : World) : Calls Tryd.prog 79 #[.int .u8 c.toNat] w fun e w' => e = .returned (.bool (part c)) ∧ w' = w := by
  have hc : c.toNat < 256 := c.toNat_lt
  unfold part
  have c1 := rsmall_any c w
  have c2 := rgreat_any c w
  have c3 := rdigit_any c w
  generalize small c = p1 at c1 ⊢
  generalize great c = p2 at c2 ⊢
  generalize digit c = p3 at c3 ⊢
  generalize c.toNat = n at hc c1 c2 c3 ⊢
  have C1 := Lib.hid c1
  have C2 := Lib.hid c2
  have C3 := Lib.hid c3
  clear c1 c2 c3
  go_enter Tryd.func79, Tryd.ntmps79
  cases p1
  · cases p2
    · cases p3
      · go_wp2_with fail
        refine C1.out.mono ?_
        rintro e w1 ⟨rfl, rfl⟩
        go_wp2_with fail
        refine C2.out.mono ?_
        rintro e w1 ⟨rfl, rfl⟩
        go_wp2_with fail
        refine C3.out.mono ?_
        rintro e w1 ⟨rfl, rfl⟩
        go_wp2_with fail
        go_ret
        simp
        rw [Bool.eq_iff_iff]
        simp
        omega
      · go_wp2_with fail
        refine C1.out.mono ?_
        rintro e w1 ⟨rfl, rfl⟩
        go_wp2_with fail
        refine C2.out.mono ?_
        rintro e w1 ⟨rfl, rfl⟩
        go_wp2_with fail
        refine C3.out.mono ?_
        rintro e w1 ⟨rfl, rfl⟩
        go_wp2_with fail
        go_ret
        simp
    · go_wp2_with fail
      refine C1.out.mono ?_
      rintro e w1 ⟨rfl, rfl⟩
      go_wp2_with fail
      refine C2.out.mono ?_
      rintro e w1 ⟨rfl, rfl⟩
      go_wp2_with fail
      go_ret
      simp
  · go_wp2_with fail
    refine C1.out.mono ?_
    rintro e w1 ⟨rfl, rfl⟩
    go_wp2_with fail
    go_ret
    simp
set_option maxRecDepth 100000 in
set_option maxHeartbeats 1000000 in
theorem rrun_any (l : Bs) (s : ByteArray) (hsl : Hid (s = mk l)) (n : Nat) (hn : n ≤ 1099511627776) (hs : s.size = n) (w : World) :
    Calls Tryd.prog 64 #[.string s] w fun e w' => e = .returned (.int .i64 ((l.takeWhile part).length : Nat)) ∧ w' = w := by
  go_enter Tryd.func64, Tryd.ntmps64
  go_wp2_with fail
  go_loopw [3] (fun i wr => wr = w ∧ ∃ q : Nat, q ≤ n ∧ i = .int .i64 q ∧ Hid (∀ k, k < q → ∀ c, l[k]? = some c → part c = true)) (fun i _ => n - (intOf i).toNat)
  case atStart => exact ⟨rfl, 0, Nat.zero_le _, rfl, Lib.hid fun _ h => by omega⟩
  case round =>
    obtain ⟨rfl, q, hq, rfl, HH⟩ := hrel
    by_cases hlt : q < n
    · have hlt2 : q < s.size := by omega
      have HG : Hid (l[q]? = some s[q]) := by
        have e := hsl.out
        subst e
        exact Lib.hid (mk_get l q hlt2)
      have hc := rpart_any s[q] wr
      cases hp : part s[q]
      · rw [hp] at hc
        have HC := Lib.hid hc
        have HP := Lib.hid hp
        clear hc hp
        go_wp2_with fail
        refine HC.out.mono ?_
        rintro e w2 ⟨rfl, rfl⟩
        go_wp2_with fail
        go_ret
        refine ⟨?_, rfl⟩
        have hl : q < l.length := (List.getElem?_eq_some_iff.1 HG.out).1
        have e : (l.takeWhile part).length = q := by rw [takeWhile_cut part l q _ HH.out HG.out HP.out, List.length_take]; omega
        rw [e]
        rfl
      · rw [hp] at hc
        have HC := Lib.hid hc
        have HP := Lib.hid hp
        clear hc hp
        go_wp2_with fail
        refine HC.out.mono ?_
        rintro e w2 ⟨rfl, rfl⟩
        go_wp2_with fail
        refine ⟨⟨trivial, q + 1, by omega, by go_num, Lib.hid fun k hk c hc => ?_⟩, by simp [intOf]; omega⟩
        by_cases e : k = q
        · subst e
          rw [HG.out] at hc
          injection hc with hc
          rw [← hc]
          exact HP.out
        · exact HH.out k (by omega) c hc
    · go_wp2_with fail
      go_ret
      refine ⟨?_, rfl⟩
      have e : s.size = l.length := by rw [hsl.out, mk_size]
      have e2 : (l.takeWhile part).length = q := by
        rw [takeWhile_all part l]
        · omega
        · intro k hk
          exact HH.out k (by omega)
      rw [e2]
      rfl
theorem begins_any (l t : Bs) (s u : ByteArray) (hsl : Hid (s = mk l)) (hut : Hid (u = mk t)) (n m : Nat) (hn : n ≤ 1099511627776) (hm : m ≤ 1099511627776) (hs : s.size = n) (hu : u.size = m) (w : World) :
    Calls Tryd.prog 57 #[.string s, .string u] w fun e w' => e = .returned (.bool (t.isPrefixOf l)) ∧ w' = w := by
  have HL : Hid (l.length = n) := Lib.hid (by rw [← hs, hsl.out, mk_size])
  have HM : Hid (t.length = m) := Lib.hid (by rw [← hu, hut.out, mk_size])
  go_enter Tryd.func57, Tryd.ntmps57
  by_cases h : m ≤ n
  · have he : ((s.extract 0 m).toList == u.toList) = t.isPrefixOf l := by
      rw [hsl.out, hut.out, mk_take, mk_toList, mk_toList, Bool.eq_iff_iff, beq_iff_eq, List.isPrefixOf_iff_prefix, List.prefix_iff_eq_take, HM.out]
      exact ⟨fun h => h.symm, fun h => h.symm⟩
    generalize t.isPrefixOf l = b at he ⊢
    go_wp2_with fail
    go_ret
    exact ⟨rfl, rfl⟩
  · have he : t.isPrefixOf l = false := by
      cases hb : t.isPrefixOf l with
      | false => rfl
      | true =>
        have := (List.isPrefixOf_iff_prefix.1 hb).length_le
        rw [HL.out, HM.out] at this
        omega
    rw [he]
    clear he
    go_wp2_with fail
    go_ret
    exact ⟨rfl, rfl⟩
theorem ropens_call (l : Bs) (s : ByteArray) (h : Hid (s = mk l)) (n : Nat) (hn : n ≤ 1099511627776) (hs : s.size = n) (w : World) :
    Calls Tryd.prog 57 #[.string s, .string ⟨#[40, 42]⟩] w fun e w' => e = .returned (.bool (opens l)) ∧ w' = w := by
  have := begins_any l [40, 42] s ⟨#[40, 42]⟩ h (Lib.hid rfl) n 2 hn (by decide) hs rfl w
  rw [← prefix_opens]
  exact this
theorem rcloses_call (l : Bs) (s : ByteArray) (h : Hid (s = mk l)) (n : Nat) (hn : n ≤ 1099511627776) (hs : s.size = n) (w : World) :
    Calls Tryd.prog 57 #[.string s, .string ⟨#[42, 41]⟩] w fun e w' => e = .returned (.bool (closes l)) ∧ w' = w := by
  have := begins_any l [42, 41] s ⟨#[42, 41]⟩ h (Lib.hid rfl) n 2 hn (by decide) hs rfl w
  rw [← prefix_closes]
  exact this
def blankI (l : Bs) : Int := match blank l with | some k => (k : Int) | none => -1
theorem white_val (c : UInt8) : white c = true ↔ (c.toNat = 32 ∨ c.toNat = 9 ∨ c.toNat = 10 ∨ c.toNat = 13) := by
  unfold white
  simp only [Bool.or_eq_true, decide_eq_true_eq]
  constructor
  · rintro (((rfl | rfl) | rfl) | rfl) <;> decide
  · intro h
    have e : c = UInt8.ofNat c.toNat := by simp
    rcases h with h | h | h | h <;> rw [h] at e <;> rw [e] <;> decide
set_option maxRecDepth 100000 in
set_option maxHeartbeats 2000000 in
theorem rblank_any (c : UInt8) (r : Bs) (s : ByteArray) (hsl : Hid (s = mk (c :: r))) (n : Nat) (hn : n ≤ 1099511627776) (hs : s.size = n) (w : World) :
    Calls Tryd.prog 38 #[.string s] w fun e w' => e = .returned (.int .i64 (blankI (c :: r))) ∧ w' = w := by
  obtain ⟨l, hlr⟩ : ∃ l, c :: r = l := ⟨_, rfl⟩
  have hln : l.length = n := by rw [← hs, hsl.out, mk_size, hlr]
  have hn1 : 1 ≤ n := by rw [← hln, ← hlr]; simp
  have h00 : 0 < s.size := by omega
  have hc0 : s[0] = c := by
    have e := hsl.out
    subst e
    exact Option.some.inj (mk_get (c :: r) 0 h00).symm
  obtain ⟨v, hv⟩ : ∃ v, c.toNat = v := ⟨_, rfl⟩
  have hwv := white_val c
  rw [hv] at hwv
  cases hwh : white c with
  | true =>
    have hres : blankI (c :: r) = 1 := by
      unfold blankI
      rw [show blank (c :: r) = some 1 by simp [blank, hwh]]
      rfl
    rw [hres]
    have h4 := hwv.1 hwh
    clear hwv hwh hlr hln hsl hres
    go_enter Tryd.func38, Tryd.ntmps38
    rcases h4 with rfl | rfl | rfl | rfl
    · go_wp2_with fail
      go_ret
      exact ⟨rfl, rfl⟩
    · go_wp2_with fail
      go_ret
      exact ⟨rfl, rfl⟩
    · go_wp2_with fail
      go_ret
      exact ⟨rfl, rfl⟩
    · go_wp2_with fail
      go_ret
      exact ⟨rfl, rfl⟩
  | false =>
    have h4 : ¬ (v = 32 ∨ v = 9 ∨ v = 10 ∨ v = 13) := fun h => by rw [hwv.2 h] at hwh; cases hwh
    have q1 : ((v : Int) == 32) = false := by simp only [beq_eq_false_iff_ne, ne_eq]; omega
    have q2 : ((v : Int) == 9) = false := by simp only [beq_eq_false_iff_ne, ne_eq]; omega
    have q3 : ((v : Int) == 10) = false := by simp only [beq_eq_false_iff_ne, ne_eq]; omega
    have q4 : ((v : Int) == 13) = false := by simp only [beq_eq_false_iff_ne, ne_eq]; omega
    rw [hlr] at hsl ⊢
    have hbl : blankI l = if opens l then (match cmt l with | some k => (k : Int) | none => -1) else 0 := by
      unfold blankI
      cases ho : opens l
      · rw [← hlr] at ho ⊢
        rw [blank_zero_of hwh ho]
        rfl
      · rw [blank_cmt ho]
        rfl
    have HBL := Lib.hid hbl
    have HLN := Lib.hid hln
    clear hwv hwh hlr hln h4 hbl
    have h0 := Lib.hid (ropens_call l s hsl n hn hs)
    go_enter Tryd.func38, Tryd.ntmps38
    go_wp2_with fail
    refine (h0.out _).mono ?_
    rintro e w1 ⟨rfl, rfl⟩
    cases ho : opens l with
    | false =>
      have HO := Lib.hid ho
      clear ho
      go_wp2_with fail
      go_ret
      rw [HBL.out, HO.out]
      exact ⟨rfl, rfl⟩
    | true =>
      have hn2 : 2 ≤ n := by
        have := opens_len (q := 0) (by simpa using ho)
        rw [HLN.out] at this
        omega
      have HO := Lib.hid ho
      clear ho
      go_wp2_with fail
      go_loopw [3, 4] (fun i j wr => wr = w1 ∧ ∃ o q : Nat, o ≤ q ∧ q ≤ n ∧ i = .int .i64 o ∧ j = .int .i64 q ∧ Hid ((0 < o ∧ CmInv l o q) ∨ (o = 0 ∧ cmt l = some q))) (fun _ j _ => n + 2 - (intOf j).toNat)
      case atStart => exact ⟨rfl, 1, 2, by decide, hn2, rfl, rfl, Lib.hid (.inl ⟨by decide, .inr ⟨by decide, rfl⟩⟩)⟩
      case round =>
        obtain ⟨rfl, o, q, hoq, hq, rfl, rfl, HI⟩ := hrel
        by_cases hqn : q < n
        · by_cases hop : 0 < o
          · have HI2 : Hid (CmInv l o q) := Lib.hid (by
              rcases HI.out with h | h
              · exact h.2
              · omega)
            have HX : Hid (s.extract q n = mk (l.drop q)) := Lib.hid (by rw [hsl.out, mk_drop l q n HLN.out.symm])
            have hxs : (s.extract q n).size = n - q := by rw [HX.out, mk_size, List.length_drop, HLN.out]
            have hc1 := ropens_call (l.drop q) (s.extract q n) HX (n - q) (by omega) hxs wr
            have hc2 := rcloses_call (l.drop q) (s.extract q n) HX (n - q) (by omega) hxs wr
            clear HI
            cases h1 : opens (l.drop q) with
            | true =>
              rw [h1] at hc1
              have hl2 := opens_len h1
              rw [HLN.out] at hl2
              have H1 := Lib.hid h1
              have HC1 := Lib.hid hc1
              clear h1 hc1 hc2
              go_wp2_with fail
              refine HC1.out.mono ?_
              rintro e w2 ⟨rfl, rfl⟩
              go_wp2_with fail
              exact ⟨⟨trivial, o + 1, q + 2, by omega, hl2, by go_num, by go_num, Lib.hid (.inl ⟨by omega, inv_open HI2.out H1.out⟩)⟩, by simp [intOf]; omega⟩
            | false =>
              rw [h1] at hc1
              have H1 := Lib.hid h1
              have HC1 := Lib.hid hc1
              cases h2 : closes (l.drop q) with
              | true =>
                rw [h2] at hc2
                have hl2 := closes_len h2
                rw [HLN.out] at hl2
                have H2 := Lib.hid h2
                have HC2 := Lib.hid hc2
                clear h1 hc1 hc2 h2
                go_wp2_with fail
                refine HC1.out.mono ?_
                rintro e w2 ⟨rfl, rfl⟩
                go_wp2_with fail
                refine HC2.out.mono ?_
                rintro e w3 ⟨rfl, rfl⟩
                go_wp2_with fail
                refine ⟨⟨trivial, o - 1, q + 2, by omega, hl2, ?_, by go_num, Lib.hid ?_⟩, by simp [intOf]; omega⟩
                · congr 1
                  omega
                · by_cases ho1 : o = 1
                  · subst ho1
                    exact .inr ⟨rfl, inv_last HI2.out H2.out⟩
                  · exact .inl ⟨by omega, inv_close HI2.out H2.out (by omega)⟩
              | false =>
                rw [h2] at hc2
                have H2 := Lib.hid h2
                have HC2 := Lib.hid hc2
                clear h1 hc1 hc2 h2
                go_wp2_with fail
                refine HC1.out.mono ?_
                rintro e w2 ⟨rfl, rfl⟩
                go_wp2_with fail
                refine HC2.out.mono ?_
                rintro e w3 ⟨rfl, rfl⟩
                go_wp2_with fail
                exact ⟨⟨trivial, o, q + 1, by omega, by omega, by go_num, by go_num, Lib.hid (.inl ⟨hop, inv_else HI2.out hop H1.out H2.out⟩)⟩, by simp [intOf]; omega⟩
          · have ho0 : o = 0 := by omega
            subst ho0
            go_wp2_with fail
            go_ret
            refine ⟨?_, rfl⟩
            rcases HI.out with h | h
            · omega
            · rw [HBL.out, HO.out, h.2]
              rfl
        · by_cases hop : 0 < o
          · go_wp2_with fail
            go_ret
            refine ⟨?_, rfl⟩
            rcases HI.out with h | h
            · rw [HBL.out, HO.out, inv_end h.2 hop (by rw [HLN.out]; omega)]
              rfl
            · omega
          · have ho0 : o = 0 := by omega
            subst ho0
            go_wp2_with fail
            go_ret
            refine ⟨?_, rfl⟩
            rcases HI.out with h | h
            · omega
            · rw [HBL.out, HO.out, h.2]
              rfl
end Go.Proofs.YtjabhmepafofmaaDoor.Sc
