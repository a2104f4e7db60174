/- Ta -/
import Derived.Test.YtjabhmepafofmaaGreatDoorG01
set_option linter.unusedVariables false
set_option linter.unusedSimpArgs false
namespace Go.Proofs.YtjabhmepafofmaaGreatDoor.Sc
open Go.RowKit
abbrev Bs := List UInt8
def small (c : UInt8) : Bool := decide (97 ≤ c.toNat) && decide (c.toNat ≤ 122)
def great (c : UInt8) : Bool := decide (65 ≤ c.toNat) && decide (c.toNat ≤ 90)
def digit (c : UInt8) : Bool := decide (48 ≤ c.toNat) && decide (c.toNat ≤ 57)
def part (c : UInt8) : Bool := small c || great c || digit c || decide (c.toNat = 95)
/-- how many bytes a comment still has, so many of them open; none: it has no end -/
def cm : Nat → Bs → Option Nat
 | _, [] => none
 | _, [_] => none
 | o, a :: b :: r =>
  if a = 40 ∧ b = 42 then (cm (o + 1) r).map (· + 2)
  else if a = 42 ∧ b = 41 then (if o = 1 then some 2 else (cm (o - 1) r).map (· + 2))
  else (cm o (b :: r)).map (· + 1)
def opens : Bs → Bool
 | a :: b :: _ => decide (a = 40) && decide (b = 42)
 | _ => false
def closes : Bs → Bool
 | a :: b :: _ => decide (a = 42) && decide (b = 41)
 | _ => false
def white (c : UInt8) : Bool := decide (c = 32) || decide (c = 9) || decide (c = 10) || decide (c = 13)
/-- how many bytes the blank or the comment has with which a text begins; none: a comment without end -/
def blank : Bs → Option Nat
 | [] => some 0
 | c :: r => if white c then some 1 else if opens (c :: r) then (cm 1 (r.drop 1)).map (· + 2) else some 0
structure Tok where
 kind : Nat
 text : Bs
 num : Nat
 pos : Nat
deriving DecidableEq, Inhabited
def words : List Bs := [[100, 97, 116, 97, 116, 121, 112, 101],[111, 102],[101, 120, 99, 101, 112, 116, 105, 111, 110],[118, 97, 108],[102, 117, 110],[97, 110, 100],[102, 110],[108, 101, 116],[105, 110],[101, 110, 100],[105, 102],[116, 104, 101, 110],[101, 108, 115, 101],[99, 97, 115, 101],[104, 97, 110, 100, 108, 101],[114, 97, 105, 115, 101],[114, 111, 111, 116],[100, 111],[116, 114, 117, 101],[102, 97, 108, 115, 101],[100, 105, 118],[109, 111, 100]]
def signs : List Bs := [[61, 62],[45, 62],[58, 61],[60, 61],[62, 61],[60, 62],[40],[41],[44],[59],[61],[42],[124],[58],[33],[43],[45],[126],[60],[62],[94],[95]]
/-- a list of bytes as a string -/
def mk (l : Bs) : ByteArray := ⟨l.toArray⟩
theorem mk_data (l : Bs) : (mk l).data.toList = l := by simp [mk]
theorem mk_size (l : Bs) : (mk l).size = l.length := by simp [mk, ByteArray.size]
theorem mk_extract (l : Bs) (a b : Nat) : (mk l).extract a b = mk ((l.take b).drop a) := by
 have h : ((mk l).extract a b).data = (l.toArray.extract a b) := by simp [mk, ByteArray.data_extract]
 have e : ((mk l).extract a b) = ⟨((mk l).extract a b).data⟩ := rfl
 rw [e, h]
 simp only [mk, List.extract_toArray, List.extract_eq_take_drop, List.drop_take]
theorem mk_drop (l : Bs) (a : Nat) (n : Nat) (hn : n = l.length) : (mk l).extract a n = mk (l.drop a) := by
 rw [mk_extract, hn, List.take_length]
theorem mk_take (l : Bs) (a : Nat) : (mk l).extract 0 a = mk (l.take a) := by
 rw [mk_extract, List.drop_zero]
theorem mk_get (l : Bs) (q : Nat) (h : q < (mk l).size) : l[q]? = some (mk l)[q] := by
 have hl : q < l.length := by rwa [mk_size] at h
 rw [List.getElem?_eq_getElem hl]
 congr 1
theorem takeWhile_cut (p : UInt8 → Bool) : ∀ (l : Bs) (q : Nat) (c : UInt8), (∀ k, k < q → ∀ c, l[k]? = some c → p c = true) → l[q]? = some c → p c = false → l.takeWhile p = l.take q
 | [], q, c, _, h, _ => by simp at h
 | a :: r, 0, c, _, h, hp => by
  simp only [List.getElem?_cons_zero, Option.some.injEq] at h
  subst h
  simp [hp]
 | a :: r, q + 1, c, h0, h, hp => by
  have ha : p a = true := h0 0 (by omega) a rfl
  rw [List.takeWhile_cons_of_pos ha, List.take_succ_cons]
  congr 1
  exact takeWhile_cut p r q c (fun k hk c hc => h0 (k + 1) (by omega) c (by simpa using hc)) (by simpa using h) hp
theorem takeWhile_all (p : UInt8 → Bool) : ∀ (l : Bs), (∀ k, k < l.length → ∀ c, l[k]? = some c → p c = true) → l.takeWhile p = l
 | [], _ => rfl
 | a :: r, h0 => by
  have ha : p a = true := h0 0 (by simp) a rfl
  rw [List.takeWhile_cons_of_pos ha, takeWhile_all p r fun k hk c hc => h0 (k + 1) (by simp; omega) c (by simpa using hc)]
/-- what 'comment' answers -/
def cmt (l : Bs) : Option Nat := (cm 1 (l.drop 2)).map (· + 2)
def CmInv (l : Bs) (o q : Nat) : Prop := (o = 0 ∧ q = 0) ∨ (0 < o ∧ cmt l = (cm o (l.drop q)).map (· + q))
theorem opens_len {l : Bs} {q : Nat} (h : opens (l.drop q) = true) : q + 2 ≤ l.length := by
 have : (l.drop q).length = l.length - q := List.length_drop
 cases h1 : l.drop q with
 | nil => rw [h1] at h; simp [opens] at h
 | cons a r => cases r with
  | nil => rw [h1] at h; simp [opens] at h
  | cons b r => rw [h1] at this; simp at this; omega
theorem closes_len {l : Bs} {q : Nat} (h : closes (l.drop q) = true) : q + 2 ≤ l.length := by
 have : (l.drop q).length = l.length - q := List.length_drop
 cases h1 : l.drop q with
 | nil => rw [h1] at h; simp [closes] at h
 | cons a r => cases r with
  | nil => rw [h1] at h; simp [closes] at h
  | cons b r => rw [h1] at this; simp at this; omega
theorem cm_opens (o : Nat) (x : Bs) (h : opens x = true) : cm o x = (cm (o + 1) (x.drop 2)).map (· + 2) := by
 match x, h with
 | a :: b :: r, h =>
  simp [opens] at h
  simp [cm, h]
theorem cm_closes (o : Nat) (x : Bs) (h : closes x = true) : cm o x = if o = 1 then some 2 else (cm (o - 1) (x.drop 2)).map (· + 2) := by
 match x, h with
 | a :: b :: r, h =>
  simp [closes] at h
  simp [cm, h]
theorem cm_else (o : Nat) (x : Bs) (h : opens x = false) (k : closes x = false) : cm o x = (cm o (x.drop 1)).map (· + 1) := by
 match x with
 | [] => simp [cm]
 | [a] => simp [cm]
 | a :: b :: r =>
  simp [opens] at h
  simp [closes] at k
  simp only [cm, List.drop_succ_cons, List.drop_zero]
  rw [if_neg (fun e => h e.1 e.2), if_neg (fun e => k e.1 e.2)]
theorem map_add (x : Option Nat) (a b : Nat) : (x.map (· + a)).map (· + b) = x.map (· + (b + a)) := by
 cases x <;> simp <;> omega
theorem inv_open {l : Bs} {o q : Nat} (h : CmInv l o q) (hl : opens (l.drop q) = true) : CmInv l (o + 1) (q + 2) := by
 refine .inr ⟨by omega, ?_⟩
 rcases h with ⟨rfl, rfl⟩ | ⟨h0, h⟩
 ·
  simp [cmt]
 ·
  rw [h, cm_opens o _ hl, List.drop_drop, map_add]
theorem inv_close {l : Bs} {o q : Nat} (h : CmInv l o q) (hl : closes (l.drop q) = true) (ho : 1 < o) : CmInv l (o - 1) (q + 2) := by
 refine .inr ⟨by omega, ?_⟩
 rcases h with ⟨rfl, rfl⟩ | ⟨h0, h⟩
 ·
  omega
 ·
  rw [h, cm_closes o _ hl, if_neg (by omega), List.drop_drop, map_add]
theorem inv_last {l : Bs} {q : Nat} (h : CmInv l 1 q) (hl : closes (l.drop q) = true) : cmt l = some (q + 2) := by
 rcases h with ⟨h0, _⟩ | ⟨h0, h⟩
 ·
  omega
 ·
  rw [h, cm_closes 1 _ hl, if_pos rfl]
  simp
  omega
theorem inv_end {l : Bs} {o q : Nat} (h : CmInv l o q) (ho : 0 < o) (hq : l.length ≤ q) : cmt l = none := by
 rcases h with ⟨h0, _⟩ | ⟨h0, h⟩
 ·
  omega
 ·
  rw [h, List.drop_eq_nil_of_le hq]
  simp [cm]
theorem inv_else {l : Bs} {o q : Nat} (h : CmInv l o q) (ho : 0 < o) (h1 : opens (l.drop q) = false) (h2 : closes (l.drop q) = false) : CmInv l o (q + 1) := by
 refine .inr ⟨ho, ?_⟩
 rcases h with ⟨rfl, rfl⟩ | ⟨h0, h⟩
 ·
  omega
 ·
  rw [h, cm_else o _ h1 h2, List.drop_drop, map_add]
theorem cm_le : ∀ (l : Bs) (o k : Nat), cm o l = some k → k ≤ l.length
 | [], o, k, h => by simp [cm] at h
 | [_], o, k, h => by simp [cm] at h
 | a :: b :: r, o, k, h => by
  unfold cm at h
  split at h
  ·
   obtain ⟨j, h1, h2⟩ := Option.map_eq_some_iff.1 h
   have := cm_le r _ _ h1
   simp; omega
  ·
   split at h
   ·
    split at h
    ·
     simp at h; subst h; simp
    ·
     obtain ⟨j, h1, h2⟩ := Option.map_eq_some_iff.1 h
     have := cm_le r _ _ h1
     simp; omega
   ·
    obtain ⟨j, h1, h2⟩ := Option.map_eq_some_iff.1 h
    have := cm_le (b :: r) _ _ h1
    simp at this ⊢; omega
theorem cmt_le {l : Bs} {k : Nat} (h : cmt l = some k) (h0 : opens l = true) : 2 ≤ k ∧ k ≤ l.length := by
 unfold cmt at h
 obtain ⟨j, h1, h2⟩ := Option.map_eq_some_iff.1 h
 have h3 := cm_le _ _ _ h1
 have h4 : 0 + 2 ≤ l.length := opens_len (q := 0) (by simpa using h0)
 simp at h3
 omega
theorem opens_white {c : UInt8} {r : Bs} (h : opens (c :: r) = true) : white c = false := by
 cases r with
 | nil => simp [opens] at h
 | cons b r =>
  simp [opens] at h
  rw [h.1]
  decide
theorem blank_cmt {l : Bs} (h : opens l = true) : blank l = cmt l := by
 cases l with
 | nil => simp [opens] at h
 | cons c r =>
  simp only [blank, opens_white h, h, if_true]
  rfl
theorem blank_no {c : UInt8} {r : Bs} (h : opens (c :: r) = false) : blank (c :: r) = if white c then some 1 else some 0 := by
 simp [blank, h]
/-- the readers: the token with which a text begins, and how long it is; none: it is none -/
def nameT (l : Bs) : Option (Tok × Nat) :=
 if 32 < (l.takeWhile part).length then none
 else some (⟨if great (l.headD 0) then 2 else if (l.takeWhile part) ∈ words then 6 else 1, l.takeWhile part, 0, 0⟩, (l.takeWhile part).length)
def tickT (l : Bs) : Option (Tok × Nat) :=
 if (l.drop 1).takeWhile part = [] ∨ 32 < ((l.drop 1).takeWhile part).length ∨ small ((l.drop 1).headD 0) = false then none
 else some (⟨3, l.take (1 + ((l.drop 1).takeWhile part).length), 0, 0⟩, 1 + ((l.drop 1).takeWhile part).length)
theorem mk_head (x : Bs) (h : 0 < (mk x).size) : (mk x)[0] = x.headD 0 := by
 have h2 := mk_get x 0 h
 cases x with
 | nil => simp at h2
 | cons a r =>
  simp only [List.getElem?_cons_zero, Option.some.injEq] at h2
  simp [← h2]
/-- a number's digits, some being read; none: it is too great -/
def numF : Nat → Bs → Option Nat
 | acc, [] => some acc
 | acc, c :: r => if (4611686018427387903 - (c.toNat - 48)) / 10 < acc then none else numF (10 * acc + (c.toNat - 48)) r
def numT (l : Bs) : Option (Tok × Nat) := (numF 0 (l.takeWhile digit)).map fun v => (⟨4, [], v, 0⟩, (l.takeWhile digit).length)
theorem takeWhile_mem (p : UInt8 → Bool) : ∀ (l : Bs) (c : UInt8), c ∈ l.takeWhile p → p c = true
 | [], c, h => by simp at h
 | a :: r, c, h => by
  cases hp : p a
  ·
   simp [hp] at h
  ·
   simp [hp] at h
   rcases h with rfl | h
   ·
    exact hp
   ·
    exact takeWhile_mem p r c h
/-- the byte that stands behind a backslash, as what it is; none: it must not -/
def escaped (c : UInt8) : Option UInt8 := if c = 110 then some 10 else if c = 92 then some 92 else if c = 34 then some 34 else none
/-- a string's content, and how many bytes it has behind its first quote -/
def textF : Bs → Option (Bs × Nat)
 | [] => none
 | [c] => if c = 34 then some ([], 1) else none
 | c :: d :: r =>
  if c = 34 then some ([], 1)
  else if c.toNat < 32 ∨ 126 < c.toNat then none
  else if c = 92 then
   match escaped d with
   | none => none
   | some x => (textF r).map fun p => (x :: p.1, p.2 + 2)
  else (textF (d :: r)).map fun p => (c :: p.1, p.2 + 1)
def textT (l : Bs) : Option (Tok × Nat) := (textF (l.drop 1)).map fun p => (⟨5, p.1, 0, 0⟩, 1 + p.2)
theorem textF_nil : textF [] = none := by simp [textF]
theorem textF_quote (r : Bs) : textF (34 :: r) = some ([], 1) := by cases r <;> simp [textF]
theorem textF_bad (c : UInt8) (r : Bs) (h : c ≠ 34) (hb : c.toNat < 32 ∨ 126 < c.toNat) : textF (c :: r) = none := by cases r <;> simp [textF, h, hb]
theorem textF_slash_end : textF [92] = none := by simp [textF]
theorem textF_slash (d : UInt8) (r : Bs) : textF (92 :: d :: r) = match escaped d with
   | none => none
   | some x => (textF r).map fun p => (x :: p.1, p.2 + 2) := by
 rw [textF, if_neg (by decide), if_neg (by decide), if_pos rfl]
theorem textF_plain (c : UInt8) (r : Bs) (h : c ≠ 34) (hb : ¬ (c.toNat < 32 ∨ 126 < c.toNat)) (hs : c ≠ 92) : textF (c :: r) = (textF r).map fun p => (c :: p.1, p.2 + 1) := by
 cases r with
 | nil => simp [textF, h]
 | cons d r => rw [textF, if_neg h, if_neg hb, if_neg hs]
/-- what has been read, and what is left -/
def TxInv (l : Bs) (q : Nat) (done : Bs) : Prop := textF (l.drop 1) = (textF (l.drop q)).map fun p => (done ++ p.1, p.2 + (q - 1))
theorem txInv_one (l : Bs) : TxInv l 1 [] := by
 unfold TxInv
 cases textF (l.drop 1) <;> simp
theorem txInv_plain {l : Bs} {q : Nat} {done : Bs} {c : UInt8} (hi : TxInv l q done) (hq : 1 ≤ q) (hd : l.drop q = c :: l.drop (q + 1)) (h : c ≠ 34) (hb : ¬ (c.toNat < 32 ∨ 126 < c.toNat)) (hs : c ≠ 92) : TxInv l (q + 1) (done ++ [c]) := by
 unfold TxInv at hi ⊢
 rw [hi, hd, textF_plain c _ h hb hs]
 cases textF (l.drop (q + 1)) with
 | none => rfl
 | some p =>
  simp
  omega
theorem txInv_slash {l : Bs} {q : Nat} {done : Bs} {d x : UInt8} (hi : TxInv l q done) (hq : 1 ≤ q) (hd : l.drop q = 92 :: d :: l.drop (q + 2)) (he : escaped d = some x) : TxInv l (q + 2) (done ++ [x]) := by
 unfold TxInv at hi ⊢
 rw [hi, hd, textF_slash, he]
 cases textF (l.drop (q + 2)) with
 | none => rfl
 | some p =>
  simp
  omega
theorem drop_two {l : Bs} {q : Nat} {c : UInt8} (h : l[q]? = some c) : l.drop q = c :: l.drop (q + 1) := by
 obtain ⟨h1, h2⟩ := List.getElem?_eq_some_iff.1 h
 rw [List.drop_eq_getElem_cons h1, h2]
/-- the first sign with which a text begins -/
def signFrom (l : Bs) : List Bs → Option (Tok × Nat)
 | [] => none
 | x :: r => if x.isPrefixOf l then some (⟨7, x, 0, 0⟩, x.length) else signFrom l r
def signT (l : Bs) : Option (Tok × Nat) := signFrom l signs
def tokT (l : Bs) : Option (Tok × Nat) :=
 match l with
 | [] => none
 | c :: r => if small c || great c then nameT (c :: r) else if digit c then numT (c :: r) else if c = 39 then tickT (c :: r) else if c = 34 then textT (c :: r) else signT (c :: r)
/-- the tokens of a text; or where it has none -/
def scanF : Nat → Nat → Bs → Except Nat (List Tok)
 | 0, _, _ => .ok []
 | f + 1, pos, l =>
  match blank l with
  | none => .error pos
  | some (n + 1) => scanF f (pos + (n + 1)) (l.drop (n + 1))
  | some 0 =>
   match l with
   | [] => .ok []
   | _ => match tokT l with
    | none => .error pos
    | some (t, n) => (scanF f (pos + n) (l.drop n)).map ({ t with pos := pos } :: ·)
def scanL (pos : Nat) (l : Bs) : Except Nat (List Tok) := scanF (l.length + 1) pos l
theorem textF_le : ∀ (l : Bs) (o : Bs) (k : Nat), textF l = some (o, k) → 1 ≤ k ∧ k ≤ l.length
 | [], o, k, h => by simp [textF] at h
 | [c], o, k, h => by
  rw [textF] at h
  split at h
  ·
   simp only [Option.some.injEq, Prod.mk.injEq] at h
   simp [← h.2]
  ·
   cases h
 | c :: d :: r, o, k, h => by
  rw [textF] at h
  split at h
  ·
   simp only [Option.some.injEq, Prod.mk.injEq] at h
   simp [← h.2]
  ·
   split at h
   ·
    cases h
   ·
    split at h
    ·
     cases he : escaped d with
     | none => rw [he] at h; cases h
     | some x =>
      rw [he] at h
      obtain ⟨p, h1, h2⟩ := Option.map_eq_some_iff.1 h
      simp only [Prod.mk.injEq] at h2
      have := textF_le r p.1 p.2 h1
      simp only [List.length_cons]
      omega
    ·
     obtain ⟨p, h1, h2⟩ := Option.map_eq_some_iff.1 h
     simp only [Prod.mk.injEq] at h2
     have := textF_le (d :: r) p.1 p.2 h1
     simp only [List.length_cons] at this ⊢
     omega
theorem takeWhile_le (p : UInt8 → Bool) (l : Bs) : (l.takeWhile p).length ≤ l.length := (List.takeWhile_sublist p).length_le
theorem signFrom_le (l : Bs) : ∀ (ss : List Bs) (t : Tok) (k : Nat), (∀ x ∈ ss, x ≠ []) → signFrom l ss = some (t, k) → 1 ≤ k ∧ k ≤ l.length
 | [], t, k, _, h => by simp [signFrom] at h
 | x :: r, t, k, h0, h => by
  rw [signFrom] at h
  split at h
  ·
   rename_i hp
   simp only [Option.some.injEq, Prod.mk.injEq] at h
   have h1 := (List.isPrefixOf_iff_prefix.1 hp).length_le
   have h2 := List.length_pos_iff.2 (h0 x (by simp))
   omega
  ·
   exact signFrom_le l r t k (fun y hy => h0 y (by simp [hy])) h
theorem tokT_le {l : Bs} {t : Tok} {k : Nat} (h : tokT l = some (t, k)) : 1 ≤ k ∧ k ≤ l.length := by
 cases l with
 | nil => simp [tokT] at h
 | cons c r =>
  unfold tokT at h
  simp only at h
  split at h
  ·
   rename_i hc
   unfold nameT at h
   split at h
   ·
    cases h
   ·
    simp only [Option.some.injEq, Prod.mk.injEq] at h
    have h1 := takeWhile_le part (c :: r)
    have hp : part c = true := by
     unfold part
     rcases Bool.or_eq_true _ _ ▸ hc with h | h <;> simp [h]
    have h2 : 1 ≤ ((c :: r).takeWhile part).length := by simp [hp]
    omega
  ·
   split at h
   ·
    rename_i hd
    unfold numT at h
    obtain ⟨v, _, h2⟩ := Option.map_eq_some_iff.1 h
    simp only [Prod.mk.injEq] at h2
    have h1 := takeWhile_le digit (c :: r)
    have h3 : 1 ≤ ((c :: r).takeWhile digit).length := by simp [hd]
    omega
   ·
    split at h
    ·
     unfold tickT at h
     split at h
     ·
      cases h
     ·
      simp only [Option.some.injEq, Prod.mk.injEq] at h
      have h1 := takeWhile_le part ((c :: r).drop 1)
      simp only [List.length_drop, List.length_cons] at h1 ⊢
      omega
    ·
     split at h
     ·
      unfold textT at h
      obtain ⟨p, h1, h2⟩ := Option.map_eq_some_iff.1 h
      simp only [Prod.mk.injEq] at h2
      have := textF_le _ p.1 p.2 h1
      simp only [List.length_drop, List.length_cons] at this ⊢
      omega
     ·
      exact signFrom_le _ signs t k (by decide) h
theorem blank_le {l : Bs} {n : Nat} (hb : blank l = some n) : n ≤ l.length := by
 cases l with
 | nil => simp [blank] at hb; omega
 | cons c r =>
  cases ho : opens (c :: r)
  ·
   rw [blank_no ho] at hb
   split at hb <;> simp at hb <;> subst hb <;> simp
  ·
   rw [blank_cmt ho] at hb
   exact (cmt_le hb ho).2
theorem scanF_fuel : ∀ (f g : Nat) (pos : Nat) (l : Bs), l.length < f → l.length < g → scanF f pos l = scanF g pos l
 | 0, _, _, _, h, _ => by omega
 | _, 0, _, _, _, h => by omega
 | f + 1, g + 1, pos, l, hf, hg => by
  simp only [scanF]
  cases hb : blank l with
  | none => rfl
  | some n =>
   cases n with
   | succ n =>
    have h1 := blank_le hb
    exact scanF_fuel f g _ _ (by simp; omega) (by simp; omega)
   | zero =>
    cases l with
    | nil => rfl
    | cons c r =>
     simp only
     cases ht : tokT (c :: r) with
     | none => rfl
     | some p =>
      have h1 := tokT_le (show tokT (c :: r) = some (p.1, p.2) from ht)
      simp only
      rw [scanF_fuel f g _ _ (by simp only [List.length_drop, List.length_cons] at *; omega) (by simp only [List.length_drop, List.length_cons] at *; omega)]
theorem scanL_none {pos : Nat} {l : Bs} (hb : blank l = none) : scanL pos l = .error pos := by
 simp [scanL, scanF, hb]
theorem scanL_blank {pos : Nat} {l : Bs} {n : Nat} (hb : blank l = some (n + 1)) : scanL pos l = scanL (pos + (n + 1)) (l.drop (n + 1)) := by
 have h1 := blank_le hb
 cases l with
 | nil => simp [blank] at hb
 | cons c r =>
  have e : scanL pos (c :: r) = scanF (c :: r).length (pos + (n + 1)) ((c :: r).drop (n + 1)) := by
   show scanF ((c :: r).length + 1) pos (c :: r) = _
   conv => lhs; unfold scanF
   rw [hb]
  rw [e]
  exact scanF_fuel _ _ _ _ (by simp only [List.length_drop, List.length_cons] at *; omega) (by simp)
theorem scanL_nil (pos : Nat) : scanL pos [] = .ok [] := by simp [scanL, scanF, blank]
theorem scanL_no {pos : Nat} {l : Bs} (hb : blank l = some 0) (h0 : l ≠ []) (ht : tokT l = none) : scanL pos l = .error pos := by
 cases l with
 | nil => exact absurd rfl h0
 | cons c r => simp [scanL, scanF, hb, ht]
theorem scanL_tok {pos : Nat} {l : Bs} {t : Tok} {n : Nat} (hb : blank l = some 0) (ht : tokT l = some (t, n)) : scanL pos l = (scanL (pos + n) (l.drop n)).map ({ t with pos := pos } :: ·) := by
 cases l with
 | nil => simp [tokT] at ht
 | cons c r =>
  have h1 := tokT_le ht
  have e : scanL pos (c :: r) = (scanF (c :: r).length (pos + n) ((c :: r).drop n)).map ({ t with pos := pos } :: ·) := by
   show scanF ((c :: r).length + 1) pos (c :: r) = _
   conv => lhs; unfold scanF
   rw [hb]
   simp only [ht]
  rw [e, scanL]
  rw [scanF_fuel _ (((c :: r).drop n).length + 1) _ _ (by simp only [List.length_drop]; omega) (by omega)]
/-- what Scan answers -/
def scanR (l : Bs) : Except Nat (List Tok) := if 16384 < l.length then .error 16384 else scanL 0 l
/-- so far Scan has come -/
def ScInv (l : Bs) (q : Nat) (done : List Tok) : Prop := scanL 0 l = (scanL q (l.drop q)).map (done ++ ·)
theorem scInv_zero (l : Bs) : ScInv l 0 [] := by
 unfold ScInv
 rw [List.drop_zero]
 cases scanL 0 l <;> simp [Except.map]
theorem takeWhile_take (p : UInt8 → Bool) : ∀ (l : Bs), l.takeWhile p = l.take (l.takeWhile p).length
 | [] => rfl
 | a :: r => by
  cases hp : p a
  ·
   simp [hp]
  ·
   simp only [List.takeWhile_cons_of_pos hp, List.length_cons, List.take_succ_cons]
   rw [← takeWhile_take p r]
theorem takeWhile_next (p : UInt8 → Bool) : ∀ (l : Bs) (c : UInt8) (r : Bs), l.drop (l.takeWhile p).length = c :: r → p c = false
 | [], c, r, h => by simp at h
 | a :: s, c, r, h => by
  cases hp : p a
  ·
   simp only [List.takeWhile_cons, hp, Bool.false_eq_true, if_false, List.length_nil, List.drop_zero, List.cons.injEq] at h
   rw [← h.1, hp]
  ·
   rw [List.takeWhile_cons_of_pos hp] at h
   simp only [List.length_cons, List.drop_succ_cons] at h
   exact takeWhile_next p s c r h
theorem signs_two : ∀ y ∈ signs, y.length ≤ 2 ∧ ∀ a b, y = [a, b] → b ≠ 32 ∧ b ≠ 10 ∧ b ≠ 9 ∧ b ≠ 40 := by
 have h : ∀ y ∈ signs, y.length ≤ 2 ∧ y[1]? ≠ some 32 ∧ y[1]? ≠ some 10 ∧ y[1]? ≠ some 9 ∧ y[1]? ≠ some 40 := by decide
 intro y hy
 refine ⟨(h y hy).1, ?_⟩
 rintro a b rfl
 simpa using (h _ hy).2
theorem blank_zero_of {c : UInt8} {r : Bs} (hw : white c = false) (ho : opens (c :: r) = false) : blank (c :: r) = some 0 := by
 rw [blank_no ho, hw]
 rfl
def digitsL (n : Nat) : Bs := if n < 10 then [UInt8.ofNat (48 + n)] else digitsL (n / 10) ++ [UInt8.ofNat (48 + n % 10)]
def escL (l : Bs) : Bs := l.flatMap fun c => if c = 10 then [92, 110] else if c = 34 ∨ c = 92 then [92, c] else [c]
/-- a token, as it is written -/
def wr (t : Tok) : Bs := if t.kind = 4 then digitsL t.num else if t.kind = 5 then 34 :: (escL t.text ++ [34]) else t.text
end Go.Proofs.YtjabhmepafofmaaGreatDoor.Sc
