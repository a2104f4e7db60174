/- Patterns in plain Lean: what infos tell, heads, which patterns may be. -/
import Derived.Test.YthjecikdkdjlaaaBase
namespace Go.Proofs.Ythjecikdkdjlaaa

mutual
def parts : T → Nat
  | .mk _ _ _ l => 1 + partsL l
def partsL : List T → Nat
  | [] => 0
  | t :: r => parts t + partsL r
end
theorem parts_pos (t : T) : 1 ≤ parts t := by
  cases t
  simp only [parts]
  omega
theorem partsL_len : ∀ l : List T, l.length ≤ partsL l
  | [] => Nat.le_refl _
  | t :: r => by
    have h1 := partsL_len r
    have h2 := parts_pos t
    simp only [List.length_cons, partsL]
    omega
theorem parts_kid : ∀ (l : List T) (j : Nat) (t : T), l[j]? = some t → parts t ≤ partsL l
  | [], j, t, h => by simp at h
  | x :: r, 0, t, h => by
    simp only [List.getElem?_cons_zero, Option.some.injEq] at h
    subst h
    simp only [partsL]
    omega
  | x :: r, j + 1, t, h => by
    have := parts_kid r j t (by simpa using h)
    simp only [partsL]
    omega
theorem partsL_append : ∀ l m : List T, partsL (l ++ m) = partsL l + partsL m
  | [], m => by simp [partsL]
  | t :: r, m => by
    simp only [List.cons_append, partsL, partsL_append r m]
    omega
/-- what is told of a constructor -/
structure Inf where
  name : ByteArray
  of : ByteArray
  place : Int
  many : Int
  has : Bool
def zInf : Inf := ⟨⟨#[]⟩, ⟨#[]⟩, 0, 0, false⟩
def findI (is : List Inf) (s : ByteArray) : Option Inf := is.find? (fun x => decide (x.name = s))
def infoOf (is : List Inf) (s : ByteArray) : Inf := (findI is s).getD zInf
def isWild (p : T) : Bool := decide (p.kind = 1) || decide (p.kind = 2)
/-- what a pattern begins with -/
structure Hd where
  kind : Nat
  num : Int
  many : Int
  name : ByteArray
  of : ByteArray
  deriving DecidableEq
def hdOf (is : List Inf) (p : T) : Hd :=
  ⟨p.kind, if p.kind = 3 then p.num else 0, if p.kind = 5 then p.kids.length else 0, if p.kind = 6 then p.name else ⟨#[]⟩, if p.kind = 6 then (infoOf is p.name).of else ⟨#[]⟩⟩
def Hd.sort (h : Hd) : Hd := ⟨h.kind, 0, h.many, ⟨#[]⟩, h.of⟩
mutual
/-- is a constructor among them told by no info? -/
def unkT (is : List Inf) : T → Bool
  | .mk k s _ r => (decide (k = 6) && (findI is s).isNone) || unkL is r
def unkL (is : List Inf) : List T → Bool
  | [] => false
  | t :: r => unkT is t || unkL is r
end
theorem unkL_any (is : List Inf) : ∀ l : List T, unkL is l = l.any (unkT is)
  | [] => rfl
  | t :: r => by simp [unkL, unkL_any is r]
/-- has a pattern what its kind must have? -/
def rightP (is : List Inf) (p : T) : Bool :=
  if p.kind = 1 ∨ p.kind = 2 ∨ p.kind = 3 ∨ p.kind = 4 then decide (p.kids.length = 0)
  else if p.kind = 5 then decide (2 ≤ p.kids.length)
  else if p.kind = 6 then (decide (p.kids.length = 0) && !(infoOf is p.name).has) || (decide (p.kids.length = 1) && (infoOf is p.name).has)
  else false
def anyP : T := .mk 1 ⟨#[]⟩ 0 []
/-- a row gone into by a head: none: it has another one -/
def into (is : List Inf) (q : T) : List T → Option (List T)
  | [] => none
  | p :: r => if isWild p then some (List.replicate q.kids.length anyP ++ r) else if hdOf is p = hdOf is q then some (p.kids ++ r) else none
def allInto (is : List Inf) (q : T) (rs : List (List T)) : List (List T) := rs.filterMap (into is q)
/-- patterns looked at first, one for each head -/
def firstsA (is : List Inf) : List (List T) → List T → List T
  | [], acc => acc
  | r :: rs, acc => match r with
    | [] => firstsA is rs acc
    | p :: _ => if isWild p || acc.any (fun q => decide (hdOf is q = hdOf is p)) then firstsA is rs acc else firstsA is rs (acc ++ [p])
def firsts (is : List Inf) (rs : List (List T)) : List T := firstsA is rs []
def exn : ByteArray := ⟨#[101, 120, 110]⟩
def whole (is : List Inf) (l : List T) : Bool := match l with
  | [] => false
  | p :: _ => if p.kind = 4 ∨ p.kind = 5 then true
    else if p.kind = 6 then !decide ((infoOf is p.name).of = exn) && !(is.any fun x => decide (x.of = (infoOf is p.name).of) && !(l.any fun q => decide (q.name = x.name)))
    else false
def restRows (rs : List (List T)) : List (List T) := rs.filterMap fun r => match r with
  | [] => none
  | p :: r => if isWild p then some r else none
def anyO (g : T → Option Bool) : List T → Option Bool
  | [] => some false
  | t :: r => match g t with
    | some true => some true
    | some false => anyO g r
    | none => none
/-- is a row of use behind some? rows of patterns, the one looked at first ahead -/
def use (is : List Inf) : Nat → List (List T) → List T → Option Bool
  | 0, _, _ => none
  | _ + 1, rows, [] => some rows.isEmpty
  | F + 1, rows, p :: r =>
    if isWild p then
      (if whole is (firsts is rows) then anyO (fun q => use is F (allInto is q rows) (List.replicate q.kids.length anyP ++ r)) (firsts is rows)
      else use is F (restRows rows) r)
    else use is F (allInto is p rows) (p.kids ++ r)
end Go.Proofs.Ythjecikdkdjlaaa
