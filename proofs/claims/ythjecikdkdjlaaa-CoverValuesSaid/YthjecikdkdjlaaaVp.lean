/- What rows of patterns take, and what is told of them. Plain. -/
import Derived.Test.YthjecikdkdjlaaaPs
import Derived.Test.YthjecikdkdjlaaaWw
namespace Go.Proofs.Ythjecikdkdjlaaa
open Go.RowKit

/-- a value -/
inductive V where
  | mk (name : ByteArray) (num : Int) (kids : List V)
namespace V
def name : V → ByteArray | .mk s _ _ => s
def num : V → Int | .mk _ n _ => n
def kids : V → List V | .mk _ _ l => l
end V
mutual
/-- does a pattern take a value? -/
def tk : T → V → Bool
  | .mk k s n l, v => if k = 1 ∨ k = 2 then true else if k = 3 then decide (v.name = ⟨#[]⟩) && decide (n = v.num)
    else if k = 6 then decide (s = v.name) && (decide (l.length = v.kids.length) && tkL l v.kids)
    else if k = 5 then decide (l.length = v.kids.length) && tkL l v.kids
    else false
def tkL : List T → List V → Bool
  | [], _ => true
  | p :: r, vs => match vs with
    | [] => false
    | v :: vs => tk p v && tkL r vs
end
def sNone : ByteArray := ⟨#[78, 111, 110, 101]⟩
def sSome : ByteArray := ⟨#[83, 111, 109, 101]⟩
def sE : ByteArray := ⟨#[69]⟩
def sF : ByteArray := ⟨#[70]⟩
def sAnother : ByteArray := ⟨#[97, 110, 111, 116, 104, 101, 114]⟩
def sX : ByteArray := ⟨#[120]⟩
inductive Ty0 where
  | b | n | o | e
  deriving DecidableEq
inductive Ty where
  | s (x : Ty0)
  | t (l : List Ty0)
def nameV (s : ByteArray) : V := .mk s 0 []
def numV (n : Int) : V := .mk ⟨#[]⟩ n []
def vals0 : Ty0 → List V
  | .b => [nameV sFalse, nameV sTrue]
  | .n => [numV 0, numV 1, numV 2, numV 99]
  | .o => [nameV sNone, .mk sSome 0 [nameV sFalse], .mk sSome 0 [nameV sTrue]]
  | .e => [nameV sE, nameV sF, nameV sAnother]
def varX : T := .mk 2 sX 0 []
def numP (n : Int) : T := .mk 3 ⟨#[]⟩ n []
def pats0 : Ty0 → List T
  | .b => [anyP, varX, conP sFalse [], conP sTrue [], conP sTrue []]
  | .n => [anyP, varX, numP 0, numP 1, numP 2]
  | .o => [anyP, conP sNone [], conP sSome [varX], conP sSome [conP sTrue []], conP sSome [conP sFalse []]]
  | .e => [anyP, varX, conP sE [], conP sF [], conP sF []]
def vl0 : List Ty0 → List V → Prop
  | [], [] => True
  | x :: xs, v :: vs => v ∈ vals0 x ∧ vl0 xs vs
  | _, _ => False
def pl0 : List Ty0 → List T → Prop
  | [], [] => True
  | x :: xs, v :: vs => v ∈ pats0 x ∧ pl0 xs vs
  | _, _ => False
def tupV (l : List V) : V := .mk ⟨#[]⟩ 0 l
def tupP (l : List T) : T := .mk 5 ⟨#[]⟩ 0 l
def isV : Ty → V → Prop
  | .s x, v => v ∈ vals0 x
  | .t l, v => ∃ ks, v = tupV ks ∧ vl0 l ks
def isP : Ty → T → Prop
  | .s x, p => p ∈ pats0 x
  | .t l, p => p = anyP ∨ ∃ ks, p = tupP ks ∧ pl0 l ks
def vl : List Ty → List V → Prop
  | [], [] => True
  | x :: xs, v :: vs => isV x v ∧ vl xs vs
  | _, _ => False
def pl : List Ty → List T → Prop
  | [], [] => True
  | x :: xs, v :: vs => isP x v ∧ pl xs vs
  | _, _ => False
theorem vl_map : ∀ (l : List Ty0) (vs : List V), vl (l.map Ty.s) vs ↔ vl0 l vs
  | [], [] => Iff.rfl
  | [], _ :: _ => Iff.rfl
  | _ :: _, [] => Iff.rfl
  | x :: xs, v :: vs => by simp only [List.map_cons, vl, vl0, isV, vl_map xs vs]
theorem pl_map : ∀ (l : List Ty0) (vs : List T), pl (l.map Ty.s) vs ↔ pl0 l vs
  | [], [] => Iff.rfl
  | [], _ :: _ => Iff.rfl
  | _ :: _, [] => Iff.rfl
  | x :: xs, v :: vs => by simp only [List.map_cons, pl, pl0, isP, pl_map xs vs]
theorem vl_len : ∀ {ts : List Ty} {vs : List V}, vl ts vs → vs.length = ts.length
  | [], [], _ => rfl
  | [], _ :: _, h => h.elim
  | _ :: _, [], h => h.elim
  | x :: xs, v :: vs, h => by simp [vl_len h.2]
theorem pl_len : ∀ {ts : List Ty} {vs : List T}, pl ts vs → vs.length = ts.length
  | [], [], _ => rfl
  | [], _ :: _, h => h.elim
  | _ :: _, [], h => h.elim
  | x :: xs, v :: vs, h => by simp [pl_len h.2]
theorem vl_append : ∀ {ts us : List Ty} {vs ws : List V}, vl ts vs → vl us ws → vl (ts ++ us) (vs ++ ws)
  | [], _, [], _, _, h => h
  | [], _, _ :: _, _, h, _ => h.elim
  | _ :: _, _, [], _, h, _ => h.elim
  | _ :: _, _, _ :: _, _, h, k => ⟨h.1, vl_append h.2 k⟩
theorem pl_append : ∀ {ts us : List Ty} {vs ws : List T}, pl ts vs → pl us ws → pl (ts ++ us) (vs ++ ws)
  | [], _, [], _, _, h => h
  | [], _, _ :: _, _, h, _ => h.elim
  | _ :: _, _, [], _, h, _ => h.elim
  | _ :: _, _, _ :: _, _, h, k => ⟨h.1, pl_append h.2 k⟩
theorem vl_split : ∀ {ts us : List Ty} {xs : List V}, vl (ts ++ us) xs → ∃ vs ws, xs = vs ++ ws ∧ vl ts vs ∧ vl us ws
  | [], _, xs, h => ⟨[], xs, rfl, trivial, h⟩
  | _ :: _, _, [], h => h.elim
  | _ :: ts, _, v :: xs, h => by
    obtain ⟨vs, ws, rfl, h1, h2⟩ := vl_split (ts := ts) h.2
    exact ⟨v :: vs, ws, rfl, ⟨h.1, h1⟩, h2⟩
theorem tkL_append : ∀ (l m : List T) (vs ws : List V), l.length = vs.length → tkL (l ++ m) (vs ++ ws) = (tkL l vs && tkL m ws)
  | [], m, [], ws, _ => by simp [tkL]
  | [], m, _ :: _, ws, h => by simp at h
  | _ :: _, m, [], ws, h => by simp at h
  | p :: l, m, v :: vs, ws, h => by
    simp only [List.cons_append, tkL, tkL_append l m vs ws (by simpa using h), Bool.and_assoc]
theorem tk_wild {p : T} (h : isWild p = true) (v : V) : tk p v = true := by
  obtain ⟨k, s, n, l⟩ := p
  have h2 : k = 1 ∨ k = 2 := wild_kind.1 h
  simp only [tk, if_pos h2]
theorem tkL_any : ∀ vs : List V, tkL (List.replicate vs.length anyP) vs = true
  | [] => rfl
  | v :: vs => by simp only [List.length_cons, List.replicate_succ, tkL, tk_wild anyP_wild, tkL_any vs, Bool.and_self]
/-- has a value a pattern's head? -/
def hm (p : T) (v : V) : Bool := if p.kind = 3 then decide (v.name = ⟨#[]⟩) && decide (p.num = v.num) else if p.kind = 6 then decide (p.name = v.name) else true
/-- the types of what is in a pattern -/
def kt : Ty → T → List Ty
  | .s _, p => if p.kind = 6 ∧ p.name = sSome then [.s .b] else []
  | .t l, _ => l.map Ty.s
theorem pats0_kids : ∀ x : Ty0, ∀ p ∈ pats0 x, isWild p = false → pl (kt (.s x) p) p.kids := by
  intro x p hp hw
  cases x <;> simp only [pats0, List.mem_cons, List.not_mem_nil, or_false] at hp <;> rcases hp with rfl | rfl | rfl | rfl | rfl <;>
    first
    | (rw [show isWild _ = true from rfl] at hw; cases hw; done)
    | (exact trivial)
    | (show isP (.s .b) _ ∧ True; refine ⟨?_, trivial⟩; simp [isP, pats0])
theorem isP_kids {t : Ty} {p : T} (h : isP t p) (hw : isWild p = false) : pl (kt t p) p.kids := by
  cases t with
  | s x => exact pats0_kids x p h hw
  | t l =>
    rcases h with rfl | ⟨ks, rfl, h⟩
    · rw [anyP_wild] at hw; cases hw
    · exact (pl_map l ks).2 h
theorem isP_any (t : Ty) : isP t anyP := by
  cases t with
  | s x => cases x <;> simp [isP, pats0]
  | t l => exact .inl rfl
theorem pl_any : ∀ ts : List Ty, pl ts (List.replicate ts.length anyP)
  | [] => trivial
  | t :: ts => by
    rw [List.length_cons, List.replicate_succ]
    exact ⟨isP_any t, pl_any ts⟩
/-- values of a pattern's head have what is in it -/
theorem isV_kids {t : Ty} {p : T} {v : V} (hp : isP t p) (hw : isWild p = false) (hv : isV t v) (hm : hm p v = true) : vl (kt t p) v.kids := by
  cases t with
  | t l =>
    obtain ⟨ks, rfl, h⟩ := hv
    exact (vl_map l ks).2 h
  | s x =>
    simp only [isP] at hp
    simp only [isV] at hv
    cases x <;> simp only [pats0, vals0, List.mem_cons, List.not_mem_nil, or_false] at hp hv <;> rcases hp with rfl | rfl | rfl | rfl | rfl <;>
      first
      | (rw [show isWild _ = true from rfl] at hw; cases hw; done)
      | (rcases hv with rfl | rfl | rfl | rfl <;> first | (exact trivial) | (exact absurd hm (by decide)) | (refine ⟨?_, trivial⟩; simp [isV, vals0]))
      | (rcases hv with rfl | rfl | rfl <;> first | (exact trivial) | (exact absurd hm (by decide)) | (refine ⟨?_, trivial⟩; simp [isV, vals0]))
      | (rcases hv with rfl | rfl <;> first | (exact trivial) | (exact absurd hm (by decide)) | (refine ⟨?_, trivial⟩; simp [isV, vals0]))
/-- a pattern takes values of its head, what is in it what is in them -/
theorem tk_not {t : Ty} {p : T} {v : V} (hp : isP t p) (hw : isWild p = false) (hv : isV t v) : tk p v = (hm p v && tkL p.kids v.kids) := by
  have key : ∀ k s n l, p = .mk k s n l → (k = 3 ∧ l = []) ∨ k = 6 ∨ k = 5 := by
    intro k s n l e
    subst e
    cases t with
    | t l' =>
      rcases hp with e | ⟨ks, e, _⟩
      · cases e; rw [show isWild _ = true from rfl] at hw; cases hw
      · cases e; exact .inr (.inr rfl)
    | s x =>
      simp only [isP] at hp
      cases x <;> simp only [pats0, List.mem_cons, List.not_mem_nil, or_false] at hp <;> rcases hp with e | e | e | e | e <;> cases e <;>
        first
        | (rw [show isWild _ = true from rfl] at hw; cases hw; done)
        | (exact .inl ⟨rfl, rfl⟩)
        | (exact .inr (.inl rfl))
  have hlen : hm p v = true → p.kids.length = v.kids.length := fun h => by rw [pl_len (isP_kids hp hw), vl_len (isV_kids hp hw hv h)]
  obtain ⟨k, s, n, l⟩ := p
  rcases key k s n l rfl with ⟨rfl, rfl⟩ | rfl | rfl
  · have e1 : hm (.mk 3 s n []) v = (decide (v.name = ⟨#[]⟩) && decide (n = v.num)) := rfl
    have e2 : tk (.mk 3 s n []) v = (decide (v.name = ⟨#[]⟩) && decide (n = v.num)) := by
      rw [tk, if_neg (by decide), if_pos rfl]
    rw [e1, e2]
    exact (Bool.and_true _).symm
  · cases h : hm (.mk 6 s n l) v with
    | true =>
      have h1 : s = v.name := of_decide_eq_true (h : decide (s = v.name) = true)
      have h2 : l.length = v.kids.length := hlen h
      simp [tk, h1, h2, T.kids]
    | false =>
      have h1 : ¬ s = v.name := of_decide_eq_false (h : decide (s = v.name) = false)
      simp [tk, h1]
  · have h2 : l.length = v.kids.length := hlen rfl
    simp [tk, h2, T.kids, hm, T.kind]
theorem hd_tup {l : List Ty0} {p : T} (h : isP (.t l) p) (hw : isWild p = false) : hdOf infos18 p = ⟨5, 0, (l.length : Int), ⟨#[]⟩, ⟨#[]⟩⟩ := by
  rcases h with rfl | ⟨ks, rfl, h⟩
  · rw [anyP_wild] at hw; cases hw
  · have := pl_len ((pl_map l ks).2 h)
    rw [List.length_map] at this
    simp only [hdOf, tupP, T.kind, T.num, T.kids, T.name, this]
    rfl
theorem hd_hm0 : ∀ x : Ty0, ∀ p ∈ pats0 x, ∀ q ∈ pats0 x, isWild p = false → isWild q = false → hdOf infos18 p = hdOf infos18 q → (∀ v ∈ vals0 x, hm p v = hm q v) ∧ (p.kind = 6 ∧ p.name = sSome ↔ q.kind = 6 ∧ q.name = sSome) := by
  intro x
  cases x <;> decide
theorem hm_hd0 : ∀ x : Ty0, ∀ p ∈ pats0 x, ∀ q ∈ pats0 x, isWild p = false → isWild q = false → ∀ v ∈ vals0 x, hm p v = true → hm q v = true → hdOf infos18 p = hdOf infos18 q := by
  intro x
  cases x <;> decide
theorem hd_hm {t : Ty} {p q : T} (hp : isP t p) (hq : isP t q) (wp : isWild p = false) (wq : isWild q = false) (h : hdOf infos18 p = hdOf infos18 q) : (∀ v, isV t v → hm p v = hm q v) ∧ kt t p = kt t q := by
  cases t with
  | s x =>
    obtain ⟨h1, h2⟩ := hd_hm0 x p hp q hq wp wq h
    refine ⟨h1, ?_⟩
    simp only [kt]
    by_cases h3 : p.kind = 6 ∧ p.name = sSome
    · rw [if_pos h3, if_pos (h2.1 h3)]
    · rw [if_neg h3, if_neg (fun h4 => h3 (h2.2 h4))]
  | t l =>
    refine ⟨fun v _ => ?_, rfl⟩
    rcases hp with rfl | ⟨ks, rfl, _⟩
    · rw [anyP_wild] at wp; cases wp
    rcases hq with rfl | ⟨ks, rfl, _⟩
    · rw [anyP_wild] at wq; cases wq
    · rfl
theorem hm_hd {t : Ty} {p q : T} {v : V} (hp : isP t p) (hq : isP t q) (wp : isWild p = false) (wq : isWild q = false) (hv : isV t v) (h : hm p v = true) (k : hm q v = true) : hdOf infos18 p = hdOf infos18 q := by
  cases t with
  | s x => exact hm_hd0 x p hp q hq wp wq v hv h k
  | t l => rw [hd_tup hp wp, hd_tup hq wq]
theorem has_val0 : ∀ x : Ty0, ∃ v, v ∈ vals0 x := fun x => by cases x <;> exact ⟨_, List.mem_cons_self ..⟩
theorem has_vals : ∀ l : List Ty0, ∃ vs, vl0 l vs
  | [] => ⟨[], trivial⟩
  | x :: l => by
    obtain ⟨v, hv⟩ := has_val0 x
    obtain ⟨vs, h⟩ := has_vals l
    exact ⟨v :: vs, hv, h⟩
theorem has_val (t : Ty) : ∃ v, isV t v := by
  cases t with
  | s x => exact has_val0 x
  | t l =>
    obtain ⟨vs, h⟩ := has_vals l
    exact ⟨_, vs, rfl, h⟩
theorem some_val {b : V} (h : b ∈ vals0 .b) : V.mk sSome 0 [b] ∈ vals0 .o := by
  simp only [vals0, List.mem_cons, List.not_mem_nil, or_false] at h
  rcases h with rfl | rfl <;> simp [vals0]
/-- of each head there is a value, with what there is in it -/
theorem has_head {t : Ty} {p : T} {ks : List V} (hp : isP t p) (hw : isWild p = false) (hk : vl (kt t p) ks) : ∃ v, isV t v ∧ hm p v = true ∧ v.kids = ks := by
  cases t with
  | t l =>
    refine ⟨tupV ks, ⟨ks, rfl, (vl_map l ks).1 hk⟩, ?_, rfl⟩
    rcases hp with rfl | ⟨_, rfl, _⟩
    · rw [anyP_wild] at hw; cases hw
    · rfl
  | s x =>
    simp only [isP] at hp
    simp only [kt] at hk
    have one_ : ∀ {c : Prop} [Decidable c] {ks : List V}, vl (if c then [Ty.s .b] else []) ks → c → ∃ b, ks = [b] ∧ b ∈ vals0 .b := by
      intro c _ ks h h2
      rw [if_pos h2] at h
      cases ks with
      | nil => exact h.elim
      | cons b r =>
        cases r with
        | nil => exact ⟨b, rfl, h.1⟩
        | cons _ _ => exact h.2.elim
    have none_ : ∀ {c : Prop} [Decidable c] {ks : List V}, vl (if c then [Ty.s .b] else []) ks → ¬ c → ks = [] := by
      intro c _ ks h h2
      rw [if_neg h2] at h
      cases ks with
      | nil => rfl
      | cons _ _ => exact h.elim
    cases x <;> simp only [pats0, List.mem_cons, List.not_mem_nil, or_false] at hp <;> rcases hp with rfl | rfl | rfl | rfl | rfl <;>
      first
      | (rw [show isWild _ = true from rfl] at hw; cases hw; done)
      | (obtain ⟨b, rfl, hb⟩ := one_ hk (by decide); exact ⟨V.mk sSome 0 [b], some_val hb, rfl, rfl⟩)
      | (obtain rfl := none_ hk (by decide)
         first
            | exact ⟨nameV sFalse, by simp [isV, vals0], by decide, rfl⟩
            | exact ⟨nameV sTrue, by simp [isV, vals0], by decide, rfl⟩
            | exact ⟨numV 0, by simp [isV, vals0], by decide, rfl⟩
            | exact ⟨numV 1, by simp [isV, vals0], by decide, rfl⟩
            | exact ⟨numV 2, by simp [isV, vals0], by decide, rfl⟩
            | exact ⟨nameV sNone, by simp [isV, vals0], by decide, rfl⟩
            | exact ⟨nameV sE, by simp [isV, vals0], by decide, rfl⟩
            | exact ⟨nameV sF, by simp [isV, vals0], by decide, rfl⟩)
theorem con0 : ∀ x : Ty0, x = .b ∨ x = .o → ∀ p ∈ pats0 x, isWild p = false → p.kind = 6 ∧ (∀ v ∈ vals0 x, ∃ i ∈ infos18, i.of = (infoOf infos18 p.name).of ∧ i.name = v.name) ∧ (∀ i ∈ infos18, i.of = (infoOf infos18 p.name).of → ∃ v ∈ vals0 x, v.name = i.name) := by
  intro x hx
  rcases hx with rfl | rfl <;> decide
theorem ne_exn0 : ∀ x : Ty0, x = .b ∨ x = .o → ∀ p ∈ pats0 x, isWild p = false → (infoOf infos18 p.name).of ≠ exn := by
  intro x hx
  rcases hx with rfl | rfl <;> decide
theorem kinds0 : ∀ x : Ty0, x = .n ∨ x = .e → ∀ p ∈ pats0 x, isWild p = false → (p.kind = 3 ∨ p.kind = 6 ∧ (infoOf infos18 p.name).of = exn) ∧ ∃ v ∈ vals0 x, (v.name = sAnother ∨ v.num = 99) ∧ hm p v = false := by
  intro x hx
  rcases hx with rfl | rfl <;> decide
theorem hm_con {q : T} {v : V} (h : q.kind = 6) : hm q v = decide (q.name = v.name) := by simp [hm, h]
/-- where patterns have all heads, each value has one of them -/
theorem whole_vals {t : Ty} {l : List T} (hl : ∀ q ∈ l, isP t q ∧ isWild q = false) (h : whole infos18 l = true) {v : V} (hv : isV t v) : ∃ q ∈ l, hm q v = true := by
  cases l with
  | nil => cases h
  | cons p l =>
    rw [whole_cons] at h
    obtain ⟨hp, wp⟩ := hl p (List.mem_cons_self ..)
    cases t with
    | t ts =>
      refine ⟨p, List.mem_cons_self .., ?_⟩
      rcases hp with rfl | ⟨ks, rfl, _⟩
      · rw [anyP_wild] at wp; cases wp
      · rfl
    | s x =>
      by_cases hx : x = .b ∨ x = .o
      · obtain ⟨h6, h1, _⟩ := con0 x hx p hp wp
        rcases h with h | ⟨_, _, h3⟩
        · rw [h6] at h; rcases h with h | h <;> cases h
        obtain ⟨i, hi, h4, h5⟩ := h1 v hv
        obtain ⟨q, hq, h7⟩ := h3 i hi h4
        obtain ⟨hq1, wq⟩ := hl q hq
        obtain ⟨q6, _, _⟩ := con0 x hx q hq1 wq
        exact ⟨q, hq, by rw [hm_con q6, h7, h5]; simp⟩
      · have hx2 : x = .n ∨ x = .e := by cases x <;> simp at hx ⊢
        obtain ⟨h1, _⟩ := kinds0 x hx2 p hp wp
        rcases h with h | ⟨h6, h7, _⟩
        · rcases h1 with h1 | ⟨h1, _⟩ <;> rw [h1] at h <;> rcases h with h | h <;> cases h
        · rcases h1 with h1 | ⟨_, h1⟩
          · rw [h1] at h6; cases h6
          · exact absurd h1 h7
theorem other0 : ∀ x : Ty0, x = .n ∨ x = .e → ∃ v ∈ vals0 x, ∀ p ∈ pats0 x, isWild p = false → hm p v = false := by
  intro x hx
  rcases hx with rfl | rfl
  · exact ⟨numV 99, by simp [vals0], by decide⟩
  · exact ⟨nameV sAnother, by simp [vals0], by decide⟩
/-- where they have not, some value has none of them -/
theorem not_whole {t : Ty} {l : List T} (hl : ∀ q ∈ l, isP t q ∧ isWild q = false) (h : whole infos18 l = false) : ∃ v, isV t v ∧ ∀ q ∈ l, hm q v = false := by
  cases l with
  | nil =>
    obtain ⟨v, hv⟩ := has_val t
    exact ⟨v, hv, fun q hq => by cases hq⟩
  | cons p l =>
    have h : ¬ (whole infos18 (p :: l) = true) := by rw [h]; exact Bool.false_ne_true
    rw [whole_cons] at h
    obtain ⟨hp, wp⟩ := hl p (List.mem_cons_self ..)
    cases t with
    | t ts =>
      refine absurd (.inl (.inr ?_)) h
      rcases hp with rfl | ⟨ks, rfl, _⟩
      · rw [anyP_wild] at wp; cases wp
      · rfl
    | s x =>
      by_cases hx : x = .b ∨ x = .o
      · obtain ⟨h6, _, h2⟩ := con0 x hx p hp wp
        have h3 : ¬ ∀ i ∈ infos18, i.of = (infoOf infos18 p.name).of → ∃ q ∈ p :: l, q.name = i.name := fun h3 => h (.inr ⟨h6, ne_exn0 x hx p hp wp, h3⟩)
        obtain ⟨i, hi⟩ := Classical.not_forall.1 h3
        obtain ⟨hi1, h4⟩ := Classical.not_imp.1 hi
        obtain ⟨hi2, h5⟩ := Classical.not_imp.1 h4
        obtain ⟨v, hv, e⟩ := h2 i hi1 hi2
        refine ⟨v, hv, fun q hq => ?_⟩
        obtain ⟨hq1, wq⟩ := hl q hq
        obtain ⟨q6, _, _⟩ := con0 x hx q hq1 wq
        rw [hm_con q6, e]
        exact decide_eq_false fun e2 => h5 ⟨q, hq, e2⟩
      · have hx2 : x = .n ∨ x = .e := by cases x <;> simp at hx ⊢
        obtain ⟨v, hv, h1⟩ := other0 x hx2
        exact ⟨v, hv, fun q hq => h1 q (hl q hq).1 (hl q hq).2⟩
/-- what goes into a head takes what is in values of that head -/
theorem tk_into {t : Ty} {ts : List Ty} {q p : T} {r : List T} {v : V} {vs : List V} (hq : isP t q) (wq : isWild q = false) (hp : isP t p) (hv : isV t v) (hvs : vl ts vs) (h : hm q v = true) :
    tkL (p :: r) (v :: vs) = match into infos18 q (p :: r) with
      | none => false
      | some x => tkL x (v.kids ++ vs) := by
  have hk := isV_kids hq wq hv h
  simp only [into, tkL]
  cases wp : isWild p with
  | true =>
    simp only [if_true, tk_wild wp, Bool.true_and]
    have hl : q.kids.length = v.kids.length := by rw [pl_len (isP_kids hq wq), vl_len hk]
    rw [tkL_append _ _ _ _ (by rw [List.length_replicate, hl]), hl, tkL_any]
    rfl
  | false =>
    simp only [Bool.false_eq_true, if_false, tk_not hp wp hv]
    by_cases e : hdOf infos18 p = hdOf infos18 q
    · rw [if_pos e]
      obtain ⟨h1, h2⟩ := hd_hm hp hq wp wq e
      have h3 := pl_len (isP_kids hp wp)
      rw [h1 v hv, h, Bool.true_and]
      show _ = tkL (p.kids ++ r) (v.kids ++ vs)
      rw [tkL_append _ _ _ _ (by rw [h3, h2, vl_len hk])]
    · rw [if_neg e]
      cases h1 : hm p v with
      | false => rfl
      | true => exact absurd (hm_hd hp hq wp wq hv h1 h) e
theorem pl_into {t : Ty} {ts : List Ty} {q : T} {r x : List T} (hq : isP t q) (wq : isWild q = false) (hr : pl (t :: ts) r) (h : into infos18 q r = some x) : pl (kt t q ++ ts) x := by
  cases r with
  | nil => cases h
  | cons p r =>
    obtain ⟨hp, hr⟩ := hr
    simp only [into] at h
    split at h
    · cases h
      refine pl_append ?_ hr
      rw [pl_len (isP_kids hq wq)]
      exact pl_any _
    · rename_i wp
      split at h
      · rename_i e
        cases h
        have wp : isWild p = false := by simpa using wp
        refine pl_append ?_ hr
        rw [← (hd_hm hp hq wp wq e).2]
        exact isP_kids hp wp
      · cases h
def free (rows : List (List T)) (vs : List V) : Prop := ∀ r ∈ rows, tkL r vs = false
theorem free_into {t : Ty} {ts : List Ty} {q : T} {rows : List (List T)} {v : V} {vs : List V} (hq : isP t q) (wq : isWild q = false) (hrows : ∀ r ∈ rows, pl (t :: ts) r) (hv : isV t v) (hvs : vl ts vs) (h : hm q v = true) :
    free rows (v :: vs) ↔ free (allInto infos18 q rows) (v.kids ++ vs) := by
  constructor
  · intro hf x hx
    obtain ⟨r, hr, hi⟩ := mem_allInto.1 hx
    have h1 := hf r hr
    have h2 := hrows r hr
    cases r with
    | nil => exact h2.elim
    | cons p r =>
      rw [tk_into hq wq h2.1 hv hvs h, hi] at h1
      exact h1
  · intro hf r hr
    have h2 := hrows r hr
    cases r with
    | nil => exact h2.elim
    | cons p r =>
      rw [tk_into hq wq h2.1 hv hvs h]
      cases hi : into infos18 q (p :: r) with
      | none => rfl
      | some x => exact hf x (mem_allInto.2 ⟨_, hr, hi⟩)
/-- a row is of use just if it takes some values that none of the rows takes -/
theorem use_sem : ∀ (F : Nat) (ts : List Ty) (rows : List (List T)) (row : List T), phi rows row < F → pl ts row → (∀ r ∈ rows, pl ts r) →
    (useW infos18 rows row = true ↔ ∃ vs, vl ts vs ∧ tkL row vs = true ∧ free rows vs)
  | 0, _, _, _, h, _, _ => absurd h (Nat.not_lt_zero _)
  | F + 1, [], rows, _ :: _, _, h, _ => h.elim
  | F + 1, _ :: _, rows, [], _, h, _ => h.elim
  | F + 1, [], rows, [], _, _, hrows => by
    rw [useW_nil]
    constructor
    · intro h
      refine ⟨[], trivial, rfl, fun r hr => ?_⟩
      cases rows with
      | nil => cases hr
      | cons _ _ => cases h
    · rintro ⟨vs, _, _, hf⟩
      cases rows with
      | nil => rfl
      | cons r rs =>
        have h1 := hf r (List.mem_cons_self ..)
        have h2 := hrows r (List.mem_cons_self ..)
        cases r with
        | nil => cases h1
        | cons _ _ => exact h2.elim
  | F + 1, t :: ts, rows, p :: r, hF, hpl, hrows => by
    obtain ⟨hp, hr⟩ := hpl
    rw [useW_cons]
    have hall : ∀ q, isP t q → isWild q = false → ∀ x ∈ allInto infos18 q rows, pl (kt t q ++ ts) x := fun q hq wq x hx => by
      obtain ⟨r', hr', hi⟩ := mem_allInto.1 hx
      exact pl_into hq wq (hrows r' hr') hi
    cases wp : isWild p with
    | false =>
      simp only [Bool.false_eq_true, if_false]
      rw [use_sem F (kt t p ++ ts) _ _ (Nat.lt_of_lt_of_le (phi_own wp) (Nat.le_of_lt_succ hF)) (pl_append (isP_kids hp wp) hr) (hall p hp wp)]
      constructor
      · rintro ⟨xs, hx, h1, h2⟩
        obtain ⟨ks, vs, rfl, hk, hvs⟩ := vl_split hx
        obtain ⟨v, hv, hh, rfl⟩ := has_head hp wp hk
        refine ⟨v :: vs, ⟨hv, hvs⟩, ?_, (free_into hp wp hrows hv hvs hh).2 h2⟩
        rw [tkL_append _ _ _ _ (by rw [pl_len (isP_kids hp wp), vl_len hk])] at h1
        simp only [tkL, tk_not hp wp hv, hh, Bool.true_and]
        exact h1
      · rintro ⟨xs, hx, h1, h2⟩
        match xs, hx with
        | v :: vs, hx =>
          obtain ⟨hv, hvs⟩ := hx
          simp only [tkL, tk_not hp wp hv, Bool.and_eq_true] at h1
          obtain ⟨⟨hh, h3⟩, h4⟩ := h1
          have hk := isV_kids hp wp hv hh
          refine ⟨v.kids ++ vs, vl_append hk hvs, ?_, (free_into hp wp hrows hv hvs hh).1 h2⟩
          rw [tkL_append _ _ _ _ (by rw [pl_len (isP_kids hp wp), vl_len hk]), h3, h4]
          rfl
    | true =>
      simp only [if_true]
      have hfirst : ∀ q ∈ firsts infos18 rows, isP t q ∧ isWild q = false := fun q hq => by
        obtain ⟨wq, r', hr'⟩ := firsts_mem hq
        exact ⟨(hrows _ hr').1, wq⟩
      cases hw : whole infos18 (firsts infos18 rows) with
      | true =>
        simp only [if_true]
        rw [List.any_eq_true]
        have e : ∀ q ∈ firsts infos18 rows, (useW infos18 (allInto infos18 q rows) (List.replicate q.kids.length anyP ++ r) = true ↔ ∃ vs, vl (kt t q ++ ts) vs ∧ tkL (List.replicate q.kids.length anyP ++ r) vs = true ∧ free (allInto infos18 q rows) vs) := fun q hq => by
          obtain ⟨hq1, wq⟩ := hfirst q hq
          refine use_sem F (kt t q ++ ts) _ _ (Nat.lt_of_lt_of_le (phi_first hq) (Nat.le_of_lt_succ hF)) (pl_append ?_ hr) (hall q hq1 wq)
          rw [pl_len (isP_kids hq1 wq)]
          exact pl_any _
        constructor
        · rintro ⟨q, hq, h1⟩
          obtain ⟨xs, hx, h2, h3⟩ := (e q hq).1 h1
          obtain ⟨hq1, wq⟩ := hfirst q hq
          obtain ⟨ks, vs, rfl, hk, hvs⟩ := vl_split hx
          obtain ⟨v, hv, hh, rfl⟩ := has_head hq1 wq hk
          refine ⟨v :: vs, ⟨hv, hvs⟩, ?_, (free_into hq1 wq hrows hv hvs hh).2 h3⟩
          rw [tkL_append _ _ _ _ (by rw [List.length_replicate, pl_len (isP_kids hq1 wq), vl_len hk]), Bool.and_eq_true] at h2
          simp only [tkL, tk_wild wp, Bool.true_and]
          exact h2.2
        · rintro ⟨xs, hx, h1, h2⟩
          match xs, hx with
          | v :: vs, hx =>
            obtain ⟨hv, hvs⟩ := hx
            obtain ⟨q, hq, hh⟩ := whole_vals hfirst hw hv
            obtain ⟨hq1, wq⟩ := hfirst q hq
            have hk := isV_kids hq1 wq hv hh
            have hl : q.kids.length = v.kids.length := by rw [pl_len (isP_kids hq1 wq), vl_len hk]
            simp only [tkL, tk_wild wp, Bool.true_and] at h1
            refine ⟨q, hq, (e q hq).2 ⟨v.kids ++ vs, vl_append hk hvs, ?_, (free_into hq1 wq hrows hv hvs hh).1 h2⟩⟩
            rw [tkL_append _ _ _ _ (by rw [List.length_replicate, hl]), hl, tkL_any, h1]
            rfl
      | false =>
        simp only [Bool.false_eq_true, if_false]
        rw [use_sem F ts _ _ (Nat.lt_of_lt_of_le phi_rest (Nat.le_of_lt_succ hF)) hr (fun x hx => by
          obtain ⟨p', _, hm⟩ := mem_rest.1 hx
          exact (hrows _ hm).2)]
        constructor
        · rintro ⟨vs, hvs, h1, h2⟩
          obtain ⟨v, hv, hn⟩ := not_whole hfirst hw
          refine ⟨v :: vs, ⟨hv, hvs⟩, ?_, fun x hx => ?_⟩
          · simp only [tkL, tk_wild wp, Bool.true_and]
            exact h1
          · have hx2 := hrows x hx
            cases x with
            | nil => exact hx2.elim
            | cons p' r' =>
              cases wp' : isWild p' with
              | true =>
                simp only [tkL, tk_wild wp', Bool.true_and]
                exact h2 r' (mem_rest.2 ⟨p', wp', hx⟩)
              | false =>
                obtain ⟨q, hq, he⟩ := firsts_all (is := infos18) hx wp'
                obtain ⟨hq1, wq⟩ := hfirst q hq
                have h3 := (hd_hm hq1 hx2.1 wq wp' he).1 v hv
                simp only [tkL, tk_not hx2.1 wp' hv, ← h3, hn q hq, Bool.false_and]
        · rintro ⟨xs, hx, h1, h2⟩
          match xs, hx with
          | v :: vs, hx =>
            refine ⟨vs, hx.2, ?_, fun x hx' => ?_⟩
            · simp only [tkL, tk_wild wp, Bool.true_and] at h1
              exact h1
            · obtain ⟨p', wp', hm⟩ := mem_rest.1 hx'
              have := h2 _ hm
              simp only [tkL, tk_wild wp', Bool.true_and] at this
              exact this
end Go.Proofs.Ythjecikdkdjlaaa
