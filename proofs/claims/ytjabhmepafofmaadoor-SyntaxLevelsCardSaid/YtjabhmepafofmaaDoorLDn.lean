/- SyntaxDeep: the tokens of a program of nested signs, and its tree. -/
import Derived.Test.YtjabhmepafofmaaDoorLRp
set_option linter.unusedVariables false
set_option linter.unusedSimpArgs false
namespace Go.Proofs.YtjabhmepafofmaaDoor
open Go.RowKit

/-- what a token says, but for its number and its place -/
abbrev Key := Nat × List UInt8
def keyS (t : Sc.Tok) : Key := (t.kind, t.text)
def Scans (l : List UInt8) (K : List Key) : Prop := ∀ pos, ∃ ts, Sc.scanL pos l = .ok ts ∧ ts.map keyS = K
theorem scans_nil : Scans [] [] := fun pos => ⟨[], Sc.scanL_nil pos, rfl⟩
theorem scans_tok {l r : List UInt8} {t : Sc.Tok} {n : Nat} {K : List Key} (hb : Sc.blank l = some 0) (ht : Sc.tokT l = some (t, n)) (hd : l.drop n = r) (h : Scans r K) : Scans l (keyS t :: K) := fun pos => by
 obtain ⟨ts, e, k⟩ := h (pos + n)
 refine ⟨{ t with pos := pos } :: ts, ?_, by simp [keyS] at k ⊢; exact k⟩
 rw [Sc.scanL_tok hb ht, hd, e]
 rfl
theorem scans_blank {l : List UInt8} {K : List Key} (h : Scans l K) : Scans (32 :: l) K := fun pos => by
 obtain ⟨ts, e, k⟩ := h (pos + 1)
 exact ⟨ts, by rw [Sc.scanL_blank (n := 0) rfl]; exact e, k⟩
theorem scans_not {l : List UInt8} {K : List Key} (h : Scans l K) : Scans (33 :: l) ((7, [33]) :: K) :=
 scans_tok (t := ⟨7, [33], 0, 0⟩) (n := 1) (by cases l <;> rfl) (by cases l <;> rfl) rfl h
theorem scans_close {l : List UInt8} {K : List Key} (h : Scans l K) : Scans (41 :: l) ((7, [41]) :: K) :=
 scans_tok (t := ⟨7, [41], 0, 0⟩) (n := 1) (by cases l <;> rfl) (by cases l <;> rfl) rfl h
theorem scans_semi {l : List UInt8} {K : List Key} (h : Scans l K) : Scans (59 :: l) ((7, [59]) :: K) :=
 scans_tok (t := ⟨7, [59], 0, 0⟩) (n := 1) (by cases l <;> rfl) (by cases l <;> rfl) rfl h
theorem scans_open {d : UInt8} {l : List UInt8} {K : List Key} (hd : decide (d = 42) = false) (h : Scans (d :: l) K) : Scans (40 :: d :: l) ((7, [40]) :: K) :=
 scans_tok (t := ⟨7, [40], 0, 0⟩) (n := 1) (by simp [Sc.blank, Sc.white, Sc.opens, hd]) rfl rfl h
theorem scans_x {d : UInt8} {l : List UInt8} {K : List Key} (hd : Sc.part d = false) (h : Scans (d :: l) K) : Scans (120 :: d :: l) ((1, [120]) :: K) := by
 have hw : (120 :: d :: l).takeWhile Sc.part = [120] := by
  rw [List.takeWhile_cons_of_pos (by decide), List.takeWhile_cons_of_neg (by simp [hd])]
 refine scans_tok (t := ⟨1, [120], 0, 0⟩) (n := 1) rfl ?_ rfl h
 show Sc.nameT (120 :: d :: l) = _
 simp only [Sc.nameT, hw]
 rfl
theorem scans_do {l : List UInt8} {K : List Key} (h : Scans (32 :: l) K) : Scans (100 :: 111 :: 32 :: l) ((6, [100, 111]) :: K) := by
 have hw : (100 :: 111 :: 32 :: l).takeWhile Sc.part = [100, 111] := by
  rw [List.takeWhile_cons_of_pos (by decide), List.takeWhile_cons_of_pos (by decide), List.takeWhile_cons_of_neg (by decide)]
 refine scans_tok (t := ⟨6, [100, 111], 0, 0⟩) (n := 2) rfl ?_ rfl h
 show Sc.nameT (100 :: 111 :: 32 :: l) = _
 simp only [Sc.nameT, hw]
 rfl
/-- x in parentheses -/
def parS : Nat → List UInt8 → List UInt8
 | 0, l => 120 :: l
 | r + 1, l => 40 :: parS r (41 :: l)
def parK : Nat → List Key → List Key
 | 0, l => (1, [120]) :: l
 | r + 1, l => (7, [40]) :: parK r ((7, [41]) :: l)
theorem parS_head : ∀ r l, ∃ d m, parS r l = d :: m ∧ decide (d = 42) = false
 | 0, l => ⟨120, l, rfl, by decide⟩
 | r + 1, l => ⟨40, _, rfl, by decide⟩
theorem scans_par : ∀ (r : Nat) (d : UInt8) (l : List UInt8) (K : List Key), Sc.part d = false → Scans (d :: l) K → Scans (parS r (d :: l)) (parK r K)
 | 0, d, l, K, hd, h => scans_x hd h
 | r + 1, d, l, K, hd, h => by
  have ih := scans_par r 41 (d :: l) _ (by decide) (scans_close h)
  simp only [parS, parK]
  obtain ⟨x, m, e, hx⟩ := parS_head r (41 :: d :: l)
  rw [e] at ih ⊢
  exact scans_open hx ih
theorem scans_nots {l : List UInt8} {K : List Key} (h : Scans l K) : ∀ n, Scans (List.replicate n 33 ++ l) (List.replicate n (7, [33]) ++ K)
 | 0 => by simpa using h
 | n + 1 => by
  rw [List.replicate_succ, List.replicate_succ]
  exact scans_not (scans_nots h n)
theorem parS_eq : ∀ r l, parS r l = List.replicate r 40 ++ 120 :: (List.replicate r 41 ++ l)
 | 0, l => rfl
 | r + 1, l => by
  simp only [parS, parS_eq r, List.replicate_succ, List.cons_append]
  rw [show List.replicate r (41 : UInt8) ++ 41 :: l = 41 :: (List.replicate r 41 ++ l) from ?_]
  clear parS_eq
  induction r with
  | zero => rfl
  | succ r ih => rw [List.replicate_succ, List.cons_append, ih, List.cons_append]
def dnS (n r : Nat) : List UInt8 := 100 :: 111 :: 32 :: (List.replicate n 33 ++ parS r [59])
def dnK (n r : Nat) : List Key := (6, [100, 111]) :: (List.replicate n (7, [33]) ++ parK r [(7, [59])])
theorem dn_scans (n r : Nat) : Scans (dnS n r) (dnK n r) := scans_do (scans_blank (scans_nots (scans_par r 59 [] _ (by decide) (scans_semi scans_nil)) n))
theorem parS_len : ∀ r l, (parS r l).length = 2 * r + 1 + l.length
 | 0, l => by simp [parS]; omega
 | r + 1, l => by simp only [parS, List.length_cons, parS_len r]; omega
theorem parK_len : ∀ r l, (parK r l).length = 2 * r + 1 + l.length
 | 0, l => by simp [parK]; omega
 | r + 1, l => by simp only [parK, List.length_cons, parK_len r]; omega
theorem dnS_len (n r : Nat) : (dnS n r).length = n + 2 * r + 5 := by simp [dnS, parS_len]; omega
theorem dnK_len (n r : Nat) : (dnK n r).length = n + 2 * r + 3 := by simp [dnK, parK_len]; omega

/-! the tree -/
def keyT (t : Tok) : Nat × ByteArray := (t.kind, t.text)
def keyM (k : Key) : Nat × ByteArray := (k.1, Sc.mk k.2)
theorem toks_keys {s : List UInt8} {K : List Key} (h : Scans s K) (hl : s.length ≤ 16384) : (toks s).map keyT = K.map keyM := by
 obtain ⟨ts, e, k⟩ := h 0
 have : Sc.scanR s = .ok ts := by
  unfold Sc.scanR
  rw [if_neg (by omega), e]
 simp only [toks, this, ← k, List.map_map]
 rfl
theorem at_key {l : List Tok} {p : Nat} {k : Key} {r : List Key} (h : (l.map keyT).drop p = keyM k :: r.map keyM) : (∃ n c, l.getD p zTok = ⟨k.1, Sc.mk k.2, n, c⟩) ∧ (l.map keyT).drop (p + 1) = r.map keyM := by
 refine ⟨?_, ?_⟩
 ·
  have h1 : (l.map keyT)[p]? = some (keyM k) := by
   have := congrArg (fun x => x[0]?) h
   simpa using this
  rw [List.getElem?_map] at h1
  obtain ⟨t, ht, e⟩ := Option.map_eq_some_iff.1 h1
  obtain ⟨a, b, n, c⟩ := t
  simp only [keyT, keyM, Prod.mk.injEq] at e
  exact ⟨n, c, by rw [List.getD_eq_getElem?_getD, ht]; simp [e]⟩
 ·
  rw [← List.drop_drop, h]
  rfl
section
variable {l : List Tok}
theorem run_next {α : Type} {p : Nat} {k : Tok → Pr α} : (next.bind k).run l p = (k (l.getD p zTok)).run l p := rfl
theorem run_skip_no {α : Type} {p : Nat} {x : List ByteArray} {k : Bool → Pr α} {t : Tok} (h : l.getD p zTok = t) (hs : seesB t x = false) : ((skip x).bind k).run l p = (k false).run l p := by
 rw [run_bind]
 show (Pr.run l (if seesB (l.getD p zTok) x = true then _ else _) p).andThen _ = _
 rw [h, if_neg (by simp [hs])]
 rfl
theorem run_skip_yes {α : Type} {p : Nat} {x : List ByteArray} {k : Bool → Pr α} {t : Tok} (h : l.getD p zTok = t) (hs : seesB t x = true) : ((skip x).bind k).run l p = (k true).run l (p + 1) := by
 rw [run_bind]
 show (Pr.run l (if seesB (l.getD p zTok) x = true then _ else _) p).andThen _ = _
 rw [h, if_pos hs]
 rfl
theorem run_must2 {α : Type} {p : Nat} {x : ByteArray} {k : Unit → Pr α} {t : Tok} (h : l.getD p zTok = t) (hs : seesB t [x] = true) : ((must x).bind k).run l p = (k ()).run l (p + 1) := by
 rw [run_bind]
 show (Pr.run l (if seesB (l.getD p zTok) [x] = true then _ else _) p).andThen _ = _
 rw [h, if_pos hs]
 rfl
theorem run_then {α β : Type} {p q : Nat} {m : Pr α} {a : α} {k : α → Pr β} (h : m.run l p = .ok a q) : (m.bind k).run l p = (k a).run l q := by
 rw [run_bind, h]
 rfl
/-- no operator, no argument, no 'handle' -/
def Stop (t : Tok) : Prop := (∀ lv, lv < 5 → seesB t (Gr.ops lv) = false) ∧ Gr.startsB t = false ∧ seesB t [⟨#[104, 97, 110, 100, 108, 101]⟩] = false
theorem level_up {N lv p q : Nat} {e : E} {t : Tok} (hl : lv < 5) (h : ((gram (N + 1)).level (lv + 1)).run l p = .ok e q) (ht : l.getD q zTok = t) (hs : Stop t) : ((gram (N + 2)).level lv).run l p = .ok e q := by
 show ((gram (N + 1)).pLevel (N + 1) lv).run l p = _
 unfold Gr.pLevel
 rw [if_neg (by omega), run_then h]
 show ((if seesB (l.getD q zTok) (Gr.ops lv) = true then _ else _ : Pr E)).run l q = _
 rw [ht, if_neg (by simp [hs.1 lv hl])]
 rfl
theorem level_all {N p q : Nat} {e : E} {t : Tok} (h : (gram (N + 1)).prefix_.run l p = .ok e q) (ht : l.getD q zTok = t) (hs : Stop t) : ((gram (N + 8)).level 0).run l p = .ok e q := by
 have hc : (gram (N + 2)).calls.run l p = .ok e q := by
  show ((gram (N + 1)).pCalls (N + 1)).run l p = _
  unfold Gr.pCalls
  rw [run_then h]
  show ((if Gr.startsB (l.getD q zTok) = true then _ else _ : Pr E)).run l q = _
  rw [ht, if_neg (by simp [hs.2.1])]
  rfl
 have h5 : ((gram (N + 3)).level 5).run l p = .ok e q := hc
 exact level_up (N := N + 6) (by omega) (level_up (N := N + 5) (by omega) (level_up (N := N + 4) (by omega) (level_up (N := N + 3) (by omega) (level_up (N := N + 2) (by omega) h5 ht hs) ht hs) ht hs) ht hs) ht hs
/-- no expression's word -/
def Plain (t : Tok) : Prop := seesB t [⟨#[102, 110]⟩] = false ∧ seesB t [⟨#[99, 97, 115, 101]⟩] = false ∧ seesB t [⟨#[105, 102]⟩] = false ∧ seesB t [⟨#[114, 97, 105, 115, 101]⟩] = false
theorem exp_up {N p q : Nat} {e : E} {t k : Tok} (h : (gram (N + 1)).prefix_.run l p = .ok e q) (hk : l.getD p zTok = k) (hp : Plain k) (ht : l.getD q zTok = t) (hs : Stop t) : (gram (N + 9)).exp.run l p = .ok e q := by
 have h0 := level_all h ht hs
 show ((gram (N + 8)).pExp (N + 8)).run l p = _
 unfold Gr.pExp
 rw [run_skip_no hk hp.1, if_neg (by simp), run_skip_no hk hp.2.1, if_neg (by simp), run_skip_no hk hp.2.2.1, if_neg (by simp), run_skip_no hk hp.2.2.2, if_neg (by simp), run_then h0, run_skip_no ht hs.2.2, if_neg (by simp)]
 rfl
theorem pre_var {N p : Nat} {s : ByteArray} {n c : Int} (h : l.getD p zTok = ⟨1, s, n, c⟩) : (gram (N + 2)).prefix_.run l p = .ok (Gr.mkE 1 s []) (p + 1) := by
 show ((gram (N + 1)).pPrefix).run l p = _
 unfold Gr.pPrefix
 rw [run_next, run_skip_no h (by simp [seesB]), if_neg (by simp)]
 show ((gram N).pAtom).run l p = _
 unfold Gr.pAtom
 rw [run_next, h, if_pos rfl]
 rfl
theorem pre_not {N p q : Nat} {e : E} {n c : Int} (h : l.getD p zTok = ⟨7, ⟨#[33]⟩, n, c⟩) (he : (gram N).prefix_.run l (p + 1) = .ok e q) : (gram (N + 1)).prefix_.run l p = .ok (Gr.mkE 15 ⟨#[33]⟩ [e]) q := by
 show ((gram N).pPrefix).run l p = _
 unfold Gr.pPrefix
 rw [run_next, run_skip_yes h (by kernel_rfl), if_pos rfl, run_then he, h]
 rfl
theorem pre_par {N p q : Nat} {e : E} {n c n2 c2 : Int} {t : Tok} (h : l.getD p zTok = ⟨7, ⟨#[40]⟩, n, c⟩) (ht : l.getD (p + 1) zTok = t) (h1 : seesB t [⟨#[41]⟩] = false) (he : (gram N).exp.run l (p + 1) = .ok e q) (hq : l.getD q zTok = ⟨7, ⟨#[41]⟩, n2, c2⟩) : (gram (N + 3)).prefix_.run l p = .ok e (q + 1) := by
 show ((gram (N + 2)).pPrefix).run l p = _
 unfold Gr.pPrefix
 rw [run_next, run_skip_no h (by kernel_rfl), if_neg (by simp)]
 show ((gram (N + 1)).pAtom).run l p = _
 unfold Gr.pAtom
 rw [run_next, h, if_neg (by simp), if_neg (by rw [not_or]; exact ⟨by simp, by rw [show seesB ⟨7, ⟨#[40]⟩, n, c⟩ [⟨#[116, 114, 117, 101]⟩, ⟨#[102, 97, 108, 115, 101]⟩] = false by kernel_rfl]; decide⟩), if_neg (by simp), if_neg (by simp), run_skip_no h (by kernel_rfl), if_neg (by simp), run_must2 h (by kernel_rfl)]
 show ((gram N).pRound N).run l (p + 1) = _
 unfold Gr.pRound
 rw [run_skip_no ht h1, if_neg (by simp), run_then he, run_skip_no hq (by kernel_rfl), if_neg (by simp), run_skip_no hq (by kernel_rfl), if_neg (by simp), run_must2 hq (by kernel_rfl)]
 rfl
theorem stop_close {n c : Int} : Stop ⟨7, ⟨#[41]⟩, n, c⟩ := by
 refine ⟨fun lv h => ?_, by kernel_rfl, by kernel_rfl⟩
 rcases lv with _ | _ | _ | _ | _ | lv
 ·
  show seesB ⟨7, ⟨#[41]⟩, n, c⟩ (Gr.ops 0) = false
  kernel_rfl
 ·
  show seesB ⟨7, ⟨#[41]⟩, n, c⟩ (Gr.ops 1) = false
  kernel_rfl
 ·
  show seesB ⟨7, ⟨#[41]⟩, n, c⟩ (Gr.ops 2) = false
  kernel_rfl
 ·
  show seesB ⟨7, ⟨#[41]⟩, n, c⟩ (Gr.ops 3) = false
  kernel_rfl
 ·
  show seesB ⟨7, ⟨#[41]⟩, n, c⟩ (Gr.ops 4) = false
  kernel_rfl
 ·
  omega
theorem stop_semi {n c : Int} : Stop ⟨7, ⟨#[59]⟩, n, c⟩ := by
 refine ⟨fun lv h => ?_, by kernel_rfl, by kernel_rfl⟩
 rcases lv with _ | _ | _ | _ | _ | lv
 ·
  show seesB ⟨7, ⟨#[59]⟩, n, c⟩ (Gr.ops 0) = false
  kernel_rfl
 ·
  show seesB ⟨7, ⟨#[59]⟩, n, c⟩ (Gr.ops 1) = false
  kernel_rfl
 ·
  show seesB ⟨7, ⟨#[59]⟩, n, c⟩ (Gr.ops 2) = false
  kernel_rfl
 ·
  show seesB ⟨7, ⟨#[59]⟩, n, c⟩ (Gr.ops 3) = false
  kernel_rfl
 ·
  show seesB ⟨7, ⟨#[59]⟩, n, c⟩ (Gr.ops 4) = false
  kernel_rfl
 ·
  omega
theorem plain_key {k : Nat} {s : ByteArray} {n c : Int} (h : (k, s) = (7, (⟨#[40]⟩ : ByteArray)) ∨ (k, s) = (7, ⟨#[33]⟩) ∨ k = 1) : Plain ⟨k, s, n, c⟩ ∧ seesB ⟨k, s, n, c⟩ [⟨#[41]⟩] = false := by
 rcases h with h | h | h
 ·
  cases h
  exact ⟨⟨by kernel_rfl, by kernel_rfl, by kernel_rfl, by kernel_rfl⟩, by kernel_rfl⟩
 ·
  cases h
  exact ⟨⟨by kernel_rfl, by kernel_rfl, by kernel_rfl, by kernel_rfl⟩, by kernel_rfl⟩
 ·
  subst h
  exact ⟨⟨by simp [seesB], by simp [seesB], by simp [seesB], by simp [seesB]⟩, by simp [seesB]⟩
theorem parK_head : ∀ r K, ∃ k m, parK r K = k :: m ∧ ((k.1, Sc.mk k.2) = (7, (⟨#[40]⟩ : ByteArray)) ∨ (k.1, Sc.mk k.2) = (7, ⟨#[33]⟩) ∨ k.1 = 1)
 | 0, K => ⟨(1, [120]), _, rfl, .inr (.inr rfl)⟩
 | r + 1, K => ⟨(7, [40]), _, rfl, .inl rfl⟩
def xV : E := Gr.mkE 1 ⟨#[120]⟩ []
theorem par_run : ∀ (r p : Nat) (K : List Key), (l.map keyT).drop p = (parK r K).map keyM → (∃ t, l.getD (p + 2 * r + 1) zTok = t ∧ Stop t) → (gram (11 * r + 2)).prefix_.run l p = .ok xV (p + 2 * r + 1)
 | 0, p, K, h, _ => by
  obtain ⟨⟨n, c, e⟩, _⟩ := at_key (r := K) (k := (1, [120])) h
  exact pre_var e
 | r + 1, p, K, h, _ => by
  obtain ⟨⟨n, c, e⟩, h1⟩ := at_key (r := parK r ((7, [41]) :: K)) (k := (7, [40])) h
  have hlen : ∀ (r p : Nat) (K : List Key), (l.map keyT).drop p = (parK r K).map keyM → (l.map keyT).drop (p + 2 * r + 1) = K.map keyM := by
   intro r
   induction r with
   | zero => intro p K h; exact (at_key (r := K) (k := (1, [120])) h).2
   | succ r ih =>
    intro p K h
    have h2 := ih (p + 1) _ (at_key (r := parK r ((7, [41]) :: K)) (k := (7, [40])) h).2
    have h3 := (at_key (r := K) (k := (7, [41])) h2).2
    rw [show p + 2 * (r + 1) + 1 = p + 1 + 2 * r + 1 + 1 by omega]
    exact h3
  obtain ⟨⟨n2, c2, e2⟩, _⟩ := at_key (r := K) (k := (7, [41])) (hlen r (p + 1) _ h1)
  have ih := par_run r (p + 1) _ h1 ⟨_, e2, stop_close⟩
  obtain ⟨k, m, ek, hk⟩ := parK_head r ((7, [41]) :: K)
  rw [ek] at h1
  obtain ⟨⟨n3, c3, e3⟩, _⟩ := at_key (r := m) (k := k) h1
  obtain ⟨pl, sc⟩ := plain_key (n := n3) (c := c3) hk
  have hx := exp_up (N := 11 * r + 1) ih e3 pl e2 stop_close
  have := pre_par (N := 11 * r + 10) e e3 sc hx e2
  rw [show 11 * (r + 1) + 2 = 11 * r + 10 + 3 by omega, show p + 2 * (r + 1) + 1 = p + 1 + 2 * r + 1 + 1 by omega]
  exact this
def nest : Nat → E → E
 | 0, e => e
 | n + 1, e => Gr.mkE 15 ⟨#[33]⟩ [nest n e]
theorem nots_run : ∀ (n p N : Nat) (K : List Key) (e : E) (q : Nat), (l.map keyT).drop p = (List.replicate n (7, [33]) ++ K).map keyM → (gram N).prefix_.run l (p + n) = .ok e q → (gram (N + n)).prefix_.run l p = .ok (nest n e) q
 | 0, p, N, K, e, q, _, he => he
 | n + 1, p, N, K, e, q, h, he => by
  rw [List.replicate_succ] at h
  obtain ⟨⟨a, c, e1⟩, h1⟩ := at_key (r := List.replicate n (7, [33]) ++ K) (k := (7, [33])) h
  have ih := nots_run n (p + 1) N K e q h1 (by rw [show p + 1 + n = p + (n + 1) by omega]; exact he)
  exact pre_not e1 ih
theorem drop_keys {p : Nat} (n : Nat) {K : List Key} {x : Key} (h : (l.map keyT).drop p = (List.replicate n x ++ K).map keyM) : (l.map keyT).drop (p + n) = K.map keyM := by
 rw [← List.drop_drop, h]
 simp
def dnD (n : Nat) : D := .mk 6 nob [] [] [] zT (nest n xV)
theorem dn_run (n r : Nat) (h : l.map keyT = (dnK n r).map keyM) : progR l (gram (11 * r + n + 11)) 2 [] 0 = .ok [dnD n] (n + 2 * r + 3) := by
 have hl : l.length = n + 2 * r + 3 := by
  have := congrArg List.length h
  simpa [dnK_len] using this
 have h0 : (l.map keyT).drop 0 = keyM (6, [100, 111]) :: (List.replicate n (7, [33]) ++ parK r [(7, [59])]).map keyM := by rw [h]; rfl
 obtain ⟨⟨a0, c0, e0⟩, h1⟩ := at_key (k := (6, [100, 111])) h0
 have h2 := drop_keys n h1
 have h3 : (l.map keyT).drop (n + 2 * r + 2) = keyM (7, [59]) :: ([] : List Key).map keyM := by
  rw [h, ← List.map_drop]
  have hK : ∀ (r : Nat) (K : List Key), (parK r K).drop (2 * r + 1) = K := by
   intro r
   induction r with
   | zero => intro K; rfl
   | succ r ih =>
    intro K
    have := ih ((7, [41]) :: K)
    simp only [parK]
    have h2 : (parK r ((7, [41]) :: K)).drop (2 * r + 1 + 1) = ((parK r ((7, [41]) :: K)).drop (2 * r + 1)).drop 1 := by rw [List.drop_drop]
    rw [show 2 * (r + 1) + 1 = (2 * r + 1 + 1) + 1 by omega, List.drop_succ_cons, h2, this]
    rfl
  simp only [dnK]
  rw [show n + 2 * r + 2 = (n + (2 * r + 1)) + 1 by omega, List.drop_succ_cons, ← List.drop_drop, List.drop_append_of_le_length (by simp)]
  simp [hK]
 obtain ⟨⟨a3, c3, e3⟩, _⟩ := at_key (k := (7, [59])) h3
 have hp := par_run r (0 + 1 + n) _ h2 ⟨_, by rw [show 0 + 1 + n + 2 * r + 1 = n + 2 * r + 2 by omega]; exact e3, stop_semi⟩
 have hn := nots_run n (0 + 1) _ _ _ _ h1 hp
 have hh : ∃ k m, List.replicate n (7, [33]) ++ parK r [(7, [59])] = k :: m ∧ ((k.1, Sc.mk k.2) = (7, (⟨#[40]⟩ : ByteArray)) ∨ (k.1, Sc.mk k.2) = (7, ⟨#[33]⟩) ∨ k.1 = 1) := by
  cases n with
  | zero => exact parK_head r _
  | succ n => exact ⟨(7, [33]), _, rfl, .inr (.inl rfl)⟩
 obtain ⟨k, m, ek, hk⟩ := hh
 rw [ek] at h1
 obtain ⟨⟨a1, c1, e1⟩, _⟩ := at_key (r := m) (k := k) h1
 obtain ⟨pl, _⟩ := plain_key (n := a1) (c := c1) hk
 rw [show 0 + 1 + n + 2 * r + 1 = n + 2 * r + 2 by omega, show 11 * r + 2 + n = 11 * r + n + 1 + 1 by omega] at hn
 have hx := exp_up hn e1 pl e3 stop_semi
 have hd : ((gram (11 * r + n + 11)).dec true).run l 0 = .ok (dnD n) (n + 2 * r + 2) := by
  show ((gram (11 * r + n + 10)).pDec (11 * r + n + 10) true).run l 0 = _
  unfold Gr.pDec
  rw [run_skip_no e0 (by kernel_rfl), if_neg (by simp), run_skip_no e0 (by kernel_rfl), if_neg (by simp), run_skip_yes e0 (by kernel_rfl), if_pos rfl, run_then hx]
  rfl
 have hm : (must ⟨#[59]⟩).run l (n + 2 * r + 2) = .ok () (n + 2 * r + 3) := by
  have := run_must2 (k := .ret) e3 (x := ⟨#[59]⟩) (by kernel_rfl)
  rw [run_bind] at this
  cases hv : (must ⟨#[59]⟩).run l (n + 2 * r + 2) with
  | ok a q => rw [hv] at this; simpa [Re.andThen, Pr.run] using this
  | fail q => rw [hv] at this; cases this
  | out => rw [hv] at this; cases this
 unfold progR
 rw [if_pos (by omega), hd]
 simp only [Re.andThen]
 rw [hm]
 simp only [progR]
 rw [if_neg (by omega)]
 rfl
end
theorem dE_nest : ∀ n : Nat, n ≤ 1000 → dE (nest n xV) = (n : Int) + 1
 | 0, _ => by kernel_rfl
 | n + 1, h => by
  have ih := dE_nest n (by omega)
  simp only [nest, Gr.mkE, dE, dEs, dRs, dDs, ih]
  rw [if_neg (by decide)]
  unfold up wrap64
  omega
theorem dn_depth (n : Nat) (h : n ≤ 1000) : dProg [dnD n] = (n : Int) + 2 := by
 have h1 := dE_nest n h
 simp only [dProg, List.map_cons, dDs, dnD, dD, h1, dT, zT, mx, dFs, List.map_nil, if_true]
 unfold up wrap64
 omega
theorem dn_all (n r : Nat) (hn : n ≤ 255) (hr : r ≤ 255) : progR (toks (dnS n r)) (gram (11 * r + n + 11)) 2 [] 0 = .ok [dnD n] (n + 2 * r + 3) ∧ (toks (dnS n r)).length = n + 2 * r + 3 := by
 have hk := toks_keys (dn_scans n r) (by rw [dnS_len]; omega)
 refine ⟨dn_run n r hk, ?_⟩
 have := congrArg List.length hk
 simpa [dnK_len] using this
end Go.Proofs.YtjabhmepafofmaaDoor
