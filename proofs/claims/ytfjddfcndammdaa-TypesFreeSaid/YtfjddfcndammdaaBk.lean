/- The program's book in memory. -/
import Derived.Test.YtfjddfcndammdaaKids
import Derived.Test.YtfjddfcndammdaaBs
import Derived.Maps.OwnSet
namespace Go.Proofs.Ytfjddfcndammdaa
open Go.RowKit

/-- objects that a book's methods write -/
def Bobj : Obj → Prop
  | .cells _ t _ => t = 61 ∨ t = 3
  | .map _ _ => True
  | _ => False
def Bb (base : Nat) (w : World) (k : Nat) : Prop := base ≤ k ∧ ∃ o, w.heap[k]? = some o ∧ Bobj o
/-- all stays, but what books write, in memory from base on -/
def Fb (base : Nat) (w w' : World) : Prop := Fr (Bb base w) w w'
theorem Fb.refl (base : Nat) (w : World) : Fb base w w := Fr.refl _ w
theorem Fb.ofNo {base : Nat} {w w' : World} (h : Fr No w w') : Fb base w w' := h.mono fun _ _ h => h.elim
theorem Fb.trans {base : Nat} {a b c : World} (h : Fb base a b) (k : Fb base b c) : Fb base a c :=
  ⟨k.os.trans h.os, k.tape.trans h.tape, k.output.trans h.output, Nat.le_trans h.size k.size, fun i hi hn => by
    have e := h.block i hi hn
    rw [← e]
    refine k.block i (Nat.lt_of_lt_of_le hi h.size) fun hb => hn ?_
    obtain ⟨h1, o, h2, h3⟩ := hb
    exact ⟨h1, o, by rw [← e]; exact h2, h3⟩⟩
theorem Fb.then {base : Nat} {a b c : World} (h : Fb base a b) (k : Fr No b c) : Fb base a c := h.trans (Fb.ofNo k)
theorem Fb.keeps {base : Nat} {w w' : World} (h : Fb base w w') {b : Nat} {o : Obj} (hb : w.heap[b]? = some o) (hn : ¬ Bobj o) : w'.heap[b]? = some o :=
  Fr.keeps h hb fun ⟨_, o', h2, h3⟩ => by
    rw [hb] at h2
    simp only [Option.some.injEq] at h2
    exact hn (h2 ▸ h3)
theorem Fb.old {base : Nat} {w w' : World} (h : Fb base w w') {b : Nat} {o : Obj} (hb : w.heap[b]? = some o) (hn : b < base) : w'.heap[b]? = some o :=
  Fr.keeps h hb fun ⟨h1, _⟩ => by omega
theorem Stays.of_fb {base : Nat} {ok : Nat → Prop} {w w' : World} (h : Fb base w w') : Stays base ok w w' := fun b hb _ hs => by
  rcases hs with hs | ⟨cs, z, hs⟩
  · exact h.block b hb fun ⟨h1, _⟩ => by omega
  · rw [hs]
    exact h.keeps hs (by simp [Bobj])
theorem Is.fb {base : Nat} {ok : Nat → Prop} {w w' : World} {t : T} {v : Value} (h : Is base ok w t v) (hf : Fb base w w') : Is base ok w' t v := h.keep (Stays.of_fb hf) (fun _ h => h)
mutual
theorem is_base {B0 B1 : Nat} {ok : Nat → Prop} {w : World} (hB : B0 ≤ B1) : ∀ (t : T) (v : Value), Is B0 ok w t v → Is B1 ok w t v
  | .mk k s n l, v, h => by
    simp only [Is] at h ⊢
    obtain ⟨a, cap, e, hr⟩ := h
    exact ⟨a, cap, e, row_base hB a 0 l hr⟩
theorem row_base {B0 B1 : Nat} {ok : Nat → Prop} {w : World} (hB : B0 ≤ B1) (a : Option Addr) : ∀ (i : Nat) (l : List T), Row B0 ok w a i l → Row B1 ok w a i l
  | _, [], _ => by simp [Row]
  | i, t :: r, h => by
    simp only [Row] at h ⊢
    obtain ⟨⟨b, off, c0, c1, c2, c3, e, hok, hb, h0, h1, h2, h3, ht⟩, hr⟩ := h
    exact ⟨⟨b, off, c0, c1, c2, c3, e, hok, hb.imp (fun h => Nat.lt_of_lt_of_le h hB) id, h0, h1, h2, h3, is_base hB t _ ht⟩, row_base hB a (i + 1) r hr⟩
end
/-- a type that lies somewhere: in old memory, or in rows of types -/
def IsT (base : Nat) (w : World) (t : T) (v : Value) : Prop := Is base (fun _ => True) w t v
theorem IsT.of {base : Nat} {ok : Nat → Prop} {w : World} {t : T} {v : Value} (h : Is base ok w t v) : IsT base w t v := h.mono fun _ _ => trivial
theorem IsT.of0 {base : Nat} {ok : Nat → Prop} {w : World} {t : T} {v : Value} (h : Is 0 ok w t v) : IsT base w t v := is_base (Nat.zero_le _) t v (h.mono fun _ _ => trivial)
theorem IsT.no {base : Nat} {w w' : World} {t : T} {v : Value} (h : IsT base w t v) (hf : Fr No w w') : IsT base w' t v := Is.no h hf
theorem IsT.fb {base : Nat} {w w' : World} {t : T} {v : Value} (h : IsT base w t v) (hf : Fb base w w') : IsT base w' t v := Is.fb h hf
/-- a bound type reads as itself -/
def Rv (v : Value) : Option (DataW Value × List MemPlace) := some (.held v, [])
def kn (n : Int) : Lit := .int .i64 n
def HoldsB (base : Nat) (w : World) (l : Bs) (D : DataW Value) : Prop :=
  ∀ n, (look l n = none → Maps.has D (kn n) = false) ∧ ∀ t, look l n = some t → Maps.has D (kn n) = true ∧ ∃ v, (∀ z, D.atKey (kn n) z = .held v) ∧ IsT base w t v
/-- a book: how many unknowns, what is bound -/
def Bk (base : Nat) (w : World) (g : Nat) (many : Nat) (l : Bs) : Prop :=
  ∃ (mb : Nat) (tr : Value) (D : DataW Value), w.heap[g]? = some (.cells #[.int .i64 many, .map (some mb), tr] 61 (0, 0)) ∧ base ≤ g ∧ base ≤ mb ∧ w.ownsMap Try.prog 3 Rv mb l.length D ∧ HoldsB base w l D ∧
    w.ownsRow base 3 1 tr l.length (l.map fun p => .int .i64 p.1)
theorem owns_fr {w w' : World} {S : Nat → Prop} {base e k n : Nat} {v : Value} {xs : List Value} (h : w.ownsRow base e k v n xs) (hf : Fr S w w') (hs : ∀ g, v.ownBlock = some g → ¬ S g) : w'.ownsRow base e k v n xs := by
  refine ⟨h.1, ?_⟩
  rcases h.2 with h2 | ⟨g, cap, cur, h1, h2, h3, h4⟩
  · exact .inl h2
  · exact .inr ⟨g, cap, cur, h1, h2, hf.keeps h3 (hs g (by rw [h1]; rfl)), h4⟩
theorem map_fr {w w' : World} {S : Nat → Prop} {mb n : Nat} {D : DataW Value} (h : w.ownsMap Try.prog 3 Rv mb n D) (hf : Fr S w w') (hs : ¬ S mb) : w'.ownsMap Try.prog 3 Rv mb n D := by
  obtain ⟨es, clock, hb, F⟩ := h
  exact ⟨es, clock, hf.keeps hb hs, F⟩
theorem Bk.no {base : Nat} {w w' : World} {g many : Nat} {l : Bs} (h : Bk base w g many l) (hf : Fr No w w') : Bk base w' g many l := by
  obtain ⟨mb, tr, D, h1, h2, h3, h4, h5, h6⟩ := h
  exact ⟨mb, tr, D, hf.keeps h1 no_one, h2, h3, map_fr h4 hf no_one, fun n => ⟨(h5 n).1, fun t ht => by
    obtain ⟨q1, v, q2, q3⟩ := (h5 n).2 t ht
    exact ⟨q1, v, q2, q3.no hf⟩⟩, owns_fr h6 hf fun _ _ => no_one⟩
/-- a cell of the program's own is written, which is no book's -/
theorem Bk.own {base : Nat} {w w' : World} {g many : Nat} {l : Bs} {S : Nat → Prop} (h : Bk base w g many l) (hf : Fr S w w') (hs : ∀ k, S k → ¬ Bobj ((w.heap[k]?).getD default) ∧ base ≤ k) (ht : ∀ k cs z, S k → w.heap[k]? ≠ some (.cells cs 24 z)) : Bk base w' g many l := by
  obtain ⟨mb, tr, D, h1, h2, h3, h4, h5, h6⟩ := h
  refine ⟨mb, tr, D, hf.keeps h1 (fun hk => (hs g hk).1 (by rw [h1]; simp [Bobj])), h2, h3, map_fr h4 hf (fun hk => ?_), fun n => ⟨(h5 n).1, fun t hl => ?_⟩, owns_fr h6 hf fun b hb hk => ?_⟩
  · obtain ⟨es, clock, hb, _⟩ := h4
    exact (hs mb hk).1 (by rw [hb]; simp [Bobj])
  · obtain ⟨q1, v, q2, q3⟩ := (h5 n).2 t hl
    refine ⟨q1, v, q2, q3.keep (fun b hb _ hst => hf.block b hb fun hk => ?_) fun _ h => h⟩
    rcases hst with hst | ⟨cs, z, hst⟩
    · have := (hs b hk).2
      omega
    · exact ht b cs z hk hst
  · rcases h6.2 with ⟨rfl, _⟩ | ⟨g2, cap, cur, rfl, _, hcur, _⟩
    · cases hb
    · have e : g2 = b := by simpa [Value.ownBlock] using hb
      subst e
      exact (hs g2 hk).1 (by rw [hcur]; simp [Bobj])
theorem law3 : Maps.Keyed Try.prog 3 := Maps.int_keyed Try.underlying3
theorem zero24 (w : World) : (zeroValue 24).run Try.prog w = .ok (.agg #[.int .u8 0, .string ⟨#[]⟩, .int .i64 0, .slice none 0 0]) w := by kernel_rfl
theorem wf64 {n : Int} (h : 0 ≤ n) (h2 : n < 9223372036854775807) : (Lit.int .i64 n).wf = true := by
  have : -9223372036854775808 ≤ n ∧ n ≤ 9223372036854775807 := by omega
  simp only [Lit.wf]
  simpa [IntKind.min, IntKind.max, IntKind.bits, IntKind.signed] using this
theorem Bk.miss {base : Nat} {w : World} {g many : Nat} {l : Bs} (h : Bk base w g many l) : ∃ mb tr, w.heap[g]? = some (.cells #[.int .i64 many, .map (some mb), tr] 61 (0, 0)) ∧ ∀ n, 0 ≤ n → n < 9223372036854775807 →
    (look l n = none → (Instr.lookup 59 (.map (some mb)) (.int .i64 n) true).run Try.prog w = .ok (.tuple #[.agg #[.int .u8 0, .string ⟨#[]⟩, .int .i64 0, .slice none 0 0], .bool false]) w) ∧
    ∀ t, look l n = some t → ∃ v, (Instr.lookup 59 (.map (some mb)) (.int .i64 n) true).run Try.prog w = .ok (.tuple #[v, .bool true]) w ∧ IsT base w t v := by
  obtain ⟨mb, tr, D, h1, h2, h3, h4, h5, h6⟩ := h
  refine ⟨mb, tr, h1, fun n hn hn2 => ?_⟩
  obtain ⟨v, ps, hrun, hv⟩ := h4.look_ok law3 Try.underlying59 (zero24 w) (zd := .held (.agg #[.int .u8 0, .string ⟨#[]⟩, .int .i64 0, .slice none 0 0])) (zp := []) rfl (Maps.keyOf_int_mk Try.underlying3 (wf64 hn hn2))
  simp only [Rv, Option.some.injEq, Prod.mk.injEq] at hv
  refine ⟨fun hl => ?_, fun t hl => ?_⟩
  · have q := (h5 n).1 hl
    simp only [kn] at q
    rw [q] at hrun
    rw [Maps.atKey_of_not_has q] at hv
    have hv1 := hv.1
    injection hv1 with hv1
    rw [hv1] at hrun
    exact hrun
  · obtain ⟨q1, u, q2, q3⟩ := (h5 n).2 t hl
    simp only [kn] at q1 q2
    rw [q1] at hrun
    rw [q2] at hv
    have hv1 := hv.1
    injection hv1 with hv1
    rw [hv1] at hrun
    exact ⟨u, hrun, q3⟩
theorem Bk.lt {base : Nat} {w : World} {g many : Nat} {l : Bs} (h : Bk base w g many l) : g < w.heap.size ∧ base ≤ g := by
  obtain ⟨mb, tr, D, h1, h2, _⟩ := h
  exact ⟨lt_of_block h1, h2⟩
/-- a book that is only read: its blocks lie below N -/
def BkR (base : Nat) (w : World) (g : Nat) (many : Nat) (l : Bs) (N : Nat) : Prop :=
  ∃ (mb : Nat) (tr : Value) (D : DataW Value), w.heap[g]? = some (.cells #[.int .i64 many, .map (some mb), tr] 61 (0, 0)) ∧ base ≤ g ∧ g < N ∧ mb < N ∧ w.ownsMap Try.prog 3 Rv mb l.length D ∧ HoldsB base w l D
theorem Bk.reads {base : Nat} {w : World} {g many : Nat} {l : Bs} (h : Bk base w g many l) : BkR base w g many l w.heap.size := by
  obtain ⟨mb, tr, D, h1, h2, h3, h4, h5, h6⟩ := h
  exact ⟨mb, tr, D, h1, h2, lt_of_block h1, h4.lt, h4, h5⟩
theorem BkR.keep {base N : Nat} {w w' : World} {g many : Nat} {l : Bs} {S : Nat → Prop} (h : BkR base w g many l N) (hf : Fr S w w') (hs : ∀ k, S k → N ≤ k) (ht : ∀ k cs z, S k → w.heap[k]? ≠ some (.cells cs 24 z)) : BkR base w' g many l N := by
  obtain ⟨mb, tr, D, h1, h2, h3, h4, h5, h6⟩ := h
  refine ⟨mb, tr, D, hf.keeps h1 (fun hk => by have := hs g hk; omega), h2, h3, h4, map_fr h5 hf (fun hk => by have := hs mb hk; omega), fun n => ⟨(h6 n).1, fun t hl => ?_⟩⟩
  obtain ⟨q1, v, q2, q3⟩ := (h6 n).2 t hl
  refine ⟨q1, v, q2, q3.keep (fun b hb _ hst => hf.block b hb fun hk => ?_) fun _ h => h⟩
  rcases hst with hst | ⟨cs, z, hst⟩
  · have := hs b hk
    omega
  · exact ht b cs z hk hst
theorem BkR.no {base N : Nat} {w w' : World} {g many : Nat} {l : Bs} (h : BkR base w g many l N) (hf : Fr No w w') : BkR base w' g many l N := h.keep hf (fun _ h => h.elim) (fun _ _ _ h => h.elim)
theorem BkR.looks {base N : Nat} {w : World} {g many : Nat} {l : Bs} (h : BkR base w g many l N) : ∃ mb tr, w.heap[g]? = some (.cells #[.int .i64 many, .map (some mb), tr] 61 (0, 0)) ∧ ∀ n, 0 ≤ n → n < 9223372036854775807 →
    (look l n = none → ∀ w', Fr No w w' → (Instr.lookup 59 (.map (some mb)) (.int .i64 n) true).run Try.prog w' = .ok (.tuple #[.agg #[.int .u8 0, .string ⟨#[]⟩, .int .i64 0, .slice none 0 0], .bool false]) w') ∧
    ∀ t, look l n = some t → ∃ v, (∀ w', Fr No w w' → (Instr.lookup 59 (.map (some mb)) (.int .i64 n) true).run Try.prog w' = .ok (.tuple #[v, .bool true]) w') ∧ IsT base w t v := by
  obtain ⟨mb, tr, D, h1, h2, h3, h4, h5, h6⟩ := h
  refine ⟨mb, tr, h1, fun n hn hn2 => ?_⟩
  have key : ∀ w', Fr No w w' → ∃ v, (Instr.lookup 59 (.map (some mb)) (.int .i64 n) true).run Try.prog w' = .ok (.tuple #[v, .bool (Maps.has D (kn n))]) w' ∧ .held v = D.atKey (kn n) (.held (.agg #[.int .u8 0, .string ⟨#[]⟩, .int .i64 0, .slice none 0 0])) := by
    intro w' hf
    obtain ⟨v, ps, hrun, hv⟩ := (map_fr h5 hf no_one).look_ok law3 Try.underlying59 (zero24 w') (zd := .held (.agg #[.int .u8 0, .string ⟨#[]⟩, .int .i64 0, .slice none 0 0])) (zp := []) rfl (Maps.keyOf_int_mk Try.underlying3 (wf64 hn hn2))
    simp only [Rv, Option.some.injEq, Prod.mk.injEq] at hv
    exact ⟨v, hrun, hv.1⟩
  refine ⟨fun hl w' hf => ?_, fun t hl => ?_⟩
  · have q := (h6 n).1 hl
    obtain ⟨v, hrun, hv⟩ := key w' hf
    rw [q] at hrun
    rw [Maps.atKey_of_not_has q] at hv
    injection hv with hv
    rw [hv] at hrun
    exact hrun
  · obtain ⟨q1, u, q2, q3⟩ := (h6 n).2 t hl
    refine ⟨u, fun w' hf => ?_, q3⟩
    obtain ⟨v, hrun, hv⟩ := key w' hf
    rw [q1] at hrun
    rw [q2] at hv
    injection hv with hv
    rw [hv] at hrun
    exact hrun
/-- a type that may be, its unknowns the book's -/
def Good (many : Nat) (t : T) : Prop := right t = true ∧ own many t = true
theorem Good.num {many : Nat} {s : ByteArray} {n : Int} {r : List T} (h : Good many (.mk 1 s n r)) : 0 ≤ n ∧ n < many := by
  obtain ⟨h1, h2⟩ := h
  simp only [right, if_true, Bool.and_eq_true, decide_eq_true_eq] at h1
  simp only [own, bne_self_eq_false, Bool.false_or, Bool.and_eq_true, decide_eq_true_eq] at h2
  exact ⟨h1.1, h2.1⟩
theorem Good.kids {many : Nat} {k : Nat} {s : ByteArray} {n : Int} {r : List T} (h : Good many (.mk k s n r)) : ∀ (j : Nat) (t : T), r[j]? = some t → Good many t := by
  intro j t hj
  obtain ⟨h1, h2⟩ := h
  constructor
  · by_cases k1 : k = 1
    · simp only [right, if_pos k1, Bool.and_eq_true] at h1
      obtain ⟨_, _, h3⟩ := h1
      have : r = [] := by simpa using h3
      rw [this] at hj
      simp at hj
    · simp only [right, if_neg k1] at h1
      have h3 : rightL r = true := by
        by_cases k2 : k = 2
        · simp only [if_pos k2, Bool.and_eq_true] at h1
          exact h1.2.2
        · by_cases k3 : k = 3
          · simp only [if_neg k2, if_pos k3, Bool.and_eq_true] at h1
            exact h1.2.2.2
          · by_cases k4 : k = 4
            · simp only [if_neg k2, if_neg k3, if_pos k4, Bool.and_eq_true] at h1
              exact h1.2.2.2
            · simp [if_neg k2, if_neg k3, if_neg k4] at h1
      exact (rightL_iff r).1 h3 j t hj
  · simp only [own, Bool.and_eq_true] at h2
    have h3 := h2.2
    rw [ownL_all, List.all_eq_true] at h3
    exact h3 t (List.mem_of_getElem? hj)
/-- what is bound may be -/
structure Fine (many : Nat) (l : Bs) : Prop where
  small : many ≤ 4096
  good : ∀ n x, look l n = some x → Good many x ∧ parts x ≤ 1048576
end Go.Proofs.Ytfjddfcndammdaa
