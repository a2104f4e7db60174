/- Ya, Wsa, Wta, Start -/
import Derived.Test.YtjabhmepafofmaaGreatDoorH01
import Derived.Test.YtjabhmepafofmaaGreatDoorG06
import Derived.Test.YtjabhmepafofmaaGreatDoorG05
set_option linter.unusedVariables false
set_option linter.unusedSimpArgs false
namespace Go.Proofs.YtjabhmepafofmaaGreatDoor
open Go.RowKit
structure Vd where
  gp : Nat
  a : Option Addr
  c : Nat
  l : List Tok
structure Ed (β : Type) where
  w : World
  m : Pr β
  p : Nat
abbrev Vd.ptr (v : Vd) : Value := .pointer (some ⟨v.gp, 0, none⟩)
abbrev Vd.at_ (v : Vd) (w : World) (q : Nat) : Prop := Par w v.gp v.a v.c v.l q
structure Td {β : Type} (v : Vd) (e : Ed β) (q : Nat) (m : Pr β) (w : World) : Prop where
  base : v.at_ e.w e.p
  blk : w.heap[v.gp]? = some (.cells #[.slice v.a v.l.length v.c, .int .i64 (q : Nat)] 49 (0, 0))
  le : q ≤ v.l.length
  run : m.run v.l q = e.m.run v.l e.p
  ne : e.m.run v.l e.p ≠ .out
abbrev Dx {β : Type} (v : Vd) (e : Ed β) (w : World) (q : Nat) (L : List It) (m : Pr β) : Prop := Gx v.gp e.w (Td v e q m) w L
def DP {β : Type} (v : Vd) (e : Ed β) (Rep : Nat → World → β → Ending → Prop) (d : Ending) (w' : World) : Prop := Post v.gp v.a v.c v.l e.w (Rep e.w.heap.size) (e.m.run v.l e.p) d w'
abbrev wrongE : Ending := .panicked [{ v := wrongP, recovered := false }]
section
variable {α β : Type} {v : Vd} {e : Ed β} {w w' : World} {q q' g : Nat} {L : List It} {m A B : Pr β} {P0 : Ending → World → Prop} {Rep : Nat → World → β → Ending → Prop}
theorem dc {f : FuncId} {args : List Value} (h : ∀ e : Ed β, Hid (Dx v e e.w e.p [] m) → Calls Tryz.prog f (v.ptr :: args).toArray e.w (DP v e Rep)) : CT v.gp v.a v.c v.l f args Rep m := fun w p hp ho =>
  h ⟨w, m, p⟩ (Lib.hid ⟨⟨hp, hp.blk, hp.le, rfl, ho⟩, Fr.refl _ _, Nat.le_refl _, lt_of_block hp.blk, fun u u' hu h => ⟨h.base, hu.trans h.blk, h.le, h.run, h.ne⟩⟩)
theorem dpar (h : Dx v e w q L m) : v.at_ w q := Par.of h.st.base h.fr h.st.blk h.st.le
theorem Gx.dle (h : Dx v e w q L m) : q ≤ v.l.length := h.st.le
theorem dset (h : Dx v e w q L m) {m' : Pr β} (hf : Fr (Just v.gp) w w') (hp : v.at_ w' q') (hr : m'.run v.l q' = m.run v.l q) : Dx v e w' q' L m' :=
  ⟨⟨h.st.base, hp.blk, hp.le, hr.trans h.st.run, h.st.ne⟩, h.fr.trans hf (fun _ _ h => h), (h.its.fr hf (fun k hk _ (x : k = v.gp) => by have := h.gpl; omega)).up hf.size, h.gpl, fun u u' hu h => ⟨h.base, hu.trans h.blk, h.le, h.run, h.ne⟩⟩
theorem dre (h : Hid (Dx v e w q L m)) {m' : Pr β} (hr : m'.run v.l q = m.run v.l q) : Hid (Dx v e w q L m') := Lib.hid (dset h.out (Fr.refl _ _) (dpar h.out) hr)
theorem dok {m1 : Pr α} {K : α → Pr β} {t : α} (h : Dx v e w q L (m1.bind K)) (hr : m1.run v.l q = .ok t q') (hf : Fr (Just v.gp) w w') (hp : v.at_ w' q') : Dx v e w' q' L (K t) := dset h hf hp (by rw [run_bind, hr]; rfl)
theorem dbad {m1 : Pr α} {K : α → Pr β} (h : Dx v e w q L (m1.bind K)) (hr : m1.run v.l q = .fail q') (hf : Fr (Just v.gp) w w') (hp : v.at_ w' q') : DP v e Rep wrongE w' := by
  unfold DP
  rw [← h.st.run, run_bind, hr]
  exact ⟨rfl, h.fr.trans hf (fun _ _ h => h), hp⟩
theorem dout {m1 : Pr α} {K : α → Pr β} (h : Dx v e w q L (m1.bind K)) : m1.run v.l q ≠ .out := fun x => h.st.ne (by rw [← h.st.run, run_bind, x]; rfl)
theorem dno (h : Hid (Dx v e w q L m)) (hf : Fr No w w') : Hid (Dx v e w' q L m) := no' h hf
/-- words or signs that are skipped: their row lies in a block -/
theorem skipk {ts : List ByteArray} {n : Nat} {c : List Value} {t : TypeId} (h : Hid (Dx v e w q (.blk g c t :: L) ((skip ts).bind fun x => if x = true then A else B))) (b : Bool) (hs : seesB (v.l.getD q zTok) ts = b)
    (k : ∀ w', (b = true → q < v.l.length) → Hid (Dx v e w' (q + b.toNat) L (if b = true then A else B)) → P0 (.returned (.bool b)) w') (hc : c = ts.map Value.string) (hn : ts.length = n) (hb : n ≤ 1048576) : Calls Tryz.prog 22 #[.pointer (some ⟨v.gp, 0, none⟩), .slice (some ⟨g, 0, none⟩) n n] w P0 := by
  subst hc
  refine (skip_any v.gp v.a v.c v.l q ts (some ⟨g, 0, none⟩) n n w (dpar h.out) hn hb (Texts.row (bk 0 h rfl))).mono ?_
  rintro _ w' ⟨rfl, hf, hp⟩
  rw [hs] at hp ⊢
  refine k w' (fun hb => lt_of_sees (hs.trans hb)) (Lib.hid (dset (rm0 h).out hf (by cases b <;> exact hp) ?_))
  rw [run_bind, run_skip, hs]
  cases b <;> rfl
theorem skipd {ts : List ByteArray} {n : Nat} {c : List Value} {t : TypeId} (h : Hid (Dx v e w q (.blk g c t :: L) ((skip ts).bind fun x => if x = true then A else B))) (k1 : ∀ w', q < v.l.length → Hid (Dx v e w' (q + 1) L A) → P0 (.returned (.bool true)) w')
    (k2 : ∀ w', Hid (Dx v e w' q L B) → P0 (.returned (.bool false)) w') (hc : c = ts.map Value.string) (hn : ts.length = n) (hb : n ≤ 1048576) : Calls Tryz.prog 22 #[.pointer (some ⟨v.gp, 0, none⟩), .slice (some ⟨g, 0, none⟩) n n] w P0 :=
  match hs : seesB (v.l.getD q zTok) ts with
  | true => skipk h true hs (fun w' a b => k1 w' (a rfl) b) hc hn hb
  | false => skipk h false hs (fun w' _ b => k2 w' b) hc hn hb
theorem skipy {ts : List ByteArray} {n : Nat} {c : List Value} {t : TypeId} (h : Hid (Dx v e w q (.blk g c t :: L) ((skip ts).bind fun x => if x = true then A else B))) (hs : Hid (seesB (v.l.getD q zTok) ts = true)) (k1 : ∀ w', q < v.l.length → Hid (Dx v e w' (q + 1) L A) → P0 (.returned (.bool true)) w')
    (hc : c = ts.map Value.string) (hn : ts.length = n) (hb : n ≤ 1048576) : Calls Tryz.prog 22 #[.pointer (some ⟨v.gp, 0, none⟩), .slice (some ⟨g, 0, none⟩) n n] w P0 := skipk h true hs.out (fun w' a b => k1 w' (a rfl) b) hc hn hb
theorem skipn {ts : List ByteArray} {n : Nat} {c : List Value} {t : TypeId} (h : Hid (Dx v e w q (.blk g c t :: L) ((skip ts).bind fun x => if x = true then A else B))) (hs : Hid (seesB (v.l.getD q zTok) ts = false))
    (k2 : ∀ w', Hid (Dx v e w' q L B) → P0 (.returned (.bool false)) w') (hc : c = ts.map Value.string) (hn : ts.length = n) (hb : n ≤ 1048576) : Calls Tryz.prog 22 #[.pointer (some ⟨v.gp, 0, none⟩), .slice (some ⟨g, 0, none⟩) n n] w P0 := skipk h false hs.out (fun w' _ b => k2 w' b) hc hn hb
theorem faild (h : Hid (Dx v e w q L .fail)) : DP v e Rep wrongE w := by
  unfold DP
  rw [← h.out.st.run]
  exact ⟨rfl, h.out.fr, dpar h.out⟩
theorem seesd {ts : List ByteArray} {n : Nat} {c : List Value} {t : TypeId} {tok : Tok} (h : Hid (Dx v e w q (.blk g c t :: L) m)) (ht : Hid (v.l.getD q zTok = tok)) (k1 : ∀ w', seesB tok ts = true → q < v.l.length → Hid (Dx v e w' q L m) → P0 (.returned (.bool true)) w')
    (k2 : ∀ w', seesB tok ts = false → Hid (Dx v e w' q L m) → P0 (.returned (.bool false)) w') (hc : c = ts.map Value.string) (hn : ts.length = n) (hb : n ≤ 1048576) : Calls Tryz.prog 51 #[.pointer (some ⟨v.gp, 0, none⟩), .slice (some ⟨g, 0, none⟩) n n] w P0 := by
  subst hc
  refine (sees_any v.gp v.a v.c v.l q ts (some ⟨g, 0, none⟩) n n w (dpar h.out) hn hb (Texts.row (bk 0 h rfl))).mono ?_
  rintro _ w' ⟨rfl, hf⟩
  have h2 := dno (rm0 h) hf
  cases hs : seesB (v.l.getD q zTok) ts with
  | true => exact k1 w' (by rw [← ht.out, hs]) (lt_of_sees hs) h2
  | false => exact k2 w' (by rw [← ht.out, hs]) h2
theorem headd {m2 : Nat → Pr β} (h : Hid (Dx v e w q L m)) (hd : ∀ {V : Re β}, runS v.l m q false = V → V ≠ .out → ∃ j, runS v.l (m2 j) q false = V) : ∃ j, Hid (Dx v e w q L (m2 j)) := by
  obtain ⟨j, hj⟩ := hd rfl (by rw [runS_good, h.out.st.run]; exact h.out.st.ne)
  exact ⟨j, dre h hj⟩
theorem dlook {K : Tok → Pr β} (h : Hid (Dx v e w q L (next.bind K))) : Hid (Dx v e w q L (K (v.l.getD q zTok))) := dre h rfl
theorem mustd {s : ByteArray} {K : Unit → Pr β} (h : Hid (Dx v e w q L ((must s).bind K))) (kf : ∀ w', DP v e Rep wrongE w' → P0 wrongE w') (k : ∀ w', q < v.l.length → Hid (Dx v e w' (q + 1) L (K ())) → P0 (.returned (.tuple #[])) w') : Calls Tryz.prog 13 #[.pointer (some ⟨v.gp, 0, none⟩), .string s] w P0 := by
  refine (must_any v.gp v.a v.c v.l q s w (dpar h.out)).mono ?_
  intro d w' hd
  cases hs : seesB (v.l.getD q zTok) [s] with
  | true =>
    have hr : (must s).run v.l q = .ok () (q + 1) := by rw [run_must, hs]; rfl
    rw [hr] at hd
    obtain ⟨rfl, hf, hp⟩ := hd
    exact k w' (lt_of_sees hs) (Lib.hid (dok h.out hr hf hp))
  | false =>
    have hr : (must s).run v.l q = .fail q := by rw [run_must, hs]; rfl
    rw [hr] at hd
    obtain ⟨rfl, hf, hp⟩ := hd
    exact kf w' (dbad h.out hr hf hp)
theorem taked {n : Nat} {K : ByteArray → Pr β} (h : Hid (Dx v e w q L ((take n).bind K))) (h0 : n ≠ 0) (kf : ∀ w', DP v e Rep wrongE w' → P0 wrongE w') (k : ∀ w' s, q < v.l.length → Hid (Dx v e w' (q + 1) L (K s)) → P0 (.returned (.string s)) w') : Calls Tryz.prog 23 #[.pointer (some ⟨v.gp, 0, none⟩), .int .u8 n] w P0 := by
  refine (take_any v.gp v.a v.c v.l q n h0 w (dpar h.out)).mono ?_
  intro d w' hd
  by_cases hs : (v.l.getD q zTok).kind = n
  · have hr : (take n).run v.l q = .ok (v.l.getD q zTok).text (q + 1) := by rw [run_take, if_pos hs]
    rw [hr] at hd
    obtain ⟨rfl, hf, hp⟩ := hd
    exact k w' _ (lt_of_kind h0 hs) (Lib.hid (dok h.out hr hf hp))
  · have hr : (take n).run v.l q = .fail q := by rw [run_take, if_neg hs]
    rw [hr] at hd
    obtain ⟨rfl, hf, hp⟩ := hd
    exact kf w' (dbad h.out hr hf hp)
/-- the next token, its parts by name -/
theorem nextd {K : Tok → Pr β} (h : Hid (Dx v e w q L (next.bind K))) (k : ∀ w' kt st mt qt, Hid (v.l.getD q zTok = ⟨kt, st, mt, qt⟩) → Hid (Dx v e w' q L (K ⟨kt, st, mt, qt⟩)) → P0 (.returned (.agg #[.int .u8 kt, .string st, .int .i64 mt, .int .i64 qt])) w') : Calls Tryz.prog 52 #[.pointer (some ⟨v.gp, 0, none⟩)] w P0 := by
  refine (next_any v.gp v.a v.c v.l q w (dpar h.out)).mono ?_
  rintro _ w' ⟨rfl, hf⟩
  obtain ⟨⟨kt, st, mt, qt⟩, ht⟩ : ∃ t, v.l.getD q zTok = t := ⟨_, rfl⟩
  rw [ht]
  refine k w' kt st mt qt (Lib.hid ht) (dre (dno h hf) ?_)
  rw [← ht]
  rfl
theorem seend {kt : Nat} {st : ByteArray} {mt qt : Int} (h : Hid (Dx v e w q L m)) (ht : Hid (v.l.getD q zTok = ⟨kt, st, mt, qt⟩)) (k : ∀ w', Hid (Dx v e w' q L m) → P0 (.returned (.agg #[.int .u8 kt, .string st, .int .i64 mt, .int .i64 qt])) w') : Calls Tryz.prog 52 #[.pointer (some ⟨v.gp, 0, none⟩)] w P0 := by
  refine (next_any v.gp v.a v.c v.l q w (dpar h.out)).mono ?_
  rintro _ w' ⟨rfl, hf⟩
  rw [ht.out]
  exact k w' (dno h hf)
theorem takekd {n kt : Nat} {st : ByteArray} {mt qt : Int} {K : ByteArray → Pr β} (h : Hid (Dx v e w q L ((take n).bind K))) (ht : Hid (v.l.getD q zTok = ⟨kt, st, mt, qt⟩)) (hk : kt = n) (h0 : n ≠ 0) (k : ∀ w', q < v.l.length → Hid (Dx v e w' (q + 1) L (K st)) → P0 (.returned (.string st)) w') : Calls Tryz.prog 23 #[.pointer (some ⟨v.gp, 0, none⟩), .int .u8 n] w P0 := by
  have hs : (v.l.getD q zTok).kind = n := by rw [ht.out]; exact hk
  have hr : (take n).run v.l q = .ok st (q + 1) := by rw [run_take, if_pos hs, ht.out]
  refine (take_any v.gp v.a v.c v.l q n h0 w (dpar h.out)).mono ?_
  rw [hr]
  rintro _ w' ⟨rfl, hf, hp⟩
  exact k w' (lt_of_kind h0 hs) (Lib.hid (dok h.out hr hf hp))
theorem posd {c : Prop} [Decidable c] (h : Hid (Dx v e w q L (if c then A else B))) (hc : c) : Hid (Dx v e w q L A) := by
  rw [if_pos hc] at h
  exact h
theorem negd {c : Prop} [Decidable c] (h : Hid (Dx v e w q L (if c then A else B))) (hc : ¬ c) : Hid (Dx v e w q L B) := by
  rw [if_neg hc] at h
  exact h
theorem taild (h : Hid (Dx v e w q L m)) : Hid (Dx v e w q L (m.bind .ret)) := dre h (by rw [bind_ret])
theorem calld0 {x : α → List X} {f : FuncId} {args : List Value} {m1 : Pr α} {K : α → Pr β} (h : Hid (Dx v e w q L (m1.bind K))) (F : CT v.gp v.a v.c v.l f args (stE x) m1) (kf : ∀ w', DP v e Rep wrongE w' → P0 wrongE w') (k : ∀ w' q' t cs, m1.run v.l q = .ok t q' → Hid (Dx v e w' q' (.val (x t) cs :: L) (K t)) → P0 (.returned (.agg cs.toArray)) w') : Calls Tryz.prog f (v.ptr :: args).toArray w P0 := by
  have ho := dout h.out
  refine (F w q (dpar h.out) ho).mono ?_
  intro d w' hd
  cases hr : m1.run v.l q with
  | out => exact absurd hr ho
  | fail q' =>
    rw [hr] at hd
    obtain ⟨rfl, hf, hp⟩ := hd
    exact kf w' (dbad h.out hr hf hp)
  | ok t q' =>
    rw [hr] at hd
    obtain ⟨⟨cs, rfl, hc⟩, hf, hp⟩ := hd
    have h2 := dok h.out hr hf hp
    exact k w' q' t cs hr (Lib.hid (h2.top ⟨w.heap.size, hf.size, hc.mono (fun k hk ho => ⟨ho, hk⟩), h.out.its.fr hf (fun k hk _ (x : k = v.gp) => by have := h.out.gpl; omega)⟩))
theorem calld {x : α → List X} {f : FuncId} {args : List Value} {m1 : Pr α} {K : α → Pr β} (h : Hid (Dx v e w q L (m1.bind K))) (F : CT v.gp v.a v.c v.l f args (stE x) m1) (kf : ∀ w', DP v e Rep wrongE w' → P0 wrongE w') (k : ∀ w' q' t cs, q ≤ q' → Hid (Dx v e w' q' (.val (x t) cs :: L) (K t)) → P0 (.returned (.agg cs.toArray)) w') : Calls Tryz.prog f (v.ptr :: args).toArray w P0 :=
  calld0 h F kf (fun w' q' t cs hr => k w' q' t cs (run_mono v.l m1 q q' t hr))
theorem callrowd {x : α → List X} {n : Nat} {f : FuncId} {args : List Value} {m1 : Pr (List α)} {K : List α → Pr β} (h : Hid (Dx v e w q L (m1.bind K))) (F : CT v.gp v.a v.c v.l f args (rowE n x) m1) (kf : ∀ w', DP v e Rep wrongE w' → P0 wrongE w') (k : ∀ w' q' t av cv, q ≤ q' → Hid (Dx v e w' q' (.row (.row n (t.map x)) (.slice av t.length cv) :: L) (K t)) → P0 (.returned (.slice av t.length cv)) w') : Calls Tryz.prog f (v.ptr :: args).toArray w P0 := by
  have ho := dout h.out
  refine (F w q (dpar h.out) ho).mono ?_
  intro d w' hd
  cases hr : m1.run v.l q with
  | out => exact absurd hr ho
  | fail q' =>
    rw [hr] at hd
    obtain ⟨rfl, hf, hp⟩ := hd
    exact kf w' (dbad h.out hr hf hp)
  | ok t q' =>
    rw [hr] at hd
    obtain ⟨⟨u, rfl, hc⟩, hf, hp⟩ := hd
    obtain ⟨av, cv, rfl⟩ := hx_slice hc
    rw [List.length_map] at hc ⊢
    have h2 := dok h.out hr hf hp
    exact k w' q' t av cv (run_mono v.l m1 q q' t hr) (Lib.hid (h2.top ⟨w.heap.size, hf.size, Hx.keep (fun k hk ho => ⟨rfl, ho, hk⟩) _ _ hc, h.out.its.fr hf (fun k hk _ (x : k = v.gp) => by have := h.out.gpl; omega)⟩))
theorem calltd {f : FuncId} {args : List Value} {m1 : Pr ByteArray} {K : ByteArray → Pr β} (h : Hid (Dx v e w q L (m1.bind K))) (F : CT v.gp v.a v.c v.l f args txE m1) (kf : ∀ w', DP v e Rep wrongE w' → P0 wrongE w') (k : ∀ w' q' t, q ≤ q' → Hid (Dx v e w' q' L (K t)) → P0 (.returned (.string t)) w') : Calls Tryz.prog f (v.ptr :: args).toArray w P0 := by
  have ho := dout h.out
  refine (F w q (dpar h.out) ho).mono ?_
  intro d w' hd
  cases hr : m1.run v.l q with
  | out => exact absurd hr ho
  | fail q' =>
    rw [hr] at hd
    obtain ⟨rfl, hf, hp⟩ := hd
    exact kf w' (dbad h.out hr hf hp)
  | ok t q' =>
    rw [hr] at hd
    obtain ⟨rfl, hf, hp⟩ := hd
    exact k w' q' t (run_mono v.l m1 q q' t hr) (Lib.hid (dok h.out hr hf hp))
theorem gd (h : Hid (Dx v e w q L m)) : w.heap[v.gp]? = some (.cells [.slice v.a v.l.length v.c, .int .i64 (q : Nat)].toArray 49 (0, 0)) := h.out.st.blk
theorem fewd (h : Hid (Dx v e w q L m)) {n : Nat} (hn : n ≤ q + 1) : n ≤ 1048577 := by
  have h1 := h.out.st.le
  have h2 := h.out.st.base.len
  omega
theorem retd (n : Nat) {x : β → List X} {y : β} {fn : Func} {s : Tmp} {t z : TypeId} {fs : Array Field} {c : List Value} {a : Act} (h : Hid (Dx v e w q L (.ret y))) (hn : nth L n = .blk g c t) (hu : Tryz.prog.underlying t = some (.struct fs)) (hz : (Tryz.prog.info? t).map (·.size) = some z) (hs : c.toArray.size = z) (h1 : fn.results = #[.cell s t]) (h2 : a.tmps.getD s undef = .pointer (some ⟨g, 0, none⟩)) (hd : a.defers = [])
    (hc : Hc (fun k => e.w.heap.size ≤ k) w (x y) c) : bodyPost Tryz.prog fn (DP v e (stE x)) .ret a w := by
  refine bodyPost_ret (results_st h1 hu hz _ _ g _ hs h2 (bk n h hn)) hd ?_
  unfold DP
  rw [← h.out.st.run]
  exact ⟨⟨_, rfl, hc⟩, h.out.fr, dpar h.out⟩
theorem retrd {α : Type} {k : Nat} {x : α → List X} {e : Ed (List α)} {y : List α} {u : Value} (h : Hid (Dx v e w q L (.ret y))) (hx : Hx (fun k => e.w.heap.size ≤ k) w (.row k (y.map x)) u) : DP v e (rowE k x) (.returned u) w := by
  unfold DP
  rw [← h.out.st.run]
  exact ⟨⟨_, rfl, hx⟩, h.out.fr, dpar h.out⟩
theorem advd (h : Hid (Dx v e w q L (.adv m))) (hq : q < v.l.length) (hn : w.setCell ⟨v.gp, 1, none⟩ (.int .i64 ((q : Int) + 1)) = w') : Hid (Dx v e w' (q + 1) L m) := by
  subst hn
  exact Lib.hid (dset h.out (m' := m) (Fr.setCell w ⟨v.gp, 1, none⟩ _) ((dpar h.out).set hq) rfl)
/-- at the head of a loop: one more, if there is the sign -/
theorem moredh {s : ByteArray} {one : Pr α} {k : List α → Pr β} {j : Nat} {acc : List α} (h : Hid (Dx v e w q L ((more s one j acc).bind k))) : ∃ j', Hid (Dx v e w q L ((skip [s]).bind fun c => if c = true then one.bind (fun x => (more s one j' (acc ++ [x])).bind k) else k acc)) := by
  cases j with
  | zero => exact absurd rfl (dout h.out)
  | succ j =>
    refine ⟨j, dre h ?_⟩
    rw [more, bind_assoc']
    congr 2
    funext c
    cases c
    · rfl
    · show one.bind _ = (one.bind _).bind k
      rw [bind_assoc']
end
section
variable {β : Type} {v : Vd} {e : Ed β} {w : World} {q : Nat} {L : List It} {P0 : Ending → World → Prop} {Rep : Nat → World → β → Ending → Prop}
theorem callTd {f : FuncId} {args : List Value} {m1 : Pr T} {K : T → Pr β} (h : Hid (Dx v e w q L (m1.bind K))) (F : CT v.gp v.a v.c v.l f args (stE xT) m1) (kf : ∀ w', DP v e Rep wrongE w' → P0 wrongE w') (kk : ∀ w' q' t (k : Nat) (s : ByteArray) (n : Int) (b1 : Option Addr) (m1 c1 : Nat), q ≤ q' → Hid (Dx v e w' q' (.val (xT t) [.int .u8 k, .string s, .int .i64 n, .slice b1 m1 c1] :: L) (K t)) → P0 (.returned (.agg #[.int .u8 k, .string s, .int .i64 n, .slice b1 m1 c1])) w') : Calls Tryz.prog f (v.ptr :: args).toArray w P0 :=
  calld h F kf (fun w' q' t cs hs hx => by
    obtain ⟨k, s, n, b1, m1, c1, rfl⟩ := hcT (vl 0 hx rfl)
    exact kk w' q' t _ _ _ _ _ _ hs hx)
theorem callEd {f : FuncId} {args : List Value} {m1 : Pr E} {K : E → Pr β} (h : Hid (Dx v e w q L (m1.bind K))) (F : CT v.gp v.a v.c v.l f args (stE xE) m1) (kf : ∀ w', DP v e Rep wrongE w' → P0 wrongE w') (kk : ∀ w' q' t (k : Nat) (s : ByteArray) (n : Int) (u : ByteArray) (b1 : Option Addr) (m1 c1 : Nat) (b2 : Option Addr) (m2 c2 : Nat) (b3 : Option Addr) (m3 c3 : Nat), q ≤ q' → Hid (Dx v e w' q' (.val (xE t) [.int .u8 k, .string s, .int .i64 n, .string u, .slice b1 m1 c1, .slice b2 m2 c2, .slice b3 m3 c3] :: L) (K t)) → P0 (.returned (.agg #[.int .u8 k, .string s, .int .i64 n, .string u, .slice b1 m1 c1, .slice b2 m2 c2, .slice b3 m3 c3])) w') : Calls Tryz.prog f (v.ptr :: args).toArray w P0 :=
  calld h F kf (fun w' q' t cs hs hx => by
    obtain ⟨k, s, n, u, b1, m1, c1, b2, m2, c2, b3, m3, c3, rfl⟩ := hcE (vl 0 hx rfl)
    exact kk w' q' t _ _ _ _ _ _ _ _ _ _ _ _ _ hs hx)
theorem callEpd {f : FuncId} {args : List Value} {m1 : Pr E} {K : E → Pr β} (h : Hid (Dx v e w q L (m1.bind K))) (F : CT v.gp v.a v.c v.l f args (stE xE) m1) (hp : ∀ (p q : Nat) (x : E), m1.run v.l p = .ok x q → p < q) (kf : ∀ w', DP v e Rep wrongE w' → P0 wrongE w') (kk : ∀ w' q' t (k : Nat) (s : ByteArray) (n : Int) (u : ByteArray) (b1 : Option Addr) (m1 c1 : Nat) (b2 : Option Addr) (m2 c2 : Nat) (b3 : Option Addr) (m3 c3 : Nat), q < q' → Hid (Dx v e w' q' (.val (xE t) [.int .u8 k, .string s, .int .i64 n, .string u, .slice b1 m1 c1, .slice b2 m2 c2, .slice b3 m3 c3] :: L) (K t)) → P0 (.returned (.agg #[.int .u8 k, .string s, .int .i64 n, .string u, .slice b1 m1 c1, .slice b2 m2 c2, .slice b3 m3 c3])) w') : Calls Tryz.prog f (v.ptr :: args).toArray w P0 :=
  calld0 h F kf (fun w' q' t cs hs hx => by
    obtain ⟨k, s, n, u, b1, m1, c1, b2, m2, c2, b3, m3, c3, rfl⟩ := hcE (vl 0 hx rfl)
    exact kk w' q' t _ _ _ _ _ _ _ _ _ _ _ _ _ (hp _ _ _ hs) hx)
theorem callRd {f : FuncId} {args : List Value} {m1 : Pr R} {K : R → Pr β} (h : Hid (Dx v e w q L (m1.bind K))) (F : CT v.gp v.a v.c v.l f args (stE xR) m1) (kf : ∀ w', DP v e Rep wrongE w' → P0 wrongE w') (kk : ∀ w' q' t (k : Nat) (s : ByteArray) (n : Int) (b1 : Option Addr) (m1 c1 : Nat) (k2 : Nat) (s2 : ByteArray) (n2 : Int) (u : ByteArray) (b4 : Option Addr) (m4 c4 : Nat) (b5 : Option Addr) (m5 c5 : Nat) (b6 : Option Addr) (m6 c6 : Nat), q ≤ q' → Hid (Dx v e w' q' (.val (xR t) [.int .u8 k, .string s, .int .i64 n, .slice b1 m1 c1, .int .u8 k2, .string s2, .int .i64 n2, .string u, .slice b4 m4 c4, .slice b5 m5 c5, .slice b6 m6 c6] :: L) (K t)) → P0 (.returned (.agg #[.int .u8 k, .string s, .int .i64 n, .slice b1 m1 c1, .int .u8 k2, .string s2, .int .i64 n2, .string u, .slice b4 m4 c4, .slice b5 m5 c5, .slice b6 m6 c6])) w') : Calls Tryz.prog f (v.ptr :: args).toArray w P0 :=
  calld h F kf (fun w' q' t cs hs hx => by
    obtain ⟨k, s, n, b1, m1, c1, k2, s2, n2, u, b4, m4, c4, b5, m5, c5, b6, m6, c6, rfl⟩ := hcR (vl 0 hx rfl)
    exact kk w' q' t _ _ _ _ _ _ _ _ _ _ _ _ _ _ _ _ _ _ _ hs hx)
theorem callCd {f : FuncId} {args : List Value} {m1 : Pr C} {K : C → Pr β} (h : Hid (Dx v e w q L (m1.bind K))) (F : CT v.gp v.a v.c v.l f args (stE xC) m1) (kf : ∀ w', DP v e Rep wrongE w' → P0 wrongE w') (kk : ∀ w' q' t (z : ByteArray) (y : Bool) (k : Nat) (s : ByteArray) (n : Int) (b1 : Option Addr) (m1 c1 : Nat), q ≤ q' → Hid (Dx v e w' q' (.val (xC t) [.string z, .bool y, .int .u8 k, .string s, .int .i64 n, .slice b1 m1 c1] :: L) (K t)) → P0 (.returned (.agg #[.string z, .bool y, .int .u8 k, .string s, .int .i64 n, .slice b1 m1 c1])) w') : Calls Tryz.prog f (v.ptr :: args).toArray w P0 :=
  calld h F kf (fun w' q' t cs hs hx => by
    obtain ⟨z, y, k, s, n, b1, m1, c1, rfl⟩ := hcC (vl 0 hx rfl)
    exact kk w' q' t _ _ _ _ _ _ _ _ hs hx)
theorem callFd {f : FuncId} {args : List Value} {m1 : Pr F} {K : F → Pr β} (h : Hid (Dx v e w q L (m1.bind K))) (F : CT v.gp v.a v.c v.l f args (stE xF) m1) (kf : ∀ w', DP v e Rep wrongE w' → P0 wrongE w') (kk : ∀ w' q' t (z : ByteArray) (a7 : Option Addr) (m7 c7 : Nat) (k2 : Nat) (s2 : ByteArray) (n2 : Int) (u : ByteArray) (b4 : Option Addr) (m4 c4 : Nat) (b5 : Option Addr) (m5 c5 : Nat) (b6 : Option Addr) (m6 c6 : Nat), q ≤ q' → Hid (Dx v e w' q' (.val (xF t) [.string z, .slice a7 m7 c7, .int .u8 k2, .string s2, .int .i64 n2, .string u, .slice b4 m4 c4, .slice b5 m5 c5, .slice b6 m6 c6] :: L) (K t)) → P0 (.returned (.agg #[.string z, .slice a7 m7 c7, .int .u8 k2, .string s2, .int .i64 n2, .string u, .slice b4 m4 c4, .slice b5 m5 c5, .slice b6 m6 c6])) w') : Calls Tryz.prog f (v.ptr :: args).toArray w P0 :=
  calld h F kf (fun w' q' t cs hs hx => by
    obtain ⟨z, a7, m7, c7, k2, s2, n2, u, b4, m4, c4, b5, m5, c5, b6, m6, c6, rfl⟩ := hcF (vl 0 hx rfl)
    exact kk w' q' t _ _ _ _ _ _ _ _ _ _ _ _ _ _ _ _ _ hs hx)
theorem callDd {f : FuncId} {args : List Value} {m1 : Pr D} {K : D → Pr β} (h : Hid (Dx v e w q L (m1.bind K))) (F : CT v.gp v.a v.c v.l f args (stE xD) m1) (kf : ∀ w', DP v e Rep wrongE w' → P0 wrongE w') (kk : ∀ w' q' t (z0 : Nat) (z : ByteArray) (a7 : Option Addr) (m7 c7 : Nat) (a8 : Option Addr) (m8 c8 : Nat) (a9 : Option Addr) (m9 c9 : Nat) (k : Nat) (s : ByteArray) (n : Int) (b1 : Option Addr) (m1 c1 : Nat) (k2 : Nat) (s2 : ByteArray) (n2 : Int) (u : ByteArray) (b4 : Option Addr) (m4 c4 : Nat) (b5 : Option Addr) (m5 c5 : Nat) (b6 : Option Addr) (m6 c6 : Nat), q ≤ q' → Hid (Dx v e w' q' (.val (xD t) [.int .u8 z0, .string z, .slice a7 m7 c7, .slice a8 m8 c8, .slice a9 m9 c9, .int .u8 k, .string s, .int .i64 n, .slice b1 m1 c1, .int .u8 k2, .string s2, .int .i64 n2, .string u, .slice b4 m4 c4, .slice b5 m5 c5, .slice b6 m6 c6] :: L) (K t)) → P0 (.returned (.agg #[.int .u8 z0, .string z, .slice a7 m7 c7, .slice a8 m8 c8, .slice a9 m9 c9, .int .u8 k, .string s, .int .i64 n, .slice b1 m1 c1, .int .u8 k2, .string s2, .int .i64 n2, .string u, .slice b4 m4 c4, .slice b5 m5 c5, .slice b6 m6 c6])) w') : Calls Tryz.prog f (v.ptr :: args).toArray w P0 :=
  calld h F kf (fun w' q' t cs hs hx => by
    obtain ⟨z0, z, a7, m7, c7, a8, m8, c8, a9, m9, c9, k, s, n, b1, m1, c1, k2, s2, n2, u, b4, m4, c4, b5, m5, c5, b6, m6, c6, rfl⟩ := hcD (vl 0 hx rfl)
    exact kk w' q' t _ _ _ _ _ _ _ _ _ _ _ _ _ _ _ _ _ _ _ _ _ _ _ _ _ _ _ _ _ _ hs hx)
end
end Go.Proofs.YtjabhmepafofmaaGreatDoor
namespace Go.Proofs.YtjabhmepafofmaaGreatDoor
open Go.RowKit
set_option maxHeartbeats 4000000 in
set_option maxRecDepth 100000 in
theorem some_ty' {v : Vd} {one : Pr T} {f1 : FuncId} (he : ∀ (args : Array Value) (u : World), Sem.run Tryz.prog (callFunc f1 args) u = .ok (.enter f1 args) u) (h : CT v.gp v.a v.c v.l f1 [] (stE xT) one) (sb : ByteArray) (n : Nat) : CT v.gp v.a v.c v.l 83 [.string sb, .func (.func f1) #[v.ptr] #[]] (rowE 4 xT) (some_ n sb one) := dc fun e HX => by
 have HH := Lib.hid h
 clear h
 replace HX := taild HX
 simp only [some_, bind_assoc'] at HX
 go_enter Tryz.func83, Tryz.ntmps83
 go_wp2_with fail
 refine callTd HX (HH.out) (fun _ h => ⟨rfl, h⟩) ?_; clear HX; intro w1 q2 x_x _ _ _ _ _ _ h3 HX
 go_upto_region 2 with fail
 generalize hn : w1.alloc _ = w4
 generalize hg : w1.heap.size = g_arr
 replace HX := alloc' HX hn hg
 clear hn hg
 replace HX := lit' HX rfl
 go_wp2_with fail
 go_loopw [7] (fun u wx => ∃ (m q j : Nat) (acc : List T) (av : Option Addr) (cv : Nat), u = .slice av m cv ∧ m ≤ q + 1 ∧ Hid (Dx v e wx q [.out 40 4 (.slice av m cv) m (acc.map xT)] ((more sb one j acc).bind .ret))) (fun u _ => v.l.length + 2 - lenOf u)
 case atStart => exact ⟨1, q2, n, [x_x], _, _, rfl, by omega, HX⟩
 case round =>
  clear HX
  obtain ⟨m, q, j, acc, av, cv, rfl, hmq, HX⟩ := hrel
  have hm := fewd HX hmq
  have hq := HX.out.dle
  obtain ⟨j2, HX⟩ := moredh HX
  go_wp2_with fail
  generalize hn : wr.alloc _ = w5
  generalize hg : wr.heap.size = g_sk
  replace HX := alloc' HX hn hg
  clear hn hg
  refine skipd HX ?_ ?_ (by rfl) (by rfl) (by decide)
  ·
   clear HX; intro w6 h7 HX
   go_wp2_with fail
   refine callTd HX (HH.out) (fun _ h => ⟨rfl, h⟩) ?_; clear HX; intro w8 q9 x_y _ _ _ _ _ _ h10 HX
   go_wp2_with (at_builtin; refine push' (alloc' HX rfl rfl) elemT (by decide) hm rfl _ _ 38 rfl Tryz.underlying38 rfl rfl (by simp [Value.oneCell']) rfl ?_; clear HX; intro a3 c3 w11 HX)
   exact ⟨⟨m + 1, q9, j2, acc ++ [x_y], a3, c3, rfl, by omega, snoc' HX⟩, by simp [lenOf]; omega⟩
  ·
   clear HX; intro w12 HX
   replace HX := row_ HX (by decide)
   go_wp2_with fail
   go_ret
   exact retrd HX (rw' 0 HX rfl)
theorem some_ty {gp : Nat} {a : Option Addr} {c : Nat} {l : List Tok} {one : Pr T} {f1 : FuncId} (he : ∀ (args : Array Value) (u : World), Sem.run Tryz.prog (callFunc f1 args) u = .ok (.enter f1 args) u) (h1 : CT gp a c l f1 [] (stE xT) one) (sb : ByteArray) (n : Nat) : CT gp a c l 83 [.string sb, .func (.func f1) #[.pointer (some ⟨gp, 0, none⟩)] #[]] (rowE 4 xT) (some_ n sb one) := some_ty' (v := ⟨gp, a, c, l⟩) he h1 sb n
set_option maxHeartbeats 4000000 in
set_option maxRecDepth 100000 in
theorem some_exp' {v : Vd} {one : Pr E} {f1 : FuncId} (he : ∀ (args : Array Value) (u : World), Sem.run Tryz.prog (callFunc f1 args) u = .ok (.enter f1 args) u) (h : CT v.gp v.a v.c v.l f1 [] (stE xE) one) (sb : ByteArray) (n : Nat) : CT v.gp v.a v.c v.l 112 [.string sb, .func (.func f1) #[v.ptr] #[]] (rowE 7 xE) (some_ n sb one) := dc fun e HX => by
 have HH := Lib.hid h
 clear h
 replace HX := taild HX
 simp only [some_, bind_assoc'] at HX
 go_enter Tryz.func112, Tryz.ntmps112
 go_wp2_with fail
 refine callEd HX (HH.out) (fun _ h => ⟨rfl, h⟩) ?_; clear HX; intro w1 q2 x_x _ _ _ _ _ _ _ _ _ _ _ _ _ h3 HX
 go_upto_region 2 with fail
 generalize hn : w1.alloc _ = w4
 generalize hg : w1.heap.size = g_arr
 replace HX := alloc' HX hn hg
 clear hn hg
 replace HX := lit' HX rfl
 go_wp2_with fail
 go_loopw [7] (fun u wx => ∃ (m q j : Nat) (acc : List E) (av : Option Addr) (cv : Nat), u = .slice av m cv ∧ m ≤ q + 1 ∧ Hid (Dx v e wx q [.out 44 7 (.slice av m cv) m (acc.map xE)] ((more sb one j acc).bind .ret))) (fun u _ => v.l.length + 2 - lenOf u)
 case atStart => exact ⟨1, q2, n, [x_x], _, _, rfl, by omega, HX⟩
 case round =>
  clear HX
  obtain ⟨m, q, j, acc, av, cv, rfl, hmq, HX⟩ := hrel
  have hm := fewd HX hmq
  have hq := HX.out.dle
  obtain ⟨j2, HX⟩ := moredh HX
  go_wp2_with fail
  generalize hn : wr.alloc _ = w5
  generalize hg : wr.heap.size = g_sk
  replace HX := alloc' HX hn hg
  clear hn hg
  refine skipd HX ?_ ?_ (by rfl) (by rfl) (by decide)
  ·
   clear HX; intro w6 h7 HX
   go_wp2_with fail
   refine callEd HX (HH.out) (fun _ h => ⟨rfl, h⟩) ?_; clear HX; intro w8 q9 x_y _ _ _ _ _ _ _ _ _ _ _ _ _ h10 HX
   go_wp2_with (at_builtin; refine push' (alloc' HX rfl rfl) elemE (by decide) hm rfl _ _ 41 rfl Tryz.underlying41 rfl rfl (by simp [Value.oneCell']) rfl ?_; clear HX; intro a3 c3 w11 HX)
   exact ⟨⟨m + 1, q9, j2, acc ++ [x_y], a3, c3, rfl, by omega, snoc' HX⟩, by simp [lenOf]; omega⟩
  ·
   clear HX; intro w12 HX
   replace HX := row_ HX (by decide)
   go_wp2_with fail
   go_ret
   exact retrd HX (rw' 0 HX rfl)
theorem some_exp {gp : Nat} {a : Option Addr} {c : Nat} {l : List Tok} {one : Pr E} {f1 : FuncId} (he : ∀ (args : Array Value) (u : World), Sem.run Tryz.prog (callFunc f1 args) u = .ok (.enter f1 args) u) (h1 : CT gp a c l f1 [] (stE xE) one) (sb : ByteArray) (n : Nat) : CT gp a c l 112 [.string sb, .func (.func f1) #[.pointer (some ⟨gp, 0, none⟩)] #[]] (rowE 7 xE) (some_ n sb one) := some_exp' (v := ⟨gp, a, c, l⟩) he h1 sb n
set_option maxHeartbeats 4000000 in
set_option maxRecDepth 100000 in
theorem some_pat' {v : Vd} {one : Pr T} {f1 : FuncId} (he : ∀ (args : Array Value) (u : World), Sem.run Tryz.prog (callFunc f1 args) u = .ok (.enter f1 args) u) (h : CT v.gp v.a v.c v.l f1 [] (stE xT) one) (sb : ByteArray) (n : Nat) : CT v.gp v.a v.c v.l 108 [.string sb, .func (.func f1) #[v.ptr] #[]] (rowE 4 xT) (some_ n sb one) := dc fun e HX => by
 have HH := Lib.hid h
 clear h
 replace HX := taild HX
 simp only [some_, bind_assoc'] at HX
 go_enter Tryz.func108, Tryz.ntmps108
 go_wp2_with fail
 refine callTd HX (HH.out) (fun _ h => ⟨rfl, h⟩) ?_; clear HX; intro w1 q2 x_x _ _ _ _ _ _ h3 HX
 go_upto_region 2 with fail
 generalize hn : w1.alloc _ = w4
 generalize hg : w1.heap.size = g_arr
 replace HX := alloc' HX hn hg
 clear hn hg
 replace HX := lit' HX rfl
 go_wp2_with fail
 go_loopw [7] (fun u wx => ∃ (m q j : Nat) (acc : List T) (av : Option Addr) (cv : Nat), u = .slice av m cv ∧ m ≤ q + 1 ∧ Hid (Dx v e wx q [.out 97 4 (.slice av m cv) m (acc.map xT)] ((more sb one j acc).bind .ret))) (fun u _ => v.l.length + 2 - lenOf u)
 case atStart => exact ⟨1, q2, n, [x_x], _, _, rfl, by omega, HX⟩
 case round =>
  clear HX
  obtain ⟨m, q, j, acc, av, cv, rfl, hmq, HX⟩ := hrel
  have hm := fewd HX hmq
  have hq := HX.out.dle
  obtain ⟨j2, HX⟩ := moredh HX
  go_wp2_with fail
  generalize hn : wr.alloc _ = w5
  generalize hg : wr.heap.size = g_sk
  replace HX := alloc' HX hn hg
  clear hn hg
  refine skipd HX ?_ ?_ (by rfl) (by rfl) (by decide)
  ·
   clear HX; intro w6 h7 HX
   go_wp2_with fail
   refine callTd HX (HH.out) (fun _ h => ⟨rfl, h⟩) ?_; clear HX; intro w8 q9 x_y _ _ _ _ _ _ h10 HX
   go_wp2_with (at_builtin; refine push' (alloc' HX rfl rfl) elemP (by decide) hm rfl _ _ 95 rfl Tryz.underlying95 rfl rfl (by simp [Value.oneCell']) rfl ?_; clear HX; intro a3 c3 w11 HX)
   exact ⟨⟨m + 1, q9, j2, acc ++ [x_y], a3, c3, rfl, by omega, snoc' HX⟩, by simp [lenOf]; omega⟩
  ·
   clear HX; intro w12 HX
   replace HX := row_ HX (by decide)
   go_wp2_with fail
   go_ret
   exact retrd HX (rw' 0 HX rfl)
theorem some_pat {gp : Nat} {a : Option Addr} {c : Nat} {l : List Tok} {one : Pr T} {f1 : FuncId} (he : ∀ (args : Array Value) (u : World), Sem.run Tryz.prog (callFunc f1 args) u = .ok (.enter f1 args) u) (h1 : CT gp a c l f1 [] (stE xT) one) (sb : ByteArray) (n : Nat) : CT gp a c l 108 [.string sb, .func (.func f1) #[.pointer (some ⟨gp, 0, none⟩)] #[]] (rowE 4 xT) (some_ n sb one) := some_pat' (v := ⟨gp, a, c, l⟩) he h1 sb n
set_option maxHeartbeats 4000000 in
set_option maxRecDepth 100000 in
theorem some_rule' {v : Vd} {one : Pr R} {f1 : FuncId} (he : ∀ (args : Array Value) (u : World), Sem.run Tryz.prog (callFunc f1 args) u = .ok (.enter f1 args) u) (h : CT v.gp v.a v.c v.l f1 [] (stE xR) one) (sb : ByteArray) (n : Nat) : CT v.gp v.a v.c v.l 53 [.string sb, .func (.func f1) #[v.ptr] #[]] (rowE 11 xR) (some_ n sb one) := dc fun e HX => by
 have HH := Lib.hid h
 clear h
 replace HX := taild HX
 simp only [some_, bind_assoc'] at HX
 go_enter Tryz.func53, Tryz.ntmps53
 go_wp2_with fail
 refine callRd HX (HH.out) (fun _ h => ⟨rfl, h⟩) ?_; clear HX; intro w1 q2 x_x _ _ _ _ _ _ _ _ _ _ _ _ _ _ _ _ _ _ _ h3 HX
 go_upto_region 2 with fail
 generalize hn : w1.alloc _ = w4
 generalize hg : w1.heap.size = g_arr
 replace HX := alloc' HX hn hg
 clear hn hg
 replace HX := lit' HX rfl
 go_wp2_with fail
 go_loopw [7] (fun u wx => ∃ (m q j : Nat) (acc : List R) (av : Option Addr) (cv : Nat), u = .slice av m cv ∧ m ≤ q + 1 ∧ Hid (Dx v e wx q [.out 99 11 (.slice av m cv) m (acc.map xR)] ((more sb one j acc).bind .ret))) (fun u _ => v.l.length + 2 - lenOf u)
 case atStart => exact ⟨1, q2, n, [x_x], _, _, rfl, by omega, HX⟩
 case round =>
  clear HX
  obtain ⟨m, q, j, acc, av, cv, rfl, hmq, HX⟩ := hrel
  have hm := fewd HX hmq
  have hq := HX.out.dle
  obtain ⟨j2, HX⟩ := moredh HX
  go_wp2_with fail
  generalize hn : wr.alloc _ = w5
  generalize hg : wr.heap.size = g_sk
  replace HX := alloc' HX hn hg
  clear hn hg
  refine skipd HX ?_ ?_ (by rfl) (by rfl) (by decide)
  ·
   clear HX; intro w6 h7 HX
   go_wp2_with fail
   refine callRd HX (HH.out) (fun _ h => ⟨rfl, h⟩) ?_; clear HX; intro w8 q9 x_y _ _ _ _ _ _ _ _ _ _ _ _ _ _ _ _ _ _ _ h10 HX
   go_wp2_with (at_builtin; refine push' (alloc' HX rfl rfl) elemR (by decide) hm rfl _ _ 42 rfl Tryz.underlying42 rfl rfl (by simp [Value.oneCell']) rfl ?_; clear HX; intro a3 c3 w11 HX)
   exact ⟨⟨m + 1, q9, j2, acc ++ [x_y], a3, c3, rfl, by omega, snoc' HX⟩, by simp [lenOf]; omega⟩
  ·
   clear HX; intro w12 HX
   replace HX := row_ HX (by decide)
   go_wp2_with fail
   go_ret
   exact retrd HX (rw' 0 HX rfl)
theorem some_rule {gp : Nat} {a : Option Addr} {c : Nat} {l : List Tok} {one : Pr R} {f1 : FuncId} (he : ∀ (args : Array Value) (u : World), Sem.run Tryz.prog (callFunc f1 args) u = .ok (.enter f1 args) u) (h1 : CT gp a c l f1 [] (stE xR) one) (sb : ByteArray) (n : Nat) : CT gp a c l 53 [.string sb, .func (.func f1) #[.pointer (some ⟨gp, 0, none⟩)] #[]] (rowE 11 xR) (some_ n sb one) := some_rule' (v := ⟨gp, a, c, l⟩) he h1 sb n
end Go.Proofs.YtjabhmepafofmaaGreatDoor
namespace Go.Proofs.YtjabhmepafofmaaGreatDoor
open Go.RowKit
set_option maxHeartbeats 4000000 in
set_option maxRecDepth 100000 in
theorem tick_step {gp : Nat} {a : Option Addr} {c : Nat} {l : List Tok} : CT gp a c l 57 [] txE (take 3) := by
 intro w p hp ho
 have HP := Lib.hid hp
 rw [run_take] at ho ⊢
 clear hp ho
 by_cases hk : (l.getD p zTok).kind = 3
 ·
  rw [if_pos hk]
  have HK := Lib.hid hk
  clear hk
  go_enter Tryz.func57, Tryz.ntmps57
  go_wp2_with fail
  refine (take_good HP.out (by decide) HK.out).mono ?_
  rintro e w1 ⟨rfl, hf, hp1⟩
  go_wp2_with fail
  go_ret
  exact ⟨rfl, hf, hp1⟩
 ·
  rw [if_neg hk]
  have HK := Lib.hid hk
  clear hk
  go_enter Tryz.func57, Tryz.ntmps57
  go_wp2_with fail
  refine (take_bad HP.out (by decide) HK.out).mono ?_
  rintro e w1 ⟨rfl, hf, hp1⟩
  exact ⟨rfl, rfl, hf, hp1⟩
set_option maxHeartbeats 4000000 in
set_option maxRecDepth 100000 in
theorem tyAtom_step' {v : Vd} {g : Gr} {n : Nat} (h : Oks v.gp v.a v.c v.l g) : CT v.gp v.a v.c v.l 97 [] (stE xT) (g.pTyAtom n) := dc fun e HX => by
 have HH := Lib.hid h
 clear h
 simp only [pTyAtom_eq] at HX
 go_enter Tryz.func97, Tryz.ntmps97
 go_upto_region 1 with fail
 generalize hn : e.w.alloc _ = w1
 generalize hg : e.w.heap.size = g_r
 replace HX := alloc' HX hn hg
 clear hn hg
 go_wp2_with fail
 refine nextd HX ?_; clear HX; intro w2 kt_t st_t mt_t qt_t HT_t HX
 go_wp2_with fail
 simp only [field49_0]
 by_cases hk3_t : kt_t = 3
 ·
  replace HX := posd HX hk3_t
  have D3_t := kq (k := kt_t) (z := 3) (by omega)
  go_wp2_with fail
  refine calltd HX (tick_step) (fun _ h => ⟨rfl, h⟩) ?_; clear HX; intro w3 q4 st_t2 h5 HX
  have D_r := d4 (bk 0 HX rfl)
  go_wp2_with fail
  clear D_r
  generalize hn : World.setCell _ ⟨g_r, 3, none⟩ _ = w6
  replace HX := put0 HX (pT hn)
  clear hn
  exact retd 0 HX rfl Tryz.underlying40 (by kernel_rfl) rfl rfl rfl rfl (hcT_none 1 st_t2 0)
 ·
  replace HX := negd HX hk3_t
  have D3_t := kn' (k := kt_t) (z := 3) (by omega)
  by_cases hk1_t : kt_t = 1
  ·
   replace HX := posd HX hk1_t
   have D1_t := kq (k := kt_t) (z := 1) (by omega)
   go_wp2_with fail
   refine takekd HX HT_t hk1_t (by decide) ?_; clear HX; intro w7 h8 HX
   have D_r := d4 (bk 0 HX rfl)
   go_wp2_with fail
   clear D_r
   generalize hn : World.setCell _ ⟨g_r, 3, none⟩ _ = w9
   replace HX := put0 HX (pT hn)
   clear hn
   exact retd 0 HX rfl Tryz.underlying40 (by kernel_rfl) rfl rfl rfl rfl (hcT_none 2 st_t 0)
  ·
   replace HX := negd HX hk1_t
   have D1_t := kn' (k := kt_t) (z := 1) (by omega)
   go_wp2_with fail
   refine mustd HX (fun _ h => ⟨rfl, h⟩) ?_; clear HX; intro w10 h11 HX
   go_wp2_with fail
   refine callrowd HX (some_ty enters30 HH.out.ty ⟨#[44]⟩ n) (fun _ h => ⟨rfl, h⟩) ?_; clear HX; intro w12 q13 x_l a_l c_l h14 HX
   obtain ⟨m, hacc⟩ : ∃ m, x_l.length = m := ⟨_, rfl⟩
   rw [hacc] at HX ⊢
   simp only [tyK] at HX
   go_wp2_with fail
   refine mustd HX (fun _ h => ⟨rfl, h⟩) ?_; clear HX; intro w15 h16 HX
   rcases x_l with _ | ⟨y1, _ | ⟨y2, yr⟩⟩
   ·
    obtain rfl : m = 0 := hacc.symm
    simp only [tyK2] at HX
    go_wp2_with fail
    refine taked HX (by decide) (fun _ h => ⟨rfl, h⟩) ?_; clear HX; intro w17 st_n h18 HX
    have D_r := d4 (bk 1 HX rfl)
    go_wp2_with fail
    clear D_r
    generalize hn : World.setCell _ ⟨g_r, 3, none⟩ _ = w19
    replace HX := put1 HX (pT hn)
    clear hn
    exact retd 1 HX rfl Tryz.underlying40 (by kernel_rfl) rfl rfl rfl rfl (hcT_mk 2 st_n 0 (rw' 0 HX rfl))
   ·
    obtain rfl : m = 1 := hacc.symm
    simp only [tyK2] at HX
    obtain ⟨g_l, o_l, _, _, _, _, _, _, rfl, D_l, HX⟩ := elT HX
    have D_r := d4 (bk 1 HX rfl)
    go_wp2_with fail
    clear D_r D_l
    generalize hn : World.setCell _ ⟨g_r, 3, none⟩ _ = w20
    replace HX := put1 HX (pT hn)
    clear hn
    exact retd 1 HX rfl Tryz.underlying40 (by kernel_rfl) rfl rfl rfl rfl ((vl 0 HX rfl))
   ·
    have hbl : ((m : Int) == 1) = false := by
     simp only [beq_eq_false_iff_ne, ne_eq]
     simp only [List.length_cons] at hacc
     omega
    simp only [tyK2] at HX
    go_wp2_with fail
    refine taked HX (by decide) (fun _ h => ⟨rfl, h⟩) ?_; clear HX; intro w21 st_n h22 HX
    have D_r := d4 (bk 1 HX rfl)
    go_wp2_with fail
    clear D_r
    generalize hn : World.setCell _ ⟨g_r, 3, none⟩ _ = w23
    replace HX := put1 HX (pT hn)
    clear hn
    exact retd 1 HX rfl Tryz.underlying40 (by kernel_rfl) rfl rfl rfl rfl (hcT_mk 2 st_n 0 (rw' 0 HX rfl))
theorem tyAtom_step {gp : Nat} {a : Option Addr} {c : Nat} {l : List Tok} {g : Gr} {n : Nat} (h : Oks gp a c l g) : CT gp a c l 97 [] (stE xT) (g.pTyAtom n) := tyAtom_step' (v := ⟨gp, a, c, l⟩) h
end Go.Proofs.YtjabhmepafofmaaGreatDoor
namespace Go.Proofs.YtjabhmepafofmaaGreatDoor
open Go.RowKit
/-- the row of texts lies in a block -/
theorem ss_any {gp : Nat} {a : Option Addr} {c : Nat} {l : List Tok} {p g n : Nat} {ts : List ByteArray} {w : World} {B : Bool} (h : Par w gp a c l p) (hg : w.heap[g]? = some (.cells (ts.map Value.string).toArray 9 (0, 0))) (hn : ts.length = n) (hb : n ≤ 1048576) (hB : seesB (l.getD p zTok) ts = B) :
    Calls Tryz.prog 51 #[.pointer (some ⟨gp, 0, none⟩), .slice (some ⟨g, 0, none⟩) n n] w (SaidB w B) := by
  rw [← hB]
  exact sees_any gp a c l p ts _ n n w h hn hb (Texts.row hg)
set_option maxHeartbeats 4000000 in
set_option maxRecDepth 100000 in
theorem starts_any {gp : Nat} {a : Option Addr} {c : Nat} {l : List Tok} {p : Nat} {w : World} {B : Bool} (h : Par w gp a c l p) (hB : Gr.startsB (l.getD p zTok) = B) :
    Calls Tryz.prog 96 #[.pointer (some ⟨gp, 0, none⟩)] w (SaidB w B) := by
  have HN := Lib.hid (next_any gp a c l p w h)
  have HP := Lib.hid h
  have HS : Hid (∀ w', Fr No w w' → ∀ g z, w'.heap[g]? = some (.cells #[.string ⟨#[116, 114, 117, 101]⟩, .string ⟨#[102, 97, 108, 115, 101]⟩, .string ⟨#[108, 101, 116]⟩, .string ⟨#[40]⟩, .string ⟨#[33]⟩, .string ⟨#[126]⟩] z (0, 0)) → Calls Tryz.prog 51 #[.pointer (some ⟨gp, 0, none⟩), .slice (some ⟨g, 0, none⟩) 6 6] w' (SaidB w' (seesB (l.getD p zTok) [⟨#[116, 114, 117, 101]⟩, ⟨#[102, 97, 108, 115, 101]⟩, ⟨#[108, 101, 116]⟩, ⟨#[40]⟩, ⟨#[33]⟩, ⟨#[126]⟩]))) :=
    Lib.hid (fun w' hf g z hb => sees_any gp a c l p [⟨#[116, 114, 117, 101]⟩, ⟨#[102, 97, 108, 115, 101]⟩, ⟨#[108, 101, 116]⟩, ⟨#[40]⟩, ⟨#[33]⟩, ⟨#[126]⟩] _ 6 6 w' (h.no hf) rfl (by omega) (Texts.row (l := [⟨#[116, 114, 117, 101]⟩, ⟨#[102, 97, 108, 115, 101]⟩, ⟨#[108, 101, 116]⟩, ⟨#[40]⟩, ⟨#[33]⟩, ⟨#[126]⟩]) hb))
  clear h
  obtain ⟨t, htk⟩ : ∃ t, l.getD p zTok = t := ⟨_, rfl⟩
  rw [htk] at HN hB HS
  simp only [Gr.startsB] at hB
  obtain ⟨S, hSB⟩ : ∃ S, seesB t [⟨#[116, 114, 117, 101]⟩, ⟨#[102, 97, 108, 115, 101]⟩, ⟨#[108, 101, 116]⟩, ⟨#[40]⟩, ⟨#[33]⟩, ⟨#[126]⟩] = S := ⟨_, rfl⟩
  rw [hSB] at HS hB
  clear htk hSB
  obtain ⟨kt, st, mt, qt⟩ := t
  simp only [] at hB
  simp only [tokV] at HN
  have HB := Lib.hid hB
  clear hB
  go_enter Tryz.func96, Tryz.ntmps96
  go_wp2_with fail
  refine HN.out.mono ?_
  rintro e w1 ⟨rfl, hf1⟩
  have HF1 := Lib.hid hf1
  clear hf1 HN
  go_wp2_with fail
  simp only [field49_0]
  by_cases h1 : kt = 1
  · have HE : Hid (B = true) := Lib.hid (by rw [← HB.out]; simp [h1])
    have hq1 : ((kt : Int) == 1) = true := by simp [h1]
    clear h1 
    go_wp2_with fail
    go_ret
    exact ⟨by rw [HE.out]; rfl, HF1.out⟩
  have hq1 : ((kt : Int) == 1) = false := by simp only [beq_eq_false_iff_ne, ne_eq]; omega
  by_cases h2 : kt = 2
  · have HE : Hid (B = true) := Lib.hid (by rw [← HB.out]; simp [h2])
    have hq2 : ((kt : Int) == 2) = true := by simp [h2]
    clear h2 h1
    go_wp2_with fail
    go_ret
    exact ⟨by rw [HE.out]; rfl, HF1.out⟩
  have hq2 : ((kt : Int) == 2) = false := by simp only [beq_eq_false_iff_ne, ne_eq]; omega
  by_cases h4 : kt = 4
  · have HE : Hid (B = true) := Lib.hid (by rw [← HB.out]; simp [h4])
    have hq4 : ((kt : Int) == 4) = true := by simp [h4]
    clear h4 h1 h2
    go_wp2_with fail
    go_ret
    exact ⟨by rw [HE.out]; rfl, HF1.out⟩
  have hq4 : ((kt : Int) == 4) = false := by simp only [beq_eq_false_iff_ne, ne_eq]; omega
  by_cases h5 : kt = 5
  · have HE : Hid (B = true) := Lib.hid (by rw [← HB.out]; simp [h5])
    have hq5 : ((kt : Int) == 5) = true := by simp [h5]
    clear h5 h1 h2 h4
    go_wp2_with fail
    go_ret
    exact ⟨by rw [HE.out]; rfl, HF1.out⟩
  have hq5 : ((kt : Int) == 5) = false := by simp only [beq_eq_false_iff_ne, ne_eq]; omega
  have HE : Hid (B = S) := Lib.hid (by rw [← HB.out, decide_eq_false h1, decide_eq_false h2, decide_eq_false h4, decide_eq_false h5]; rfl)
  clear h1 h2 h4 h5
  go_wp2_with fail
  refine (HS.out _ (HF1.out.then (Fr.alloc _ _)) _ _ (new_block _ _)).mono ?_
  rintro e w2 ⟨rfl, hf2⟩
  have HF2 : Hid (Fr No w w2) := Lib.hid ((HF1.out.then (Fr.alloc _ _)).then hf2)
  clear hf2
  go_wp2_with fail
  go_ret
  exact ⟨by rw [HE.out]; rfl, HF2.out⟩
end Go.Proofs.YtjabhmepafofmaaGreatDoor
namespace Go.Proofs.YtjabhmepafofmaaGreatDoor
open Go.RowKit
theorem Grows.keeps {B : Nat} {w w' : World} {v v' : Value} (h : Grows B w w' v v') {b : Nat} {o : Obj} (hb : w.heap[b]? = some o) (ha : Av v b) : w'.heap[b]? = some o := ((h.av b (lt_of_block hb) ha).1).trans hb
theorem Grows.avs {B : Nat} {w w' : World} {v v' : Value} (h : Grows B w w' v v') {b : Nat} {o : Obj} (hb : w.heap[b]? = some o) (ha : Av v b) : Av v' b := (h.av b (lt_of_block hb) ha).2
theorem av_ne {g b n c : Nat} (h : g ≠ b) : Av (.slice (some ⟨g, 0, none⟩) n c) b := by
  simp only [Av, Value.ownBlock, ne_eq, Option.some.injEq]
  exact h
theorem av_none {b n c : Nat} : Av (.slice none n c) b := by simp [Av, Value.ownBlock]
namespace Gr
variable (g : Gr)
def ifE (acc : List E) : Pr E := (must ⟨#[101, 108, 115, 101]⟩).bind fun _ => g.exp.bind fun e => .ret (mkE 9 nob (acc ++ [e]))
def ifT (acc : List E) : Pr E := (must ⟨#[116, 104, 101, 110]⟩).bind fun _ => g.exp.bind fun e => g.ifE (acc ++ [e])
end Gr
end Go.Proofs.YtjabhmepafofmaaGreatDoor
namespace Go.Proofs.YtjabhmepafofmaaGreatDoor
open Go.RowKit
theorem setCell_size (w : World) (a : Addr) (v : Value) : (w.setCell a v).heap.size = w.heap.size := by
  simp
theorem setFrom_size (g : Nat) : ∀ (i : Nat) (vs : List Value) (w : World), (setFrom g i vs w).heap.size = w.heap.size
  | _, [], w => rfl
  | i, v :: r, w => (setFrom_size g (i + 1) r _).trans (setCell_size w _ v)
theorem setL_size (g : Nat) : ∀ (vs : List (Nat × Value)) (w : World), (setL g vs w).heap.size = w.heap.size
  | [], w => rfl
  | (i, v) :: r, w => (setL_size g r _).trans (setCell_size w _ v)
end Go.Proofs.YtjabhmepafofmaaGreatDoor
namespace Go.Proofs.YtjabhmepafofmaaGreatDoor
open Go.RowKit
theorem alloc_size (w : World) (o : Obj) : (w.alloc o).heap.size = w.heap.size + 1 := by
  exact Array.size_push _
end Go.Proofs.YtjabhmepafofmaaGreatDoor
namespace Go.Proofs.YtjabhmepafofmaaGreatDoor
open Go.RowKit
theorem sees_lt {l : List Tok} {p : Nat} {ts : List ByteArray} (h : seesB (l.getD p zTok) ts = true) : p < l.length := by
  rcases Nat.lt_or_ge p l.length with h1 | h1
  · exact h1
  · rw [getD_end h1] at h
    cases h
end Go.Proofs.YtjabhmepafofmaaGreatDoor
namespace Go.Proofs.YtjabhmepafofmaaGreatDoor
open Go.RowKit
def putLs : List (Nat × Value) → List Value → List Value
  | [], cs => cs
  | (i, v) :: r, cs => putLs r (cs.set i v)
theorem setLs_block {g : Nat} {t : TypeId} {z : Nat × Nat} : ∀ (vs : List (Nat × Value)) (cs : List Value) (w : World), w.heap[g]? = some (.cells cs.toArray t z) → (setL g vs w).heap[g]? = some (.cells (putLs vs cs).toArray t z)
  | [], cs, w, h => h
  | (i, v) :: r, cs, w, h => setLs_block r _ _ ((block_setCell h i v).trans (by rw [List.setIfInBounds_toArray]))
end Go.Proofs.YtjabhmepafofmaaGreatDoor
