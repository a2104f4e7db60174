/- Xd, Xat, Xca -/
import Derived.Test.YtjabhmepafofmaaGreatDoorH01
set_option linter.unusedVariables false
set_option linter.unusedSimpArgs false
namespace Go.Proofs.YtjabhmepafofmaaGreatDoor
open Go.RowKit
def tupK (l : List E) : Pr E := (must ⟨#[41]⟩).bind fun _ => .ret (Gr.mkE 6 nob l)
def seqK (l : List E) : Pr E := (must ⟨#[41]⟩).bind fun _ => .ret (Gr.seqs l)
theorem pRound_eq (g : Gr) (n : Nat) : g.pRound n = (skip [⟨#[41]⟩]).bind fun b => if b = true then .ret (Gr.mkE 5 nob []) else g.exp.bind fun e => (skip [⟨#[44]⟩]).bind fun b => if b = true then (some_ n ⟨#[44]⟩ g.exp).bind fun l => tupK (e :: l) else (skip [⟨#[59]⟩]).bind fun b => if b = true then (some_ n ⟨#[59]⟩ g.exp).bind (fun l => seqK (e :: l)) else seqK [e] := rfl
theorem more_cons {α β : Type} {s : ByteArray} {one : Pr α} {e : α} {K : List α → Pr β} : ∀ (n : Nat) (acc : List α), (more s one n (e :: acc)).bind K = (more s one n acc).bind fun t => K (e :: t)
  | 0, acc => rfl
  | n + 1, acc => by
    rw [more, more, bind_assoc', bind_assoc']
    congr 1
    funext c
    cases c
    · rfl
    · show (one.bind _).bind _ = (one.bind _).bind _
      rw [bind_assoc', bind_assoc']
      congr 1
      funext x
      exact more_cons n (acc ++ [x])
theorem more_pre {α β : Type} {s : ByteArray} {one : Pr α} {e : α} {K : List α → Pr β} {n : Nat} : (more s one (n + 1) [e]).bind K = (skip [s]).bind fun b => if b = true then (some_ n s one).bind (fun t => K (e :: t)) else K [e] := by
  rw [more, bind_assoc']
  congr 1
  funext c
  cases c
  · rfl
  · show (one.bind _).bind _ = (some_ n s one).bind _
    rw [bind_assoc', some_, bind_assoc']
    congr 1
    funext x
    exact more_cons n [x]
theorem tup_pre {α β : Type} {l : List Tok} {s : ByteArray} {one : Pr α} {e : α} {K : List α → Pr β} {R : Pr β} {n q : Nat} {V : Re β} (h : runS l ((skip [s]).bind fun b => if b = true then (some_ n s one).bind (fun t => K (e :: t)) else R) q false = V) (hs : seesB (l.getD q zTok) [s] = true) : runS l ((more s one (n + 1) [e]).bind K) q false = V := by
  rw [more_pre, ← skip_some h hs]
  show _ = runS l ((some_ n s one).bind fun t => K (e :: t)) (q + 1) false
  exact (skip_some rfl hs).symm
theorem seqs_last (x : E) : Gr.seqs [x] = x := rfl
theorem seqs_cons (x y : E) (r : List E) : Gr.seqs (x :: y :: r) = Gr.mkE 14 nob [x, Gr.seqs (y :: r)] := by
  unfold Gr.seqs
  rw [List.dropLast_cons_cons, Gr.seqE]
  rfl
theorem seqs_drop {l : List E} {i : Nat} {x : E} (hx : l[i]? = some x) (hi : i + 1 < l.length) : Gr.seqs (l.drop i) = Gr.mkE 14 nob [x, Gr.seqs (l.drop (i + 1))] := by
  have h1 := (List.getElem?_eq_some_iff.1 hx).1
  have h2 : l[i] = x := by
    rw [List.getElem?_eq_getElem h1] at hx
    exact Option.some.inj hx
  rw [List.drop_eq_getElem_cons h1, h2, List.drop_eq_getElem_cons hi, seqs_cons]
theorem seqs_end {l : List E} {i : Nat} {x : E} (hx : l[i]? = some x) (hi : l.length = i + 1) : Gr.seqs (l.drop i) = x := by
  have h1 := (List.getElem?_eq_some_iff.1 hx).1
  have h2 : l[i] = x := by
    rw [List.getElem?_eq_getElem h1] at hx
    exact Option.some.inj hx
  rw [List.drop_eq_getElem_cons h1, h2, List.drop_of_length_le (by omega)]
  rfl
def seqM (v : Value) : Nat := match v with
  | .int _ z => (z + 1).toNat
  | _ => 0
section
variable {β : Type} {v : Vw} {e : Ev β} {w w' : World} {q : Nat} {b : Bool} {L : List It} {m : Pr β} {n : Nat} {one : Pr E} {y : E} {K : List E → Pr β} {R : Pr β} {s : ByteArray}
theorem tup' (h : Hid (Cx v e w q b L ((skip [s]).bind fun b => if b = true then (some_ n s one).bind (fun t => K (y :: t)) else R))) (hl : letterB s = false) (hz : signB (rtok v.l q b) s = true) : Hid (Cx v e w q b L ((more s one (n + 1) [y]).bind K)) := by
  cases b with
  | true => cases hz
  | false => exact as' h (tup_pre rfl (by rw [sign_sees hl]; exact hz))
theorem seq' {s2 : ByteArray} (h : Hid (Cx v e w q b L ((skip [s]).bind fun b => if b = true then R else (skip [s2]).bind fun b => if b = true then (some_ n s2 one).bind (fun t => K (y :: t)) else K [y]))) (hl : letterB s = false) (hz : signB (rtok v.l q b) s = false) : Hid (Cx v e w q b L ((more s2 one (n + 1) [y]).bind K)) := by
  have h2 := neg' (skipno' h (fun hb => by rw [← sign_c hl hb]; exact hz)) (by decide)
  rw [more_pre]
  exact h2
theorem el_any {acc : List E} {i k : Nat} {y : E} {ok : Nat → Prop} {av : Option Addr} {cv : Nat} (h : Hx ok w (.row 7 (acc.map xE)) (.slice av k cv)) (hy : acc[i]? = some y) :
    ∃ (g o k1 : Nat) (s : ByteArray) (n : Int) (u : ByteArray) (b1 : Option Addr) (m1 c1 : Nat) (b2 : Option Addr) (m2 c2 : Nat) (b3 : Option Addr) (m3 c3 : Nat), av = some ⟨g, o, none⟩ ∧ (∀ w', Fr No w w' → w'.cell? ⟨g, o + i * 7, none⟩ = some (.int .u8 k1) ∧ w'.cell? ⟨g, o + i * 7 + 1, none⟩ = some (.string s) ∧ w'.cell? ⟨g, o + i * 7 + 2, none⟩ = some (.int .i64 n) ∧ w'.cell? ⟨g, o + i * 7 + 3, none⟩ = some (.string u) ∧ w'.cell? ⟨g, o + i * 7 + 4, none⟩ = some (.slice b1 m1 c1) ∧ w'.cell? ⟨g, o + i * 7 + 5, none⟩ = some (.slice b2 m2 c2) ∧ w'.cell? ⟨g, o + i * 7 + 6, none⟩ = some (.slice b3 m3 c3)) ∧ Hc ok w (xE y) [.int .u8 k1, .string s, .int .i64 n, .string u, .slice b1 m1 c1, .slice b2 m2 c2, .slice b3 m3 c3] := by
  obtain ⟨g, o, c, ea, _, _, hc, hx⟩ := hx_at h (j := i) (x := xE y) (by rw [List.getElem?_map, hy]; rfl)
  obtain ⟨k1, s, n, u, b1, m1, c1, b2, m2, c2, b3, m3, c3, rfl⟩ := hcE hx
  exact ⟨g, o, k1, s, n, u, b1, m1, c1, b2, m2, c2, b3, m3, c3, ea, fun w' hf => ⟨hf.cell (hc 0 _ rfl), hf.cell (hc 1 _ rfl), hf.cell (hc 2 _ rfl), hf.cell (hc 3 _ rfl), hf.cell (hc 4 _ rfl), hf.cell (hc 5 _ rfl), hf.cell (hc 6 _ rfl)⟩, hx⟩
variable {g g1 g2 : Nat} {x z : List X} {c d c1 c2 cd c1_ c2_ : List Value} {t t1 t2 : TypeId} {ls : List (List X)} {av : Option Addr} {k cv : Nat} {i0 : It}
theorem ely {acc : List E} {i : Nat} {y : E} (h : Hid (Cx v e w q b (.row (.row 7 (acc.map xE)) (.slice av k cv) :: .blk g2 c2_ t2 :: L) m)) (hy : acc[i]? = some y) :
    ∃ (g o k1 : Nat) (s : ByteArray) (n : Int) (u : ByteArray) (b1 : Option Addr) (m1 c1 : Nat) (b2 : Option Addr) (m2 c2 : Nat) (b3 : Option Addr) (m3 c3 : Nat), av = some ⟨g, o, none⟩ ∧ (∀ w', Fr No w w' → w'.cell? ⟨g, o + i * 7, none⟩ = some (.int .u8 k1) ∧ w'.cell? ⟨g, o + i * 7 + 1, none⟩ = some (.string s) ∧ w'.cell? ⟨g, o + i * 7 + 2, none⟩ = some (.int .i64 n) ∧ w'.cell? ⟨g, o + i * 7 + 3, none⟩ = some (.string u) ∧ w'.cell? ⟨g, o + i * 7 + 4, none⟩ = some (.slice b1 m1 c1) ∧ w'.cell? ⟨g, o + i * 7 + 5, none⟩ = some (.slice b2 m2 c2) ∧ w'.cell? ⟨g, o + i * 7 + 6, none⟩ = some (.slice b3 m3 c3)) ∧ Hid (Cx v e w q b (.mix g2 g2 (xE y) [.int .u8 k1, .string s, .int .i64 n, .string u, .slice b1 m1 c1, .slice b2 m2 c2, .slice b3 m3 c3] :: .row (.row 7 (acc.map xE)) (.slice av k cv) :: .blk g2 c2_ t2 :: L) m) := by
  obtain ⟨b1, h1, h2, h3, h4, h5⟩ := h.out.its
  have h6 := Its.le h5
  obtain ⟨g, o, k1, s, n, u, e1, m1, c1, e2, m2, c2, e3, m3, c3, ea, hc, hx⟩ := el_any h2 hy
  exact ⟨g, o, k1, s, n, u, e1, m1, c1, e2, m2, c2, e3, m3, c3, ea, hc, Lib.hid (h.out.top ⟨hx.mono (fun k _ hk => ⟨by omega, hk.2, by omega, by omega⟩), b1, h1, h2, h3, h4, h5⟩)⟩
theorem mixu (h : Hid (Cx v e w q b (.blk g1 c1 t1 :: .mix g2 g2 x c :: L) m)) : Hid (Cx v e w q b (.mix g1 g2 x c :: .blk g1 c1 t1 :: L) m) := by
  obtain ⟨h1, h2, h3, h4⟩ := h.out.its
  exact Lib.hid (h.out.top ⟨h3.mono (fun k _ hk => ⟨hk.1, by omega, by omega, hk.2.2.1⟩), h1, h2, h4⟩)
theorem elz {acc : List E} {i : Nat} {y : E} (h : Hid (Cx v e w q b (.mix g1 g2 z d :: .blk g1 c1_ t1 :: .row (.row 7 (acc.map xE)) (.slice av k cv) :: .blk g2 c2_ t2 :: L) m)) (hy : acc[i]? = some y) :
    ∃ (g o k1 : Nat) (s : ByteArray) (n : Int) (u : ByteArray) (b1 : Option Addr) (m1 c1 : Nat) (b2 : Option Addr) (m2 c2 : Nat) (b3 : Option Addr) (m3 c3 : Nat), av = some ⟨g, o, none⟩ ∧ (∀ w', Fr No w w' → w'.cell? ⟨g, o + i * 7, none⟩ = some (.int .u8 k1) ∧ w'.cell? ⟨g, o + i * 7 + 1, none⟩ = some (.string s) ∧ w'.cell? ⟨g, o + i * 7 + 2, none⟩ = some (.int .i64 n) ∧ w'.cell? ⟨g, o + i * 7 + 3, none⟩ = some (.string u) ∧ w'.cell? ⟨g, o + i * 7 + 4, none⟩ = some (.slice b1 m1 c1) ∧ w'.cell? ⟨g, o + i * 7 + 5, none⟩ = some (.slice b2 m2 c2) ∧ w'.cell? ⟨g, o + i * 7 + 6, none⟩ = some (.slice b3 m3 c3)) ∧ Hid (Cx v e w q b (.mix g1 g2 (xE y) [.int .u8 k1, .string s, .int .i64 n, .string u, .slice b1 m1 c1, .slice b2 m2 c2, .slice b3 m3 c3] :: .mix g1 g2 z d :: .blk g1 c1_ t1 :: .row (.row 7 (acc.map xE)) (.slice av k cv) :: .blk g2 c2_ t2 :: L) m) := by
  have h0 := h.out.its
  obtain ⟨h1, h2, h3, b1, h4, h5, h6, h7, h8⟩ := h.out.its
  have h9 := Its.le h8
  obtain ⟨g, o, k1, s, n, u, e1, m1, c1, e2, m2, c2, e3, m3, c3, ea, hc, hx⟩ := el_any h5 hy
  exact ⟨g, o, k1, s, n, u, e1, m1, c1, e2, m2, c2, e3, m3, c3, ea, hc, Lib.hid (h.out.top ⟨hx.mono (fun k _ hk => ⟨by omega, by omega, by omega, by omega⟩), h0⟩)⟩
theorem mmtwo {k2 : Nat} (h : Hid (Cx v e w q b (.blk g cd t :: .mix g1 g2 x c :: .mix g1 g2 z d :: .blk g1 c1 t1 :: i0 :: .blk g2 c2 t2 :: L) m)) (he : c ++ d = cd) (hc : c.length = k2) (hd : d.length = k2) (hk : 0 < k2) : Hx (fun k => e.w.heap.size ≤ k ∧ k < w.heap.size ∧ k ≠ g1 ∧ k ≠ g2) w (.row k2 [x, z]) (.slice (some ⟨g, 0, none⟩) 2 2) := by
  subst he
  obtain ⟨h1, h2, h3, h4, h5, h6, h7⟩ := h.out.its
  obtain ⟨b1, h8, h9, h10, h11⟩ := Its.sub h7
  have h12 := Its.le h11
  exact hx_two h2 ⟨by omega, h1, by omega, by omega⟩ hc hd hk (h3.mono (fun k _ hk => ⟨hk.1, by have := hk.2.1; omega, hk.2.2⟩)) (h4.mono (fun k _ hk => ⟨hk.1, by have := hk.2.1; omega, hk.2.2⟩))
theorem reg2' {ops : Array Oper} {Q : Exit → Act → World → Prop} {id : Nat} {a : Act} (h : Hid (Cx v e w q b L m)) {S : World → Prop} (hS : ∀ w', Fr No w w' → S w') (Z : List Nat) (hm : Tryz.prog.follows .mixedOrders = true) (K : ∀ w', Hid (Fr No w w') → Hid (Cx v e w' q b L m) → S w' → wpAnyE Tryz.prog .any ops Q S Z ops.size (Array.replicate ops.size false) a w') : (Code.region id ops true).wp Tryz.prog Q a w :=
  region_e S Z hm (hS _ (Fr.drew w)) (fun hH => K _ (Lib.hid (Fr.drew w)) (no' h (Fr.drew w)) hH)
end
end Go.Proofs.YtjabhmepafofmaaGreatDoor
namespace Go.Proofs.YtjabhmepafofmaaGreatDoor
open Go.RowKit
set_option maxHeartbeats 4000000 in
set_option maxRecDepth 100000 in
theorem atom_x {v : Vw} {g : Gr} (hro : g.round = .out ∨ ∃ n g2, g.round = g2.pRound n ∧ QOks v g2) (h : QOks v g) : QC v.dn 0 107 [] (stE xE) g.pAtom := qc fun e he HX => by
 have HH := Lib.hid h
 have HE := Lib.hid he
 clear h he
 simp only [Gr.pAtom] at HX
 have HRO := Lib.hid hro
 clear hro
 go_enter Tryz.func107, Tryz.ntmps107
 go_upto_region 1 with fail
 generalize hn : e.w.alloc _ = w1
 generalize hg : e.w.heap.size = g_r
 replace HX := alloc' HX hn hg
 clear hn hg
 go_wp2_with fail
 refine next' HX ?_; clear HX; intro w2 kt_t st_t mt_t qt_t HT_t HX
 go_upto_region 2 with fail
 generalize hn : w2.alloc _ = w3
 generalize hg : w2.heap.size = g_t
 replace HX := alloc' HX hn hg
 clear hn hg
 by_cases hk1_t : kt_t = 1
 ·
  have D1_t := kq (k := kt_t) (z := 1) (by omega)
  replace HX := pos' HX hk1_t
  have HZ := known' HX HT_t (by show kt_t ≠ 0; omega)
  clear HX
  obtain ⟨HX, hltt⟩ := HZ
  have hk := few HX (Nat.le_succ e.p)
  have D_t := d4 (bk 0 HX rfl)
  have D_gp := d3 (bg HX)
  go_upto_region 4 with fail
  clear hk
  clear D_t D_gp
  generalize hn : World.setCell _ ⟨v.gp, 1, none⟩ _ = w4
  replace HX := adv' HX hltt hn
  clear hn
  have D_t := d4 (bk 0 HX rfl)
  have D_r := d7 (bk 1 HX rfl)
  go_wp2_with fail
  clear D_t D_r
  generalize hn : World.setCell _ ⟨g_r, 6, none⟩ _ = w5
  replace HX := put1 HX (pE hn)
  clear hn
  exact ret' 1 HX rfl Tryz.underlying44 (by kernel_rfl) rfl rfl rfl rfl (hcE_kids 1 st_t 0 nob (hx_nil _))
 have D1_t := kn' (k := kt_t) (z := 1) (by omega)
 replace HX := neg' HX hk1_t
 by_cases hk2_t : kt_t = 2
 ·
  have D2_t := kq (k := kt_t) (z := 2) (by omega)
  replace HX := pos' HX (.inl hk2_t)
  have HZ := known' HX HT_t (by show kt_t ≠ 0; omega)
  clear HX
  obtain ⟨HX, hltt⟩ := HZ
  have hk := few HX (Nat.le_succ e.p)
  have D_t := d4 (bk 0 HX rfl)
  have D_gp := d3 (bg HX)
  go_upto_region 7 with fail
  clear hk
  clear D_t D_gp
  generalize hn : World.setCell _ ⟨v.gp, 1, none⟩ _ = w6
  replace HX := adv' HX hltt hn
  clear hn
  have D_t := d4 (bk 0 HX rfl)
  have D_r := d7 (bk 1 HX rfl)
  go_wp2_with fail
  clear D_t D_r
  generalize hn : World.setCell _ ⟨g_r, 6, none⟩ _ = w7
  replace HX := put1 HX (pE hn)
  clear hn
  exact ret' 1 HX rfl Tryz.underlying44 (by kernel_rfl) rfl rfl rfl rfl (hcE_kids 2 st_t 0 nob (hx_nil _))
 have D2_t := kn' (k := kt_t) (z := 2) (by omega)
 have D_t := d4 (bk 0 HX rfl)
 go_wp2_with fail
 clear D_t
 refine word' HX ?_; clear HX; intro w8 HX
 rw [HT_t.out]
 cases hz2 : wordB ⟨kt_t, st_t, mt_t, qt_t⟩ ⟨#[116, 114, 117, 101]⟩ with
 | true =>
  replace HX := pos' HX (.inr (by rw [tf_eq, hz2]; rfl))
  have hk6 := k6 hz2
  dsimp only at hk6
  have HZ := known' HX HT_t (by show kt_t ≠ 0; omega)
  clear HX
  obtain ⟨HX, hltt⟩ := HZ
  clear hk6 hz2
  have hk := few HX (Nat.le_succ e.p)
  have D_gp := d3 (bg HX)
  go_upto_region 7 with fail
  clear hk
  clear D_gp
  generalize hn : World.setCell _ ⟨v.gp, 1, none⟩ _ = w9
  replace HX := adv' HX hltt hn
  clear hn
  have D_t := d4 (bk 0 HX rfl)
  have D_r := d7 (bk 1 HX rfl)
  go_wp2_with fail
  clear D_t D_r
  generalize hn : World.setCell _ ⟨g_r, 6, none⟩ _ = w10
  replace HX := put1 HX (pE hn)
  clear hn
  exact ret' 1 HX rfl Tryz.underlying44 (by kernel_rfl) rfl rfl rfl rfl (hcE_kids 2 st_t 0 nob (hx_nil _))
 | false =>
  go_wp2_with fail
  refine word' HX ?_; clear HX; intro w11 HX
  rw [HT_t.out]
  cases hz3 : wordB ⟨kt_t, st_t, mt_t, qt_t⟩ ⟨#[102, 97, 108, 115, 101]⟩ with
  | true =>
   replace HX := pos' HX (.inr (by rw [tf_eq, hz2, hz3]; rfl))
   have hk6 := k6 hz3
   dsimp only at hk6
   have HZ := known' HX HT_t (by show kt_t ≠ 0; omega)
   clear HX
   obtain ⟨HX, hltt⟩ := HZ
   clear hk6 hz2 hz3
   have hk := few HX (Nat.le_succ e.p)
   have D_gp := d3 (bg HX)
   go_upto_region 7 with fail
   clear hk
   clear D_gp
   generalize hn : World.setCell _ ⟨v.gp, 1, none⟩ _ = w12
   replace HX := adv' HX hltt hn
   clear hn
   have D_t := d4 (bk 0 HX rfl)
   have D_r := d7 (bk 1 HX rfl)
   go_wp2_with fail
   clear D_t D_r
   generalize hn : World.setCell _ ⟨g_r, 6, none⟩ _ = w13
   replace HX := put1 HX (pE hn)
   clear hn
   exact ret' 1 HX rfl Tryz.underlying44 (by kernel_rfl) rfl rfl rfl rfl (hcE_kids 2 st_t 0 nob (hx_nil _))
  | false =>
   have hno : ¬ (kt_t = 2 ∨ seesB ⟨kt_t, st_t, mt_t, qt_t⟩ [⟨#[116, 114, 117, 101]⟩, ⟨#[102, 97, 108, 115, 101]⟩] = true) := by
    rintro (h | h)
    · exact hk2_t h
    ·
     rw [tf_eq, hz2, hz3] at h
     cases h
   replace HX := neg' HX hno
   clear hno hz2 hz3
   by_cases hk4_t : kt_t = 4
   ·
    have D4_t := kq (k := kt_t) (z := 4) (by omega)
    replace HX := pos' HX hk4_t
    have HZ := known' HX HT_t (by show kt_t ≠ 0; omega)
    clear HX
    obtain ⟨HX, hltt⟩ := HZ
    have hk := few HX (Nat.le_succ e.p)
    have D_t := d4 (bk 0 HX rfl)
    have D_gp := d3 (bg HX)
    go_upto_region 10 with fail
    clear hk
    clear D_t D_gp
    generalize hn : World.setCell _ ⟨v.gp, 1, none⟩ _ = w14
    replace HX := adv' HX hltt hn
    clear hn
    have D_t := d4 (bk 0 HX rfl)
    have D_r := d7 (bk 1 HX rfl)
    go_wp2_with fail
    clear D_t D_r
    generalize hn : World.setCell _ ⟨g_r, 6, none⟩ _ = w15
    replace HX := put1 HX (pE hn)
    clear hn
    exact ret' 1 HX rfl Tryz.underlying44 (by kernel_rfl) rfl rfl rfl rfl (hcE_kids 3 nob mt_t nob (hx_nil _))
   have D4_t := kn' (k := kt_t) (z := 4) (by omega)
   replace HX := neg' HX hk4_t
   by_cases hk5_t : kt_t = 5
   ·
    have D5_t := kq (k := kt_t) (z := 5) (by omega)
    replace HX := pos' HX hk5_t
    have HZ := known' HX HT_t (by show kt_t ≠ 0; omega)
    clear HX
    obtain ⟨HX, hltt⟩ := HZ
    have hk := few HX (Nat.le_succ e.p)
    have D_t := d4 (bk 0 HX rfl)
    have D_gp := d3 (bg HX)
    go_upto_region 13 with fail
    clear hk
    clear D_t D_gp
    generalize hn : World.setCell _ ⟨v.gp, 1, none⟩ _ = w16
    replace HX := adv' HX hltt hn
    clear hn
    have D_t := d4 (bk 0 HX rfl)
    have D_r := d7 (bk 1 HX rfl)
    go_wp2_with fail
    clear D_t D_r
    generalize hn : World.setCell _ ⟨g_r, 6, none⟩ _ = w17
    replace HX := put1 HX (pE hn)
    clear hn
    exact ret' 1 HX rfl Tryz.underlying44 (by kernel_rfl) rfl rfl rfl rfl (hcE_kids 4 nob 0 st_t (hx_nil _))
   have D5_t := kn' (k := kt_t) (z := 5) (by omega)
   replace HX := neg' HX hk5_t
   have D_t := d4 (bk 0 HX rfl)
   go_wp2_with fail
   clear D_t
   refine word' HX ?_; clear HX; intro w18 HX
   go_wp2_with fail
   clear hk1_t hk2_t hk4_t hk5_t D1_t D2_t D4_t D5_t
   refine may' HX (word_c (by kernel_rfl)) ?_ ?_
   ·
    clear HX; intro w19 h20 HX
    have HG := good' HX
    go_wp2_with fail
    replace HX := tail' HX
    refine callE HX (HH.out.let_) (.inr HG.out) ?_; clear HX; intro w21 q22 b23 x_e _ _ _ _ _ _ _ _ _ _ _ _ _ h24 HX
    have D_r := d7 (bk 2 HX rfl)
    go_wp2_with fail
    clear D_r
    generalize hn : World.setCell _ ⟨g_r, 6, none⟩ _ = w25
    replace HX := put2 HX (pE hn)
    clear hn
    exact ret' 2 HX rfl Tryz.underlying44 (by kernel_rfl) rfl rfl rfl rfl ((vl 0 HX rfl))
   ·
    clear HX; intro w26 HX
    go_wp2_with fail
    refine sign' HX ?_; clear HX; intro w27 HX
    go_wp2_with fail
    refine must' HX (sign_c (by kernel_rfl)) ?_; clear HX; intro w28 q29 b30 h31 I31 HX
    go_upto_region 17 with fail
    have D_gp := d3 (bg HX)
    cases b30 with
    | true =>
     have D_r := d7 (bk 1 HX rfl)
     go_wp2_with fail
     clear D_r D_gp
     replace HX := any' (m' := .ret zE) HX
     generalize hn : World.setCell _ ⟨g_r, 6, none⟩ _ = w32
     replace HX := put1 HX (pE hn)
     clear hn
     exact ret' 1 HX rfl Tryz.underlying44 (by kernel_rfl) rfl rfl rfl rfl (hc_zE)
    | false =>
     go_wp2_with fail
     clear D_gp
     have HG := good' HX
     obtain ⟨n, g2, hro, hh⟩ := rnd' HX HRO
     simp only [hro, pRound_eq] at HX
     replace HH := Lib.hid hh
     clear hro hh
     refine sign' HX ?_; clear HX; intro w33 HX
     go_wp2_with fail
     refine may' HX (sign_c (by kernel_rfl)) ?_ ?_
     ·
      clear HX; intro w34 h35 HX
      have D_r := d7 (bk 1 HX rfl)
      go_wp2_with fail
      clear D_r
      generalize hn : World.setCell _ ⟨g_r, 6, none⟩ _ = w36
      replace HX := put1 HX (pE hn)
      clear hn
      exact ret' 1 HX rfl Tryz.underlying44 (by kernel_rfl) rfl rfl rfl rfl (hcE_kids 5 nob 0 nob (hx_nil _))
     ·
      clear HX; intro w37 HX
      go_wp2_with fail
      refine callE HX (HH.out.exp) (.inr HG.out) ?_; clear HX; intro w38 q39 b40 x_x _ _ _ _ _ _ _ _ _ _ _ _ _ h41 HX
      go_upto_region 22 with fail
      generalize hn : w38.alloc _ = w42
      generalize hg : w38.heap.size = g_arr
      replace HX := alloc' HX hn hg
      clear hn hg
      replace HX := lit' HX rfl
      go_wp2_with fail
      refine sign' HX ?_; clear HX; intro w43 HX
      cases hz : signB (rtok v.l q39 b40) ⟨#[44]⟩ with
      | true =>
       replace HX := tup' (K := tupK) HX (by kernel_rfl) hz
       clear hz
       go_upto_region 23 with fail
       replace HX := rm1 HX
       go_loopw [4] (fun u wx => ∃ (m q j : Nat) (bb : Bool) (acc : List E) (av : Option Addr) (cv : Nat), u = .slice av m cv ∧ m ≤ q + 1 ∧ q ≤ v.l.length ∧ Hid (Cx v e wx q bb [.out 44 7 (.slice av m cv) m (acc.map xE), .blk g_r [.int .u8 0, .string ⟨#[]⟩, .int .i64 0, .string ⟨#[]⟩, .slice none 0 0, .slice none 0 0, .slice none 0 0] 44] ((more ⟨#[44]⟩ g2.exp j acc).bind tupK))) (fun u _ => v.l.length + 2 - lenOf u)
       case atStart => exact ⟨1, q39, (n + 1), b40, [x_x], _, _, rfl, by omega, HX.out.le, HX⟩
       case round =>
        clear HX
        obtain ⟨m, q, j, bb, acc, av, cv, rfl, hmq, hq, HX⟩ := hrel
        have hm := few HX hmq
        obtain ⟨j2, hv⟩ := more_head rfl (ne' HX)
        replace HX := as' HX hv
        clear hv
        go_wp2_with fail
        refine sign' HX ?_; clear HX; intro w44 HX
        go_wp2_with fail
        refine may' HX (sign_c (by kernel_rfl)) ?_ ?_
        ·
         clear HX; intro w45 h46 HX
         have HG := good' HX
         go_wp2_with fail
         refine callE HX (HH.out.exp) (.inr HG.out) ?_; clear HX; intro w47 q48 b49 x_y _ _ _ _ _ _ _ _ _ _ _ _ _ h50 HX
         go_wp2_with (at_builtin; refine push' (alloc' HX rfl rfl) elemE (by decide) hm rfl _ _ 41 rfl Tryz.underlying41 rfl rfl (by simp [Value.oneCell']) rfl ?_; clear HX; intro a3 c3 w51 HX)
         exact ⟨⟨m + 1, q48, j2, b49, acc ++ [x_y], a3, c3, rfl, by omega, HX.out.le, snoc' HX⟩, by simp [lenOf]; omega⟩
        ·
         clear HX; intro w52 HX
         have hacc : acc.length = m := by have h := len' HX; rwa [List.length_map] at h
         replace HX := row_ HX (by decide)
         simp only [tupK] at HX
         go_wp2_with fail
         refine sign' HX ?_; clear HX; intro w53 HX
         go_wp2_with fail
         refine must' HX (sign_c (by kernel_rfl)) ?_; clear HX; intro w54 q55 b56 h57 I57 HX
         have D_r := d7 (bk 1 HX rfl)
         go_wp2_with fail
         clear D_r
         generalize hn : World.setCell _ ⟨g_r, 6, none⟩ _ = w58
         replace HX := put1 HX (pE hn)
         clear hn
         exact ret' 1 HX rfl Tryz.underlying44 (by kernel_rfl) rfl rfl rfl rfl (hcE_kids 6 nob 0 nob (rw' 0 HX rfl))
      | false =>
       replace HX := seq' (K := seqK) HX (by kernel_rfl) hz
       clear hz
       go_upto_region 27 with fail
       replace HX := rm1 HX
       go_loopw [4] (fun u wx => ∃ (m q j : Nat) (bb : Bool) (acc : List E) (av : Option Addr) (cv : Nat), u = .slice av m cv ∧ m ≤ q + 1 ∧ 0 < m ∧ q ≤ v.l.length ∧ Hid (Cx v e wx q bb [.out 44 7 (.slice av m cv) m (acc.map xE), .blk g_r [.int .u8 0, .string ⟨#[]⟩, .int .i64 0, .string ⟨#[]⟩, .slice none 0 0, .slice none 0 0, .slice none 0 0] 44] ((more ⟨#[59]⟩ g2.exp j acc).bind seqK))) (fun u _ => v.l.length + 2 - lenOf u)
       case atStart => exact ⟨1, q39, (n + 1), b40, [x_x], _, _, rfl, by omega, by omega, HX.out.le, HX⟩
       case round =>
        clear HX
        obtain ⟨m, q, j, bb, acc, av, cv, rfl, hmq, hm0, hq, HX⟩ := hrel
        have hm := few HX hmq
        obtain ⟨j2, hv⟩ := more_head rfl (ne' HX)
        replace HX := as' HX hv
        clear hv
        go_wp2_with fail
        refine sign' HX ?_; clear HX; intro w59 HX
        go_wp2_with fail
        refine may' HX (sign_c (by kernel_rfl)) ?_ ?_
        ·
         clear HX; intro w60 h61 HX
         have HG := good' HX
         go_wp2_with fail
         refine callE HX (HH.out.exp) (.inr HG.out) ?_; clear HX; intro w62 q63 b64 x_y _ _ _ _ _ _ _ _ _ _ _ _ _ h65 HX
         go_wp2_with (at_builtin; refine push' (alloc' HX rfl rfl) elemE (by decide) hm rfl _ _ 41 rfl Tryz.underlying41 rfl rfl (by simp [Value.oneCell']) rfl ?_; clear HX; intro a3 c3 w66 HX)
         exact ⟨⟨m + 1, q63, j2, b64, acc ++ [x_y], a3, c3, rfl, by omega, by omega, HX.out.le, snoc' HX⟩, by simp [lenOf]; omega⟩
        ·
         clear HX; intro w67 HX
         have hacc : acc.length = m := by have h := len' HX; rwa [List.length_map] at h
         replace HX := row_ HX (by decide)
         simp only [seqK] at HX
         go_wp2_with fail
         refine sign' HX ?_; clear HX; intro w68 HX
         go_wp2_with fail
         refine must' HX (sign_c (by kernel_rfl)) ?_; clear HX; intro w69 q70 b71 h72 I72 HX
         obtain ⟨m1, rfl⟩ : ∃ m1, m = m1 + 1 := ⟨m - 1, by omega⟩
         obtain ⟨y, hy⟩ : ∃ y, acc[m1]? = some y := ⟨_, List.getElem?_eq_getElem (by omega)⟩
         have HS0 := Lib.hid (seqs_end hy hacc)
         obtain ⟨gy, oy, ky, sy, ny, uy, ay1, my1, cy1, ay2, my2, cy2, ay3, my3, cy3, rfl, hcy, HX⟩ := ely HX hy
         have D_y := hcy _ (Fr.refl _ _)
         clear hcy hy
         have hi0 : (0 : Int) ≤ (m1 : Int) := by omega
         have hi1 : (m1 : Int) < ((m1 + 1 : Nat) : Int) := by omega
         go_upto_region 31 with fail
         clear D_y hi0 hi1
         generalize hn : w69.alloc _ = w73
         generalize hg : w69.heap.size = g_t
         replace HX := alloc' HX hn hg
         clear hn hg
         replace HX := mixu HX
         go_wp2_with fail
         rw [← HS0.out] at HX
         go_loopw [6] (fun u wx => ∃ (j : Nat) (z : Int) (k : Nat) (sx : ByteArray) (nx : Int) (ux : ByteArray) (ax1 : Option Addr) (mx1 cx1 : Nat) (ax2 : Option Addr) (mx2 cx2 : Nat) (ax3 : Option Addr) (mx3 cx3 : Nat), u = .int .i64 z ∧ z = (j : Int) - 1 ∧ j ≤ m1 ∧ Hid (Cx v e wx q70 b71 [.mix g_t g_r (xE (Gr.seqs (acc.drop j))) [.int .u8 k, .string sx, .int .i64 nx, .string ux, .slice ax1 mx1 cx1, .slice ax2 mx2 cx2, .slice ax3 mx3 cx3], .blk g_t [.int .u8 k, .string sx, .int .i64 nx, .string ux, .slice ax1 mx1 cx1, .slice ax2 mx2 cx2, .slice ax3 mx3 cx3] 44, .row (.row 7 (acc.map xE)) (.slice (some ⟨gy, oy, none⟩) (m1 + 1) cv), .blk g_r [.int .u8 0, .string ⟨#[]⟩, .int .i64 0, .string ⟨#[]⟩, .slice none 0 0, .slice none 0 0, .slice none 0 0] 44] (.ret (Gr.seqs acc)))) (fun u _ => seqM u)
         case atStart => exact ⟨m1, _, _, _, _, _, _, _, _, _, _, _, _, _, _, rfl, by omega, Nat.le_refl _, HX⟩
         case round =>
          clear HX HS0
          obtain ⟨j, z, kx, sx, nx, ux, ax1, mx1, cx1, ax2, mx2, cx2, ax3, mx3, cx3, rfl, hz, hjm, HX⟩ := hrel
          rcases j with _ | i
          ·
           obtain rfl : z = -1 := by omega
           clear hz
           have D_t := d7 (bk 1 HX rfl)
           have D_r := d7 (bk 3 HX rfl)
           go_wp2_with fail
           clear D_t D_r
           generalize hn : World.setCell _ ⟨g_r, 6, none⟩ _ = w74
           replace HX := put3 HX (pE hn) ⟨.inr rfl, trivial⟩
           clear hn
           exact ret' 3 HX rfl Tryz.underlying44 (by kernel_rfl) rfl rfl rfl rfl (vm HX)
          ·
           obtain rfl : z = (i : Int) := by omega
           obtain ⟨y2, hy⟩ : ∃ y, acc[i]? = some y := ⟨_, List.getElem?_eq_getElem (by omega)⟩
           have HSQ := Lib.hid (seqs_drop hy (by omega))
           obtain ⟨gz, oz, ky, sy, ny, uy, ay1, my1, cy1, ay2, my2, cy2, ay3, my3, cy3, eav, hcy, HX⟩ := elz HX hy
           cases eav
           have HCZ := Lib.hid hcy
           clear hcy hy hz
           have hi0 : (0 : Int) ≤ (i : Int) := by omega
           have hi1 : (i : Int) < (m1 : Int) + 1 := by omega
           have hi2 : i < m1 + 1 := by omega
           go_upto_region 34 with fail
           refine reg2' HX (an (e7 (bk 2 HX rfl)) HCZ.out) [7] (by kernel_rfl) ?_; clear HX; intro w75 HFZ HX hHeld
           refine tk 0 rfl hHeld ?_ (by kernel_rfl) (by kernel_rfl) (by exact fun _ _ _ h => h) (by (intro w h; (try dsimp only at h); go_simp; (try (with_reducible rfl))))
           try simp only [SA]
           refine tk 1 rfl hHeld ?_ (by kernel_rfl) (by kernel_rfl) (by exact fun _ _ _ h => h) (by (intro w h; (try dsimp only at h); go_simp; (try (with_reducible rfl))))
           try simp only [SA]
           refine tk 2 rfl hHeld ?_ (by kernel_rfl) (by kernel_rfl) (by exact fun _ _ _ h => h) (by (intro w h; (try dsimp only at h); go_simp; (try (with_reducible rfl))))
           try simp only [SA]
           refine tk 3 rfl hHeld ?_ (by kernel_rfl) (by kernel_rfl) (by exact fun _ _ _ h => h) (by (intro w h; (try dsimp only at h); go_simp; (try (with_reducible rfl))))
           try simp only [SA]
           refine tk 4 rfl hHeld ?_ (by kernel_rfl) (by kernel_rfl) (by exact fun _ _ _ h => h) (by (intro w h; (try dsimp only at h); go_simp; (try (with_reducible rfl))))
           try simp only [SA]
           refine rdm 5 (by kernel_rfl) rfl fun K hK => ?_
           go_simp
           generalize hn : w75.alloc _ = w76
           generalize hg : w75.heap.size = g_arr
           replace HX := alloc' HX hn hg
           replace HFZ := fn HFZ (fa hn)
           clear hn hg
           refine hK.out _ _ ((an (e7 (bk 3 HX rfl)) (fun u hf => HCZ.out u (HFZ.out.then hf))) _ (Fr.refl _ _)) (fun hHeld => ?_)
           clear hK K
           try dsimp only
           try simp only [SA]
           refine tk 6 rfl hHeld ?_ (by kernel_rfl) (by kernel_rfl) (by exact fun _ _ _ h => h) (by (intro w h; (try dsimp only at h); go_simp; (try (with_reducible rfl))))
           try simp only [SA]
           have D_t := d7 (bk 3 HX rfl)
           refine rdl 7 (by kernel_rfl) rfl (by kernel_rfl) fun K hK => ?_
           go_simp
           clear D_t
           generalize hn : World.setCell _ ⟨g_t, 6, none⟩ _ = w77
           replace HX := put3 HX (pE hn) ⟨.inl rfl, .inl rfl, trivial⟩
           clear hn
           refine hK.out _ _ ?_
           clear hK K
           try dsimp only
           try simp only [SA]
           refine done_e (by kernel_rfl) ?_ _
           (try simp only [Exit.inBlock, Exit.then])
           go_wp2_with fail
           have hN := hcE_kids (w := w77) 14 nob 0 nob (l := [y2, Gr.seqs (acc.drop (i + 1))]) (mmtwo (k2 := 7) HX rfl rfl rfl (by decide))
           replace HX := mix2 (x' := xE (Gr.seqs (acc.drop i))) HX (by rw [HSQ.out]; exact hN)
           clear hN
           exact ⟨⟨i, _, 14, nob, 0, nob, _, _, _, _, _, _, _, _, _, rfl, by omega, by omega, HX⟩, by simp only [seqM]; omega⟩
end Go.Proofs.YtjabhmepafofmaaGreatDoor
namespace Go.Proofs.YtjabhmepafofmaaGreatDoor
open Go.RowKit
set_option maxHeartbeats 4000000 in
set_option maxRecDepth 100000 in
theorem calls_x {v : Vw} {g : Gr} {n : Nat} (hpr : ∀ (p q : Nat) (x : E), Pr.run v.l g.prefix_ p = .ok x q → p < q) (h : QOks v g) : QC v.dn 2 86 [] (stE xE) (g.pCalls n) := qc fun e he HX => by
 have HH := Lib.hid h
 have HE := Lib.hid he
 clear h he
 simp only [Gr.pCalls] at HX
 have HPR := Lib.hid hpr
 clear hpr
 go_enter Tryz.func86, Tryz.ntmps86
 go_upto_region 1 with fail
 generalize hn : e.w.alloc _ = w1
 generalize hg : e.w.heap.size = g_r
 replace HX := alloc' HX hn hg
 clear hn hg
 go_wp2_with fail
 refine callE HX (HH.out.prefix_) (rk (by decide) HE) ?_; clear HX; intro w2 q3 b4 x_a _ _ _ _ _ _ _ _ _ _ _ _ _ h5 HX
 go_upto_region 2 with fail
 generalize hn : w2.alloc _ = w6
 generalize hg : w2.heap.size = g_t
 replace HX := alloc' HX hn hg
 clear hn hg
 replace HX := mix0 HX
 go_loopw [] (fun wx => ∃ (q j : Nat) (bb : Bool) (x : E) (k : Nat) (sx : ByteArray) (nx : Int) (ux : ByteArray) (ax1 : Option Addr) (mx1 cx1 : Nat) (ax2 : Option Addr) (mx2 cx2 : Nat) (ax3 : Option Addr) (mx3 cx3 : Nat), meR v.gp v.l.length wx = 2 * (v.l.length - q) + bt bb ∧ Hid (Cx v e wx q bb [.mix g_t g_r (xE x) [.int .u8 k, .string sx, .int .i64 nx, .string ux, .slice ax1 mx1 cx1, .slice ax2 mx2 cx2, .slice ax3 mx3 cx3], .blk g_t [.int .u8 k, .string sx, .int .i64 nx, .string ux, .slice ax1 mx1 cx1, .slice ax2 mx2 cx2, .slice ax3 mx3 cx3] 44, .blk g_r [.int .u8 0, .string ⟨#[]⟩, .int .i64 0, .string ⟨#[]⟩, .slice none 0 0, .slice none 0 0, .slice none 0 0] 44] (g.callsL j x))) (fun wx => meR v.gp v.l.length wx)
 case atStart => exact ⟨q3, n, b4, x_a, _, _, _, _, _, _, _, _, _, _, _, _, _, meR_at HX.out.blk, HX⟩
 case round =>
  clear HX
  obtain ⟨q, j, bb, x, kx, sx, nx, ux, ax1, mx1, cx1, ax2, mx2, cx2, ax3, mx3, cx3, hpq, HX⟩ := hrel
  have hq := HX.out.le
  obtain ⟨j2, hv⟩ := calls_head rfl (ne' HX)
  replace HX := as' HX hv
  clear hv
  go_wp2_with fail
  refine starts' HX ?_; clear HX; intro w7 HX
  replace HX := look' HX
  cases hz : Gr.startsB (rtok v.l q bb) with
  | true =>
   obtain rfl := startb hz
   replace HX := pos' HX hz
   clear hz
   have HG := good' HX
   go_upto_region 3 with fail
   refine reg' HX (e7 (bk 1 HX rfl)) [5] (by kernel_rfl) ?_; clear HX; intro w8 HX hHeld
   refine tk 0 rfl hHeld ?_ (by kernel_rfl) (by kernel_rfl) (by exact fun _ _ _ h => h) (by (intro w h; (try dsimp only at h); go_simp; (try (with_reducible rfl))))
   try simp only [SA]
   refine tk 1 rfl hHeld ?_ (by kernel_rfl) (by kernel_rfl) (by exact fun _ _ _ h => h) (by (intro w h; (try dsimp only at h); go_simp; (try (with_reducible rfl))))
   try simp only [SA]
   refine rdm 2 (by kernel_rfl) rfl fun K hK => ?_
   go_simp
   go_at_call 99
   refine callEp HX HH.out.prefix_ (.inr HG.out) HPR.out ?_; clear HX; intro w9 q10 b11 x_e _ _ _ _ _ _ _ _ _ _ _ _ _ h12 I12 HX
   refine hK.out _ _ ((e7 (bk 2 HX rfl)) _ (Fr.refl _ _)) (fun hHeld => ?_)
   clear hK K
   try dsimp only
   try simp only [SA]
   refine rdm 3 (by kernel_rfl) rfl fun K hK => ?_
   go_simp
   generalize hn : w9.alloc _ = w13
   generalize hg : w9.heap.size = g_arr
   replace HX := alloc' HX hn hg
   clear hn hg
   refine hK.out _ _ ((e7 (bk 3 HX rfl)) _ (Fr.refl _ _)) (fun hHeld => ?_)
   clear hK K
   try dsimp only
   try simp only [SA]
   refine tk 4 rfl hHeld ?_ (by kernel_rfl) (by kernel_rfl) (by exact fun _ _ _ h => h) (by (intro w h; (try dsimp only at h); go_simp; (try (with_reducible rfl))))
   try simp only [SA]
   have D_t := d7 (bk 3 HX rfl)
   refine rdl 5 (by kernel_rfl) rfl (by kernel_rfl) fun K hK => ?_
   go_simp
   clear D_t
   generalize hn : World.setCell _ ⟨g_t, 6, none⟩ _ = w14
   replace HX := put3 HX (pE hn) ⟨.inl rfl, trivial⟩
   clear hn
   refine hK.out _ _ ?_
   clear hK K
   try dsimp only
   try simp only [SA]
   refine done_e (by kernel_rfl) ?_ _
   (try simp only [Exit.inBlock, Exit.then])
   go_wp2_with fail
   replace HX := mix2 (x' := xE (Gr.mkE 8 nob [x, x_e])) HX (hcE_kids 8 nob 0 nob (mtwo (k := 7) HX rfl rfl rfl (by decide)))
   exact ⟨⟨q10, j2, b11, Gr.mkE 8 nob [x, x_e], 8, nob, 0, nob, _, _, _, _, _, _, _, _, _, meR_at HX.out.blk, HX⟩, by rw [meR_at HX.out.blk, hpq]; exact me_lt h12 I12.out HX.out.le⟩
  | false =>
   replace HX := neg' HX (by rw [hz]; decide)
   clear hz
   have D_t := d7 (bk 1 HX rfl)
   have D_r := d7 (bk 2 HX rfl)
   go_wp2_with fail
   clear D_t D_r
   generalize hn : World.setCell _ ⟨g_r, 6, none⟩ _ = w15
   replace HX := put2 HX (pE hn) ⟨.inr rfl, trivial⟩
   clear hn
   exact ret' 2 HX rfl Tryz.underlying44 (by kernel_rfl) rfl rfl rfl rfl (vm HX)
end Go.Proofs.YtjabhmepafofmaaGreatDoor
