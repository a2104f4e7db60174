/- Xc, Xex, Xfu -/
import Derived.Test.YtjabhmepafofmaaGreatDoorH01
set_option linter.unusedVariables false
set_option linter.unusedSimpArgs false
namespace Go.Proofs.YtjabhmepafofmaaGreatDoor
open Go.RowKit
def letK (g : Gr) (d : List D) : Pr E := g.exp.bind fun e => (must ⟨#[101, 110, 100]⟩).bind fun _ => .ret (.mk 10 nob 0 nob [e] [] d)
theorem pLet_eq (g : Gr) (n : Nat) : g.pLet n = (g.decsL n []).bind (letK g) := rfl
/-- at the head of the loop over the declarations of a let -/
def letP {β : Type} (g : Gr) (j : Nat) (x : List D) (K : List D → Pr β) : Pr β := if x = [] then (g.decsL j x).bind K else (skip [⟨#[105, 110]⟩]).bind fun c => if c = true then K x else (g.decsL j x).bind K
def letM (gp gt L : Nat) (w : World) : Nat := meR gp L w + match w.cell? ⟨gt, 6, none⟩ with
  | some (.slice _ n _) => if n = 0 then 1 else 0
  | _ => 0
theorem letM_at {gp gt L p n cv : Nat} {w : World} {v v0 v1 v2 v3 v4 v5 : Value} {b : Bool} {av : Option Addr} (h : w.heap[gp]? = some (.cells #[v, .int .i64 (p : Nat), .bool b] 57 (0, 0))) (h2 : w.heap[gt]? = some (.cells [v0, v1, v2, v3, v4, v5, .slice av n cv].toArray 44 (0, 0))) : letM gp gt L w = 2 * (L - p) + bt b + if n = 0 then 1 else 0 := by
  unfold letM
  rw [meR_at h, cell_of h2 6]
  rfl
theorem let_lt {L q q' n : Nat} {b b' : Bool} (h1 : q ≤ q') (h2 : b' = false → q < q') (h3 : q' ≤ L) (h4 : n = 0 ∨ b = false) : 2 * (L - q') + bt b' + (if n + 1 = 0 then 1 else 0) < 2 * (L - q) + bt b + if n = 0 then 1 else 0 := by
  rw [if_neg (Nat.succ_ne_zero n)]
  cases b <;> cases b' <;> simp [bt] at * <;> (try split) <;> omega
section
variable {α β : Type} {v : Vw} {e : Ev β} {w w' : World} {q : Nat} {b : Bool} {L : List It} {g : Gr} {j : Nat} {x : List D} {K : List D → Pr β}
theorem let0 (h : Hid (Cx v e w q b L ((g.decsL j []).bind K))) : Hid (Cx v e w q b L (letP g j [] K)) := as' h (by rw [letP, if_pos rfl])
theorem leto (h : Hid (Cx v e w q b L (letP g j x K))) (hx : x ≠ []) (hz : b = true ∨ wordB (rtok v.l q b) ⟨#[105, 110]⟩ = true) : Hid (Cx v e w q b L ((must ⟨#[105, 110]⟩).bind fun _ => K x)) := by
  unfold letP at h
  have h := neg' h hx
  cases b with
  | true => exact any' h
  | false =>
    have hs : seesB (v.l.getD q zTok) [⟨#[105, 110]⟩] = true := by
      rcases hz with h | h
      · cases h
      · rw [word_sees (by kernel_rfl)]
        exact h
    refine as' h ?_
    have h1 := skip_some (V := _) rfl hs (k := fun c => if c = true then K x else (g.decsL j x).bind K)
    refine Eq.trans ?_ h1
    refine (stepV (t := ()) rfl ?_).symm
    show Pr.run v.l (if seesB (v.l.getD q zTok) [⟨#[105, 110]⟩] = true then _ else _ : Pr Unit) q = _
    rw [hs]
    rfl
theorem leti (h : Hid (Cx v e w q b L (letP g j x K))) (hz : x = [] ∨ (b = false ∧ wordB (rtok v.l q b) ⟨#[105, 110]⟩ = false)) : Hid (Cx v e w q b L ((g.decsL j x).bind K)) := by
  unfold letP at h
  by_cases hx : x = []
  · exact pos' h hx
  · rcases hz with h0 | ⟨rfl, h0⟩
    · exact absurd h0 hx
    · exact neg' (skipno' (neg' h hx) (fun _ => by rw [word_sees (by kernel_rfl)]; exact h0)) (by decide)
theorem letn {d : D} (h : Hid (Cx v e w q b L ((skip [⟨#[105, 110]⟩]).bind fun c => if c = true then K (x ++ [d]) else (g.decsL j (x ++ [d])).bind K))) : Hid (Cx v e w q b L (letP g j (x ++ [d]) K)) := as' h (by rw [letP, if_neg (by simp)])
end
/-- at the head of the loop over a level's operators -/
def opP (g : Gr) (lv j : Nat) (x : E) (s : ByteArray) : Pr E := if s = ⟨#[]⟩ then .ret x else .adv ((g.level (if Gr.rows lv = 1 then lv else lv + 1)).bind fun e2 => if Gr.rows lv = 2 then g.opsL lv j (Gr.mkE 15 s [x, e2]) else .ret (Gr.mkE 15 s [x, e2]))
theorem rows_two {lv : Nat} (h : 2 < lv) (h5 : lv < 5) : Gr.rows lv = 2 := by
  have h : lv = 3 ∨ lv = 4 := by omega
  rcases h with rfl | rfl <;> rfl
theorem rows_nil {lv : Nat} (h : ¬ 2 < lv) (h5 : lv ≠ 2) : Gr.rows lv = 0 := by
  have h : lv = 0 ∨ lv = 1 := by omega
  rcases h with rfl | rfl <;> rfl
section
variable {v : Vw} {e : Ev E} {w w' : World} {q : Nat} {b : Bool} {L : List It} {g : Gr} {lv j : Nat} {x : E} {s : ByteArray} {Post : Ending → World → Prop}
theorem op0 (h : Hid (Cx v e w q b L (.ret x))) : Hid (Cx v e w q b L (opP g lv 0 x ⟨#[]⟩)) ∧ Hid ((⟨#[]⟩ : ByteArray) ≠ ⟨#[]⟩ → b = false ∧ q < v.l.length) := ⟨as' h (by rw [opP, if_pos rfl]), Lib.hid (fun h => absurd rfl h)⟩
theorem ops' (h : Hid (Cx v e w q b L (g.opsL lv j x))) (hl : lv < 5) (k : ∀ w' so j', Hid (Cx v e w' q b L (opP g lv j' x so)) ∧ Hid (so ≠ ⟨#[]⟩ → b = false ∧ q < v.l.length) → Post (.returned (.string so)) w') : Calls Tryz.prog 87 #[.pointer (some ⟨v.gp, 0, none⟩), .int .i64 (lv : Nat)] w Post := by
  refine (operr h.out.par lv hl).mono ?_
  rintro _ w' ⟨so, rfl, h1, h2, hf⟩
  have h := no' h hf
  obtain ⟨j', hv⟩ := ops_head rfl (ne' h)
  have h := look' (as' h hv)
  cases hc : seesB (rtok v.l q b) (Gr.ops lv) with
  | false =>
    have hs : so = ⟨#[]⟩ := h2 hc
    subst hs
    exact k w' _ j' ⟨as' (neg' h (by rw [hc]; decide)) (by rw [opP, if_pos rfl]), Lib.hid (fun h => absurd rfl h)⟩
  | true =>
    have hb : b = false ∧ q < v.l.length := by
      cases b with
      | true => simp [rtok, seesB, zTok] at hc
      | false => exact ⟨rfl, sees_in hc⟩
    refine k w' _ j' ⟨as' (pos' h hc) ?_, Lib.hid (fun _ => hb)⟩
    have hn : so ≠ ⟨#[]⟩ := (h1 hc).2
    rw [opP, if_neg hn, (h1 hc).1]
end
end Go.Proofs.YtjabhmepafofmaaGreatDoor
namespace Go.Proofs.YtjabhmepafofmaaGreatDoor
open Go.RowKit
set_option maxHeartbeats 4000000 in
set_option maxRecDepth 100000 in
theorem exp_x {v : Vw} {g : Gr} {n : Nat} (hru : QC v 11 59 [] (rowE 11 xR) (some_ n ⟨#[124]⟩ g.rule)) (h : QOks v g) : QC v.dn 9 34 [] (stE xE) (g.pExp n) := qc fun e he HX => by
 have HH := Lib.hid h
 have HE := Lib.hid he
 clear h he
 simp only [Gr.pExp] at HX
 have HRU := Lib.hid hru
 clear hru
 go_enter Tryz.func34, Tryz.ntmps34
 go_upto_region 1 with fail
 generalize hn : e.w.alloc _ = w1
 generalize hg : e.w.heap.size = g_r
 replace HX := alloc' HX hn hg
 clear hn hg
 go_wp2_with fail
 refine word' HX ?_; clear HX; intro w2 HX
 go_wp2_with fail
 refine may' HX (word_c (by kernel_rfl)) ?_ ?_
 ·
  clear HX; intro w3 h4 HX
  have HG := good' HX
  go_wp2_with fail
  refine take' HX (by decide) ?_; clear HX; intro w5 q6 b7 kt_s st_s mt_s qt_s h8 I8 HX
  go_wp2_with fail
  simp only [field49_1]
  go_upto_region 3 with fail
  generalize hn : w5.alloc _ = w9
  generalize hg : w5.heap.size = g_t
  replace HX := alloc' HX hn hg
  clear hn hg
  go_wp2_with fail
  refine sign' HX ?_; clear HX; intro w10 HX
  go_wp2_with fail
  refine must' HX (sign_c (by kernel_rfl)) ?_; clear HX; intro w11 q12 b13 h14 I14 HX
  go_wp2_with fail
  refine callE HX (HH.out.exp) (.inr HG.out) ?_; clear HX; intro w15 q16 b17 x_e _ _ _ _ _ _ _ _ _ _ _ _ _ h18 HX
  have D_t := d7 (bk 1 HX rfl)
  have hl := lt_of_block (bk 1 HX rfl)
  go_upto_region 5 with fail
  clear D_t
  clear hl
  generalize hg : w15.heap.size = g_arr
  generalize hn : World.setCell _ ⟨g_t, 4, none⟩ _ = w19
  generalize hm : w19.alloc _ = w20
  replace HX := late1 HX hg (pE4 hn) hm
  clear hg hn hm
  have D_t := d7 (bk 2 HX rfl)
  have D_r := d7 (bk 3 HX rfl)
  go_wp2_with fail
  clear D_t D_r
  generalize hn : World.setCell _ ⟨g_r, 6, none⟩ _ = w21
  replace HX := put3 HX (pE hn)
  clear hn
  exact ret' 3 HX rfl Tryz.underlying44 (by kernel_rfl) rfl rfl rfl rfl (hcE_kids 7 st_s 0 nob (one' 0 1 HX rfl rfl rfl (by decide)))
 ·
  clear HX; intro w22 HX
  go_wp2_with fail
  refine word' HX ?_; clear HX; intro w23 HX
  go_wp2_with fail
  refine may' HX (word_c (by kernel_rfl)) ?_ ?_
  ·
   clear HX; intro w24 h25 HX
   have HG := good' HX
   go_wp2_with fail
   refine callE HX (HH.out.exp) (.inr HG.out) ?_; clear HX; intro w26 q27 b28 x_e _ _ _ _ _ _ _ _ _ _ _ _ _ h29 HX
   go_upto_region 8 with fail
   generalize hn : w26.alloc _ = w30
   generalize hg : w26.heap.size = g_arr
   generalize hm : w30.alloc _ = w31
   generalize hz : g_arr + 1 = g_t
   replace HX := alloc' (alloc' HX hn hg) hm (az hn hg hz)
   clear hn hg hm hz
   go_wp2_with fail
   refine word' HX ?_; clear HX; intro w32 HX
   go_wp2_with fail
   refine must' HX (word_c (by kernel_rfl)) ?_; clear HX; intro w33 q34 b35 h36 I36 HX
   go_wp2_with fail
   refine callrow' HX (HRU.out) (.inr HG.out) ?_; clear HX; intro w37 q38 b39 x_q a_q c_q h40 HX
   have D_t := d7 (bk 1 HX rfl)
   go_upto_region 10 with fail
   clear D_t
   generalize hn : World.setCell _ ⟨g_t, 5, none⟩ _ = w41
   replace HX := put1 HX (pE5 hn)
   clear hn
   have D_t := d7 (bk 1 HX rfl)
   have D_r := d7 (bk 4 HX rfl)
   go_wp2_with fail
   clear D_t D_r
   generalize hn : World.setCell _ ⟨g_r, 6, none⟩ _ = w42
   replace HX := put4 HX (pE hn)
   clear hn
   exact ret' 4 HX rfl Tryz.underlying44 (by kernel_rfl) rfl rfl rfl rfl (hcE_mk 11 nob 0 nob (one' 2 3 HX rfl rfl rfl (by decide)) (rw' 0 HX rfl) (hx_nil _))
  ·
   clear HX; intro w43 HX
   go_wp2_with fail
   refine word' HX ?_; clear HX; intro w44 HX
   go_wp2_with fail
   refine may' HX (word_c (by kernel_rfl)) ?_ ?_
   ·
    clear HX; intro w45 h46 HX
    have HG := good' HX
    go_wp2_with fail
    refine callE HX (HH.out.exp) (.inr HG.out) ?_; clear HX; intro w47 q48 b49 x_e _ _ _ _ _ _ _ _ _ _ _ _ _ h50 HX
    go_upto_region 13 with fail
    generalize hn : w47.alloc _ = w51
    generalize hg : w47.heap.size = g_t
    replace HX := alloc' HX hn hg
    clear hn hg
    go_wp2_with fail
    refine word' HX ?_; clear HX; intro w52 HX
    go_wp2_with fail
    refine must' HX (word_c (by kernel_rfl)) ?_; clear HX; intro w53 q54 b55 h56 I56 HX
    go_wp2_with fail
    refine callE HX (HH.out.exp) (.inr HG.out) ?_; clear HX; intro w57 q58 b59 x_f _ _ _ _ _ _ _ _ _ _ _ _ _ h60 HX
    go_upto_region 15 with fail
    generalize hn : w57.alloc _ = w61
    generalize hg : w57.heap.size = g_u
    replace HX := alloc' HX hn hg
    clear hn hg
    go_wp2_with fail
    refine word' HX ?_; clear HX; intro w62 HX
    go_wp2_with fail
    refine must' HX (word_c (by kernel_rfl)) ?_; clear HX; intro w63 q64 b65 h66 I66 HX
    go_upto_region 16 with fail
    refine reg' HX (an (e7 (bk 2 HX rfl)) (e7 (bk 0 HX rfl))) [6] (by kernel_rfl) ?_; clear HX; intro w67 HX hHeld
    refine tk 0 rfl hHeld ?_ (by kernel_rfl) (by kernel_rfl) (by exact fun _ _ _ h => h) (by (intro w h; (try dsimp only at h); go_simp; (try (with_reducible rfl))))
    try simp only [SA]
    refine tk 1 rfl hHeld ?_ (by kernel_rfl) (by kernel_rfl) (by exact fun _ _ _ h => h) (by (intro w h; (try dsimp only at h); go_simp; (try (with_reducible rfl))))
    try simp only [SA]
    refine tk 2 rfl hHeld ?_ (by kernel_rfl) (by kernel_rfl) (by exact fun _ _ _ h => h) (by (intro w h; (try dsimp only at h); go_simp; (try (with_reducible rfl))))
    try simp only [SA]
    refine rdm 3 (by kernel_rfl) rfl fun K hK => ?_
    go_simp
    go_at_call 34
    refine callE HX (HH.out.exp) (.inr HG.out) ?_; clear HX; intro w68 q69 b70 x_h _ _ _ _ _ _ _ _ _ _ _ _ _ h71 HX
    refine hK.out _ _ ((an (e7 (bk 3 HX rfl)) (e7 (bk 1 HX rfl))) _ (Fr.refl _ _)) (fun hHeld => ?_)
    clear hK K
    try dsimp only
    try simp only [SA]
    refine rdm 4 (by kernel_rfl) rfl fun K hK => ?_
    go_simp
    generalize hn : w68.alloc _ = w72
    generalize hg : w68.heap.size = g_arr
    replace HX := alloc' HX hn hg
    clear hn hg
    refine hK.out _ _ ((an (e7 (bk 4 HX rfl)) (e7 (bk 2 HX rfl))) _ (Fr.refl _ _)) (fun hHeld => ?_)
    clear hK K
    try dsimp only
    try simp only [SA]
    refine tk 5 rfl hHeld ?_ (by kernel_rfl) (by kernel_rfl) (by exact fun _ _ _ h => h) (by (intro w h; (try dsimp only at h); go_simp; (try (with_reducible rfl))))
    try simp only [SA]
    have D_r := d7 (bk 6 HX rfl)
    refine rdl 6 (by kernel_rfl) rfl (by kernel_rfl) fun K hK => ?_
    go_simp
    clear D_r
    generalize hn : World.setCell _ ⟨g_r, 6, none⟩ _ = w73
    replace HX := put6 HX (pE hn)
    clear hn
    refine hK.out _ _ ?_
    clear hK K
    try dsimp only
    try simp only [SA]
    refine done_e (by kernel_rfl) ?_ _
    (try simp only [Exit.inBlock, Exit.then])
    go_wp2_with fail
    exact ret' 6 HX rfl Tryz.underlying44 (by kernel_rfl) rfl rfl rfl rfl (hcE_kids 9 nob 0 nob (three' 0 5 3 1 HX rfl rfl rfl rfl rfl rfl rfl (by decide)))
   ·
    clear HX; intro w74 HX
    go_wp2_with fail
    refine word' HX ?_; clear HX; intro w75 HX
    go_wp2_with fail
    refine may' HX (word_c (by kernel_rfl)) ?_ ?_
    ·
     clear HX; intro w76 h77 HX
     have HG := good' HX
     go_wp2_with fail
     refine callE HX (HH.out.exp) (.inr HG.out) ?_; clear HX; intro w78 q79 b80 x_e _ _ _ _ _ _ _ _ _ _ _ _ _ h81 HX
     have D_r := d7 (bk 1 HX rfl)
     have hl := lt_of_block (bk 1 HX rfl)
     go_wp2_with fail
     clear D_r
     clear hl
     generalize hg : w78.heap.size = g_arr
     generalize hn : World.setCell _ ⟨g_r, 6, none⟩ _ = w82
     generalize hm : w82.alloc _ = w83
     replace HX := late1 HX hg (pE hn) hm
     clear hg hn hm
     exact ret' 2 HX rfl Tryz.underlying44 (by kernel_rfl) rfl rfl rfl rfl (hcE_kids 13 nob 0 nob (one' 0 1 HX rfl rfl rfl (by decide)))
    ·
     clear HX; intro w84 HX
     go_wp2_with fail
     refine callE HX (HH.out.level 0 (by omega)) (rk (by decide) HE) ?_; clear HX; intro w85 q86 b87 x_e _ _ _ _ _ _ _ _ _ _ _ _ _ h88 HX
     go_upto_region 20 with fail
     generalize hn : w85.alloc _ = w89
     generalize hg : w85.heap.size = g_t
     replace HX := alloc' HX hn hg
     clear hn hg
     go_wp2_with fail
     refine word' HX ?_; clear HX; intro w90 HX
     go_wp2_with fail
     refine may' HX (word_c (by kernel_rfl)) ?_ ?_
     ·
      clear HX; intro w91 h92 HX
      have HG := good' HX
      go_upto_region 21 with fail
      refine reg' HX (e7 (bk 0 HX rfl)) [5] (by kernel_rfl) ?_; clear HX; intro w93 HX hHeld
      refine tk 0 rfl hHeld ?_ (by kernel_rfl) (by kernel_rfl) (by exact fun _ _ _ h => h) (by (intro w h; (try dsimp only at h); go_simp; (try (with_reducible rfl))))
      try simp only [SA]
      refine tk 2 rfl hHeld ?_ (by kernel_rfl) (by kernel_rfl) (by exact fun _ _ _ h => h) (by (intro w h; (try dsimp only at h); go_simp; (try (with_reducible rfl))))
      try simp only [SA]
      refine ready_e (rs := [1, 3]) (by kernel_rfl) (by simp) ?_
      refine (do_mid (o := _) rfl (fun K hK => ?_) (do_mid (o := _) rfl (fun K hK => ?_) none_e))
      ·
       go_simp
       generalize hn : w93.alloc _ = w94
       generalize hg : w93.heap.size = g_arr
       replace HX := alloc' HX hn hg
       clear hn hg
       refine hK.out _ _ ((e7 (bk 1 HX rfl)) _ (Fr.refl _ _)) (fun hHeld => ?_)
       clear hK K
       try dsimp only
       try simp only [SA]
       refine rdm 3 (by kernel_rfl) rfl fun K hK => ?_
       go_simp
       go_at_call 59
       refine callrow' HX (HRU.out) (.inr HG.out) ?_; clear HX; intro w95 q96 b97 x_q a_q c_q h98 HX
       refine hK.out _ _ ((e7 (bk 2 HX rfl)) _ (Fr.refl _ _)) (fun hHeld => ?_)
       clear hK K
       try dsimp only
       try simp only [SA]
       refine tk 4 rfl hHeld ?_ (by kernel_rfl) (by kernel_rfl) (by exact fun _ _ _ h => h) (by (intro w h; (try dsimp only at h); go_simp; (try (with_reducible rfl))))
       try simp only [SA]
       have D_r := d7 (bk 4 HX rfl)
       refine rdl 5 (by kernel_rfl) rfl (by kernel_rfl) fun K hK => ?_
       go_simp
       clear D_r
       generalize hn : World.setCell _ ⟨g_r, 6, none⟩ _ = w99
       replace HX := put4 HX (pE hn)
       clear hn
       refine hK.out _ _ ?_
       clear hK K
       try dsimp only
       try simp only [SA]
       refine done_e (by kernel_rfl) ?_ _
       (try simp only [Exit.inBlock, Exit.then])
       go_wp2_with fail
       exact ret' 4 HX rfl Tryz.underlying44 (by kernel_rfl) rfl rfl rfl rfl (hcE_mk 12 nob 0 nob (one' 1 3 HX rfl rfl rfl (by decide)) (rw' 0 HX rfl) (hx_nil _))
      ·
       go_simp
       go_at_call 59
       refine callrow' HX (HRU.out) (.inr HG.out) ?_; clear HX; intro w100 q101 b102 x_q a_q c_q h103 HX
       refine hK.out _ _ ((e7 (bk 1 HX rfl)) _ (Fr.refl _ _)) (fun hHeld => ?_)
       clear hK K
       try dsimp only
       try simp only [SA]
       refine rdm 1 (by kernel_rfl) rfl fun K hK => ?_
       go_simp
       generalize hn : w100.alloc _ = w104
       generalize hg : w100.heap.size = g_arr
       replace HX := alloc' HX hn hg
       clear hn hg
       refine hK.out _ _ ((e7 (bk 2 HX rfl)) _ (Fr.refl _ _)) (fun hHeld => ?_)
       clear hK K
       try dsimp only
       try simp only [SA]
       refine tk 4 rfl hHeld ?_ (by kernel_rfl) (by kernel_rfl) (by exact fun _ _ _ h => h) (by (intro w h; (try dsimp only at h); go_simp; (try (with_reducible rfl))))
       try simp only [SA]
       have D_r := d7 (bk 4 HX rfl)
       refine rdl 5 (by kernel_rfl) rfl (by kernel_rfl) fun K hK => ?_
       go_simp
       clear D_r
       generalize hn : World.setCell _ ⟨g_r, 6, none⟩ _ = w105
       replace HX := put4 HX (pE hn)
       clear hn
       refine hK.out _ _ ?_
       clear hK K
       try dsimp only
       try simp only [SA]
       refine done_e (by kernel_rfl) ?_ _
       (try simp only [Exit.inBlock, Exit.then])
       go_wp2_with fail
       exact ret' 4 HX rfl Tryz.underlying44 (by kernel_rfl) rfl rfl rfl rfl (hcE_mk 12 nob 0 nob (one' 0 3 HX rfl rfl rfl (by decide)) (rw' 1 HX rfl) (hx_nil _))
     ·
      clear HX; intro w106 HX
      have D_t := d7 (bk 0 HX rfl)
      have D_r := d7 (bk 2 HX rfl)
      go_wp2_with fail
      clear D_t D_r
      generalize hn : World.setCell _ ⟨g_r, 6, none⟩ _ = w107
      replace HX := put2 HX (pE hn)
      clear hn
      exact ret' 2 HX rfl Tryz.underlying44 (by kernel_rfl) rfl rfl rfl rfl ((vl 1 HX rfl))
end Go.Proofs.YtjabhmepafofmaaGreatDoor
namespace Go.Proofs.YtjabhmepafofmaaGreatDoor
open Go.RowKit
def funK (g : Gr) (s : ByteArray) (x : List ByteArray) : Pr F := (must ⟨#[61]⟩).bind fun _ => g.exp.bind fun e => .ret (.mk s x e)
theorem pFun_eq (g : Gr) (n : Nat) : g.pFun n = (take 1).bind fun s => (take 1).bind fun a => (Gr.argsL n [a]).bind (funK g s) := rfl
set_option maxHeartbeats 4000000 in
set_option maxRecDepth 100000 in
theorem fun_x {v : Vw} {g : Gr} {n : Nat} (h : QOks v g) : QC v.dn 10 35 [] (stE xF) (g.pFun n) := qc fun e he HX => by
 have HH := Lib.hid h
 have HE := Lib.hid he
 clear h he
 simp only [pFun_eq] at HX
 go_enter Tryz.func35, Tryz.ntmps35
 go_upto_region 1 with fail
 generalize hn : e.w.alloc _ = w1
 generalize hg : e.w.heap.size = g_r
 replace HX := alloc' HX hn hg
 clear hn hg
 go_wp2_with fail
 refine take' HX (by decide) ?_; clear HX; intro w2 q3 b4 kt_s st_s mt_s qt_s h5 I5 HX
 go_wp2_with fail
 simp only [field49_1]
 go_upto_region 2 with fail
 generalize hn : w2.alloc _ = w6
 generalize hg : w2.heap.size = g_t
 replace HX := alloc' HX hn hg
 clear hn hg
 replace HX := nil' 9 1 HX
 refine reg' HX (cl 1 1 HX rfl rfl) [8] (by kernel_rfl) ?_; clear HX; intro w7 HX hHeld
 refine tk 0 rfl hHeld ?_ (by kernel_rfl) (by kernel_rfl) (by exact fun _ _ _ h => h) (by (intro w h; (try dsimp only at h); go_simp; (try (with_reducible rfl))))
 try simp only [SA]
 refine tk 1 rfl hHeld ?_ (by kernel_rfl) (by kernel_rfl) (by exact fun _ _ _ h => h) (by (intro w h; (try dsimp only at h); go_simp; (try (with_reducible rfl))))
 try simp only [SA]
 refine tk 2 rfl hHeld ?_ (by kernel_rfl) (by kernel_rfl) (by exact fun _ _ _ h => h) (by (intro w h; (try dsimp only at h); go_simp; (try (with_reducible rfl))))
 try simp only [SA]
 refine rdm 3 (by kernel_rfl) rfl fun K hK => ?_
 go_simp
 go_at_call 33
 refine take' HX (by decide) ?_; clear HX; intro w8 q9 b10 kt_a st_a mt_a qt_a h11 I11 HX
 refine hK.out _ _ ((cl 1 1 HX rfl rfl) _ (Fr.refl _ _)) (fun hHeld => ?_)
 clear hK K
 try dsimp only
 try simp only [SA]
 refine tkf 4 rfl hHeld ?_ (by kernel_rfl) (by kernel_rfl) (by exact fun _ _ _ h => h) (by (intro w h; (try dsimp only at h); go_simp; (try simp only [field49_0, field49_1, field49_2]); (try go_simp); (try (with_reducible rfl))))
 try simp only [SA]
 (try simp only [field49_1])
 refine rdm 5 (by kernel_rfl) rfl fun K hK => ?_
 go_simp
 generalize hn : w8.alloc _ = w12
 generalize hg : w8.heap.size = g_one
 replace HX := alloc' HX hn hg
 clear hn hg
 replace HX := str' HX
 refine hK.out _ _ ((cl 3 1 HX rfl rfl) _ (Fr.refl _ _)) (fun hHeld => ?_)
 clear hK K
 try dsimp only
 try simp only [SA]
 refine rdm 6 (by kernel_rfl) rfl fun K hK => ?_
 refine spush' HX elemS (by decide) (Nat.zero_le _) rfl _ _ 35 rfl Tryz.underlying35 rfl rfl (by simp [Value.oneCell']) rfl ?_; clear HX; intro a3 c3 w13 HX
 refine hK.out _ _ ((cl 1 1 HX rfl rfl) _ (Fr.refl _ _)) (fun hHeld => ?_)
 clear hK K
 try dsimp only
 try simp only [SA]
 refine tk 7 rfl hHeld ?_ (by kernel_rfl) (by kernel_rfl) (by exact fun _ _ _ h => h) (by (intro w h; (try dsimp only at h); go_simp; (try (with_reducible rfl))))
 try simp only [SA]
 have D_t := cl' 1 1 HX rfl rfl
 have E_t := fz 1 1 HX rfl
 refine rdl 8 (by kernel_rfl) rfl (by kernel_rfl) fun K hK => ?_
 go_simp
 clear D_t E_t
 generalize hn : World.setCell _ ⟨g_t, 1, none⟩ _ = w14
 replace HX := put1 HX (pF1 hn)
 clear hn
 refine hK.out _ _ ?_
 clear hK K
 try dsimp only
 try simp only [SA]
 refine done_e (by kernel_rfl) ?_ _
 (try simp only [Exit.inBlock, Exit.then])
 go_wp2_with fail
 go_loopw [] (fun wx => ∃ (m q j : Nat) (bb : Bool) (acc : List ByteArray) (av : Option Addr) (cv : Nat), m ≤ q + 1 ∧ posR v.gp wx = q ∧ Hid (Cx v e wx q bb [.out 9 1 (.slice av m cv) m (acc.map (fun s => [xb s])), .blk g_t [.string st_s, .slice av m cv, .int .u8 0, .string ⟨#[]⟩, .int .i64 0, .string ⟨#[]⟩, .slice none 0 0, .slice none 0 0, .slice none 0 0] 71, .blk g_r [.string ⟨#[]⟩, .slice none 0 0, .int .u8 0, .string ⟨#[]⟩, .int .i64 0, .string ⟨#[]⟩, .slice none 0 0, .slice none 0 0, .slice none 0 0] 71] ((Gr.argsL j acc).bind (funK g st_s)))) (fun wx => v.l.length - posR v.gp wx)
 case atStart => exact ⟨1, q9, n, b10, [st_a], _, _, by omega, posR_at HX.out.blk, HX⟩
 case round =>
  clear HX
  obtain ⟨m, q, j, bb, acc, av, cv, hmq, hpq, HX⟩ := hrel
  have hm := few HX hmq
  have hq := HX.out.le
  obtain ⟨j2, hv⟩ := args_head rfl (ne' HX)
  replace HX := as' HX hv
  clear hv
  go_wp2_with fail
  refine next' HX ?_; clear HX; intro w15 kt_y st_y mt_y qt_y HT_y HX
  go_wp2_with fail
  simp only [field49_0]
  by_cases hk1_y : kt_y = 1
  ·
   replace HX := pos' HX hk1_y
   have D1_y := kq (k := kt_y) (z := 1) (by omega)
   go_upto_region 4 with fail
   refine reg' HX (cl 1 1 HX rfl rfl) [8] (by kernel_rfl) ?_; clear HX; intro w16 HX hHeld
   refine tk 0 rfl hHeld ?_ (by kernel_rfl) (by kernel_rfl) (by exact fun _ _ _ h => h) (by (intro w h; (try dsimp only at h); go_simp; (try (with_reducible rfl))))
   try simp only [SA]
   refine tk 1 rfl hHeld ?_ (by kernel_rfl) (by kernel_rfl) (by exact fun _ _ _ h => h) (by (intro w h; (try dsimp only at h); go_simp; (try (with_reducible rfl))))
   try simp only [SA]
   refine tk 2 rfl hHeld ?_ (by kernel_rfl) (by kernel_rfl) (by exact fun _ _ _ h => h) (by (intro w h; (try dsimp only at h); go_simp; (try (with_reducible rfl))))
   try simp only [SA]
   refine rdm 3 (by kernel_rfl) rfl fun K hK => ?_
   go_simp
   go_at_call 33
   refine takek' HX HT_y hk1_y (by decide) ?_; clear HX; intro w17 h18 HX
   have HG := good' HX
   refine hK.out _ _ ((cl 1 1 HX rfl rfl) _ (Fr.refl _ _)) (fun hHeld => ?_)
   clear hK K
   try dsimp only
   try simp only [SA]
   refine tkf 4 rfl hHeld ?_ (by kernel_rfl) (by kernel_rfl) (by exact fun _ _ _ h => h) (by (intro w h; (try dsimp only at h); go_simp; (try simp only [field49_0, field49_1, field49_2]); (try go_simp); (try (with_reducible rfl))))
   try simp only [SA]
   (try simp only [field49_1])
   refine rdm 5 (by kernel_rfl) rfl fun K hK => ?_
   go_simp
   generalize hn : w17.alloc _ = w19
   generalize hg : w17.heap.size = g_one
   replace HX := alloc' HX hn hg
   clear hn hg
   replace HX := str' HX
   refine hK.out _ _ ((cl 3 1 HX rfl rfl) _ (Fr.refl _ _)) (fun hHeld => ?_)
   clear hK K
   try dsimp only
   try simp only [SA]
   refine rdm 6 (by kernel_rfl) rfl fun K hK => ?_
   refine spush' HX elemS (by decide) hm rfl _ _ 35 rfl Tryz.underlying35 rfl rfl (by simp [Value.oneCell']) rfl ?_; clear HX; intro a3 c3 w20 HX
   replace HX := snoc' HX
   refine hK.out _ _ ((cl 1 1 HX rfl rfl) _ (Fr.refl _ _)) (fun hHeld => ?_)
   clear hK K
   try dsimp only
   try simp only [SA]
   refine tk 7 rfl hHeld ?_ (by kernel_rfl) (by kernel_rfl) (by exact fun _ _ _ h => h) (by (intro w h; (try dsimp only at h); go_simp; (try (with_reducible rfl))))
   try simp only [SA]
   have D_t := cl' 1 1 HX rfl rfl
   have E_t := fz 1 1 HX rfl
   refine rdl 8 (by kernel_rfl) rfl (by kernel_rfl) fun K hK => ?_
   go_simp
   clear D_t E_t
   generalize hn : World.setCell _ ⟨g_t, 1, none⟩ _ = w21
   replace HX := put1 HX (pF1 hn)
   clear hn
   refine hK.out _ _ ?_
   clear hK K
   try dsimp only
   try simp only [SA]
   refine done_e (by kernel_rfl) ?_ _
   (try simp only [Exit.inBlock, Exit.then])
   go_wp2_with fail
   exact ⟨⟨m + 1, (q + 1), j2, false, acc ++ [st_y], a3, c3, by omega, posR_at HX.out.blk, HX⟩, by rw [posR_at HX.out.blk, hpq]; have := HX.out.le; omega⟩
  ·
   replace HX := neg' HX hk1_y
   have D1_y := kn' (k := kt_y) (z := 1) (by omega)
   simp only [funK] at HX
   go_wp2_with fail
   refine sign' HX ?_; clear HX; intro w22 HX
   go_wp2_with fail
   refine must' HX (sign_c (by kernel_rfl)) ?_; clear HX; intro w23 q24 b25 h26 I26 HX
   replace HX := row_ HX (by decide)
   go_wp2_with fail
   refine callE HX (HH.out.exp) (rk (by decide) HE) ?_; clear HX; intro w27 q28 b29 x_e _ _ _ _ _ _ _ _ _ _ _ _ _ h30 HX
   have D_t := d9 (bk 2 HX rfl)
   go_upto_region 7 with fail
   clear D_t
   generalize hn : World.setCell _ ⟨g_t, 8, none⟩ _ = w31
   replace HX := put2 HX (pF2 hn)
   clear hn
   have D_t := d9 (bk 2 HX rfl)
   have D_r := d9 (bk 3 HX rfl)
   go_wp2_with fail
   clear D_t D_r
   generalize hn : World.setCell _ ⟨g_r, 8, none⟩ _ = w32
   replace HX := put3 HX (pF hn)
   clear hn
   exact ret' 3 HX rfl Tryz.underlying71 (by kernel_rfl) rfl rfl rfl rfl (hcF_mk st_s (rw' 1 HX rfl) (vl 0 HX rfl))
end Go.Proofs.YtjabhmepafofmaaGreatDoor
