/- Patterns with wild ones in the place of variables. -/
import Derived.Test.YthjecikdkdjlaaaWw
import Derived.Test.YthjecikdkdjlaaaPs
import Derived.Deep.CutRange
namespace Go.Proofs.Ythjecikdkdjlaaa
open Go.RowKit

mutual
def plainT : T → T
  | .mk k s n l => .mk (if k = 2 then 1 else k) (if k = 2 then ⟨#[]⟩ else s) n (plainL l)
def plainL : List T → List T
  | [] => []
  | t :: r => plainT t :: plainL r
end
theorem plainL_map : ∀ l : List T, plainL l = l.map plainT
  | [] => rfl
  | t :: r => by simp [plainL, plainL_map r]
theorem plainL_len (l : List T) : (plainL l).length = l.length := by rw [plainL_map, List.length_map]
theorem plainL_snoc (l : List T) (t : T) : plainL (l ++ [t]) = plainL l ++ [plainT t] := by simp [plainL_map]
mutual
theorem is_up {B0 : Nat} {ok ok' : Nat → Prop} {w : World} (ho : ∀ b, ok b → ok' b) : ∀ (t : T) (v : Value), Is 0 ok w t v → Is B0 ok' w t v
  | .mk k s n l, v, h => by
    simp only [Is] at h ⊢
    obtain ⟨a, cap, e, hr⟩ := h
    exact ⟨a, cap, e, row_up ho a 0 l hr⟩
theorem row_up {B0 : Nat} {ok ok' : Nat → Prop} {w : World} (ho : ∀ b, ok b → ok' b) (a : Option Addr) : ∀ (i : Nat) (l : List T), Row 0 ok w a i l → Row B0 ok' w a i l
  | _, [], _ => by simp [Row]
  | i, t :: r, h => by
    simp only [Row] at h ⊢
    obtain ⟨⟨b, off, c0, c1, c2, c3, e, hok, hb, h0, h1, h2, h3, ht⟩, hr⟩ := h
    exact ⟨⟨b, off, c0, c1, c2, c3, e, ho _ hok, .inr (hb.resolve_left (Nat.not_lt_zero _)), h0, h1, h2, h3, is_up ho t _ ht⟩, row_up ho a (i + 1) r hr⟩
end
/-- a row of patterns that the call has made -/
def MadeL (w : World) (l : List T) (e : Ending) (w' : World) : Prop := ∃ a' c', e = .returned (.slice a' l.length c') ∧ Row 0 (fun b => w.heap.size ≤ b) w' a' 0 l ∧ Fr No w w'
theorem z4 {w : World} {g : Nat} {x0 x1 x2 x3 : Value} (h : w.heap[g]? = some (.cells #[x0, x1, x2, x3] 40 (0, 0))) :
    (w.cell? ⟨g, 0, none⟩ = some x0 ∧ w.cell? ⟨g, 1, none⟩ = some x1 ∧ w.cell? ⟨g, 2, none⟩ = some x2 ∧ w.cell? ⟨g, 3, none⟩ = some x3) ∧
      (w.frozen? ⟨g, 0, none⟩ = false ∧ w.frozen? ⟨g, 1, none⟩ = false ∧ w.frozen? ⟨g, 2, none⟩ = false ∧ w.frozen? ⟨g, 3, none⟩ = false) :=
  ⟨⟨cell_of h 0, cell_of h 1, cell_of h 2, cell_of h 3⟩, free_of h 0, free_of h 1, free_of h 2, free_of h 3⟩
set_option maxHeartbeats 4000000 in
set_option maxRecDepth 100000 in
theorem plain_any (base : Nat) : ∀ (F : Nat) (l : List T), partsL l < F → F ≤ 1048576 → ∀ (a : Option Addr) (cap n : Nat) (w : World), l.length = n → Row base (fun _ => True) w a 0 l → base ≤ w.heap.size →
    Calls Try.prog 12 #[.slice a n cap] w (MadeL w (plainL l))
  | 0, l, h, _, a, cap, n, w, _, _, _ => absurd h (Nat.not_lt_zero _)
  | F + 1, l, h, hF, a, cap, n, w, hn, hrow, hb => by
    have HI : Hid (∀ (j : Nat) (k : Nat) (s : ByteArray) (x : Int) (r : List T) (a' : Option Addr) (m c : Nat) (w' : World), l[j]? = some (.mk k s x r) → r.length = m → Row base (fun _ => True) w' a' 0 r → Fr No w w' → Calls Try.prog 12 #[.slice a' m c] w' (MadeL w' (plainL r))) := Lib.hid (fun j k s x r a' m c w' hj hm hr hf => by
      have hk := parts_kid l j _ hj
      simp only [parts] at hk
      exact plain_any base F r (by omega) (by omega) a' c m w' hm hr (Nat.le_trans hb hf.size))
    have HN := Lib.hid hn
    have HROW := Lib.hid hrow
    have hnF : n ≤ 1048576 := by
      have := partsL_len l
      omega
    obtain ⟨i0, z, hi, hz0, hz1, hz2, hz3⟩ := zero40
    have HINF := Lib.hid (And.intro hi (And.intro hz0 (And.intro hz1 (And.intro hz2 hz3))))
    clear hn hrow hi hz0 hz1 hz2 hz3 hb h hF
    go_enter Try.func12, Try.ntmps12
    go_wp2_with fail
    go_loopw [3, 4] (fun o i wr => ∃ (q : Nat), q ≤ n ∧ i = .int .i64 q ∧ Hid (Fr No w wr) ∧ Hid (Built w.heap.size wr o (plainL (l.take q)))) (fun _ i _ => n - (intOf i).toNat)
    case atStart => exact ⟨0, Nat.zero_le _, rfl, Lib.hid (Fr.refl _ _), Lib.hid (Built.nil _ _)⟩
    case round =>
      obtain ⟨q, hq, rfl, HF, HB⟩ := hrel
      obtain ⟨av, cv, hvk, hrw⟩ := HB.out.row
      have hql : (plainL (l.take q)).length = q := by rw [plainL_len, List.length_take, HN.out]; omega
      rw [hql] at hvk
      subst hvk
      by_cases hqn : q = n
      · have HR : Hid (Row 0 (fun b => w.heap.size ≤ b) wr av 0 (plainL l)) := Lib.hid (by
          rw [hqn, ← HN.out, List.take_length] at hrw
          exact hrw)
        clear hrw hql
        subst hqn
        go_wp2_with fail
        go_ret
        refine ⟨av, cv, ?_, HR.out, HF.out⟩
        rw [plainL_len, HN.out]
        rfl
      · obtain ⟨t, ht⟩ : ∃ t, l[q]? = some t := ⟨_, List.getElem?_eq_getElem (by rw [HN.out]; omega)⟩
        obtain ⟨b, off, x0, x1, x2, x3, rfl, j1, j2, d0, d1, d2, d3, his⟩ := Row.at_ 0 l (row_keepNo HROW.out HF.out) q t ht
        rw [Nat.zero_add] at d0 d1 d2 d3
        obtain ⟨k, s, x, ar, mr, cr, rfl, rfl, rfl, rfl⟩ := is_cells his
        obtain ⟨r, rfl, hmr, hrr⟩ := is_mk his
        have HTK := Lib.hid ht
        have HRR := Lib.hid hrr
        have HMR := Lib.hid hmr
        have hb1 : w.heap.size ≤ wr.heap.size := HF.out.size
        obtain ⟨vs, hvs, hown, hvi⟩ := HB.out
        rw [hql] at hown
        have HBR := Lib.hid (fun wb wn t u v' => Built.round (wb := wb) (wn := wn) (t := t) (u := u) (v' := v') hb1 hql hvs hown hvi)
        have HOWN := Lib.hid hown
        have k1' : (q : Int) < (n : Int) := by omega
        clear his hrw ht hvs hown hvi hql hrr hmr j1 j2
        obtain ⟨w2, hw2⟩ : ∃ w2, wr.alloc (.cells #[.int .u8 k, .string s, .int .i64 x, .slice ar mr cr] 40) = w2 := ⟨_, rfl⟩
        obtain ⟨gp, hgp⟩ : ∃ gp, wr.heap.size = gp := ⟨_, rfl⟩
        have R2 : Hid (w2.heap[gp]? = some (.cells #[.int .u8 k, .string s, .int .i64 x, .slice ar mr cr] 40 (0, 0))) := Lib.hid (by rw [← hw2, ← hgp]; exact new_block wr _)
        have HF2 : Hid (Fr No wr w2) := Lib.hid (by rw [← hw2]; exact Fr.alloc _ _)
        obtain ⟨⟨c0, c1, c2, c3⟩, f0, f1, f2, f3⟩ := z4 R2.out
        go_upto_if 18 with fail
        go_cut [] from 6 to 28 (fun wx => Hid (Fr (Just gp) w2 wx) ∧ Hid (wx.heap[gp]? = some (.cells #[.int .u8 (if k = 2 then 1 else k : Nat), .string (if k = 2 then ⟨#[]⟩ else s), .int .i64 x, .slice ar mr cr] 40 (0, 0))))
        case first =>
          by_cases hk2 : k = 2
          · subst hk2
            go_wp2_with fail
            go_meet
            exact ⟨Lib.hid ((Fr.setCell w2 ⟨gp, 0, none⟩ _).trans (Fr.setCell _ ⟨gp, 1, none⟩ _) fun _ _ h => h), Lib.hid (block_setCell (block_setCell R2.out 0 _) 1 _)⟩
          · have hkb : ((k : Int) == 2) = false := by simp only [beq_eq_false_iff_ne, ne_eq]; omega
            go_wp2_with fail
            go_meet
            refine ⟨Lib.hid (Fr.refl _ _), Lib.hid ?_⟩
            rw [if_neg hk2, if_neg hk2]
            exact R2.out
        case rest =>
          obtain ⟨HFC, RC⟩ := hcut
          obtain ⟨kk, hkk⟩ : ∃ kk : Nat, (if k = 2 then 1 else k : Nat) = kk := ⟨_, rfl⟩
          obtain ⟨ss, hss⟩ : ∃ ss : ByteArray, (if k = 2 then ⟨#[]⟩ else s) = ss := ⟨_, rfl⟩
          rw [hkk, hss] at RC
          have HPT : Hid (plainT (.mk k s x r) = .mk kk ss x (plainL r)) := Lib.hid (by rw [plainT, hkk, hss])
          clear hkk hss c0 c1 c2 c3 f0 f1 f2 f3 hw2
          obtain ⟨⟨c0, c1, c2, c3⟩, f0, f1, f2, f3⟩ := z4 RC.out
          have HFW : Hid (Fr No wr wc) := Lib.hid (HF2.out.own HFC.out (fun i e => by
            have e : i = gp := e
            omega))
          have hgc : gp < wc.heap.size := lt_of_block RC.out
          clear HFC HF2 R2
          go_wp2_with fail
          refine (HI.out q k s x r ar mr cr wc HTK.out HMR.out (row_keepNo HRR.out HFW.out) (HF.out.then HFW.out)).mono ?_
          rintro e w3 ⟨a3, c3', rfl, hr3, hf3⟩
          rw [(plainL_len r).trans HMR.out]
          have HF3 := Lib.hid (HFW.out.then hf3)
          have R3 := Lib.hid (hf3.keeps RC.out no_one)
          have HR3 := Lib.hid hr3
          clear hf3 hr3 c0 c1 c2 c3 f0 f1 f2 f3
          obtain ⟨⟨c0, c1, c2, c3⟩, f0, f1, f2, f3⟩ := z4 R3.out
          obtain ⟨w4, hw4⟩ : ∃ w4, w3.setCell ⟨gp, 3, none⟩ (.slice a3 mr c3') = w4 := ⟨_, rfl⟩
          have R4 : Hid (w4.heap[gp]? = some (.cells #[.int .u8 kk, .string ss, .int .i64 x, .slice a3 mr c3'] 40 (0, 0))) := Lib.hid (by rw [← hw4]; exact block_setCell R3.out 3 _)
          have HF34 : Hid (Fr (Just gp) w3 w4) := Lib.hid (by rw [← hw4]; exact Fr.setCell w3 ⟨gp, 3, none⟩ _)
          go_upto_region 10 with fail
          clear c0 c1 c2 c3 f0 f1 f2 f3 hw4 d0 d1 d2 d3
          obtain ⟨⟨c0, c1, c2, c3⟩, f0, f1, f2, f3⟩ := z4 R4.out
          have HF4 : Hid (Fr No wr w4) := Lib.hid (HF3.out.own HF34.out (fun i e => by
            have e : i = gp := e
            omega))
          have hws : w.heap.size ≤ w4.heap.size := Nat.le_trans hb1 HF4.out.size
          have HIS4 : Hid (Is 0 (fun b => wr.heap.size ≤ b) w4 (plainT (.mk k s x r)) (.agg #[.int .u8 kk, .string ss, .int .i64 x, .slice a3 mr c3'])) := Lib.hid (by
            rw [HPT.out]
            simp only [Is]
            refine ⟨a3, c3', by rw [(plainL_len r).trans HMR.out], Row.keep (ok := fun b => wc.heap.size ≤ b) (fun b hb ho _ => HF34.out.block b hb (fun e => ?_)) (fun b hb => ?_) a3 0 _ HR3.out⟩
            · have e : b = gp := e
              omega
            · have := HFW.out.size
              omega)
          clear HR3 HF34 HF3 R3 RC HRR HI
          go_wp2_with (at_builtin; refine wpList_append_lies _ rfl _ _ _ rfl w.heap.size 40 i0 _ 4 56 Try.underlying22 HINF.out.1 HINF.out.2.1 HINF.out.2.2.1 HINF.out.2.2.2.1 HINF.out.2.2.2.2 (by decide) (.slice av q cv) q (vs.flatMap cells4) rfl (owns_no HOWN.out (HF4.out.then (Fr.alloc _ _))) _ 1 1 [.int .u8 kk, .string ss, .int .i64 x, .slice a3 mr c3'] rfl rfl (World.news_of_block (new_block _ _)) (by simp [Value.oneCell']) (by decide) (by unfold maxLen; omega) (by omega) (Nat.le_trans hws (Fr.alloc _ (.cells #[.int .u8 kk, .string ss, .int .i64 x, .slice a3 mr c3'] 40)).size) _ rfl ?_; intro gn capn wn hownn hgrow hat hltn)
          have hnn := HBR.out _ wn (plainT (.mk k s x r)) (.agg #[.int .u8 kk, .string ss, .int .i64 x, .slice a3 mr c3']) (.slice (some ⟨gn, 0, none⟩) (q + 1) capn) (HF4.out.then (Fr.alloc w4 _)) (HIS4.out.no (Fr.alloc _ _)) hownn hgrow (hat.imp id (fun e => by rw [e]; rfl))
          have HNB : Hid (Built w.heap.size wn (.slice (some ⟨gn, 0, none⟩) (q + 1) capn) (plainL (l.take (q + 1)))) := Lib.hid (by
            rw [take_snoc HTK.out, plainL_snoc]
            exact hnn.1)
          have HNF : Hid (Fr No w wn) := Lib.hid (HF.out.own hnn.2 (fun i h => h))
          clear hnn hownn hgrow hat hltn
          exact ⟨⟨q + 1, by omega, by go_num, HNF, HNB⟩, by simp [intOf]; omega⟩
end Go.Proofs.Ythjecikdkdjlaaa
