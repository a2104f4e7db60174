/- What makes two types the same makes so what is bound; what Unify and Apply come to. -/
import Derived.Test.YtfjddfcndammdaaMgx
import Derived.Test.YtfjddfcndammdaaRPut
import Derived.Test.YtfjddfcndammdaaUnifyB
import Derived.Test.YtfjddfcndammdaaApB
namespace Go.Proofs.Ytfjddfcndammdaa

/-- what is put for an unknown -/
def atL (L : List T) (n : Int) : T := L.getD n.toNat zeroT
theorem put_var {L : List T} {s : ByteArray} {n : Int} {r : List T} (h0 : 0 ≤ n) (h1 : n < L.length) : putT L (.mk 1 s n r) = atL L n := by
  rw [putT, if_pos ⟨rfl, h0, h1⟩, atL]
  have : n.toNat < L.length := by omega
  simp [List.getD, List.getElem?_eq_getElem this]
theorem put_mk {L : List T} {k : Nat} {s : ByteArray} {n : Int} {r : List T} (hk : k ≠ 1) : putT L (.mk k s n r) = .mk k s n (putL L r) := by
  rw [putT, if_neg (fun h => hk h.1)]
/-- what is put meets what is bound -/
def Sat (L : List T) (l : Bs) : Prop := ∀ n x, look l n = some x → atL L n = putT L x
theorem put_hd {L : List T} {l : Bs} {many : Nat} (hL : many ≤ L.length) (hfine : Fine many l) (hs : Sat L l) : ∀ (F : Nat) (t h : T), Good many t → hd l F t = some h → putT L t = putT L h
  | 0, _, _, _, h => by cases h
  | F + 1, .mk k s n r, h, hg, hh => by
    simp only [hd] at hh
    by_cases hk : k = 1
    · subst hk
      rw [if_pos rfl] at hh
      cases hl : look l n with
      | none =>
        rw [hl] at hh
        simp only [Option.some.injEq] at hh
        rw [hh]
      | some x =>
        rw [hl] at hh
        have := hg.num
        rw [put_var this.1 (by omega), hs n x hl]
        exact put_hd hL hfine hs F x h (hfine.good n x hl).1 hh
    · rw [if_neg hk] at hh
      simp only [Option.some.injEq] at hh
      rw [hh]
theorem putL_mapO {L : List T} {g : T → Option T} : ∀ (r us : List T), (∀ t ∈ r, ∀ u, g t = some u → putT L t = putT L u) → mapO g r = some us → putL L r = putL L us
  | [], us, _, h => by
    simp only [mapO, Option.some.injEq] at h
    rw [← h]
  | t :: r, us, hg, h => by
    simp only [mapO] at h
    cases ht : g t with
    | none => rw [ht] at h; cases h
    | some x =>
      cases hl : mapO g r with
      | none => rw [ht, hl] at h; cases h
      | some y =>
        rw [ht, hl] at h
        simp only [Option.some.injEq] at h
        rw [← h]
        simp only [putL]
        rw [hg t (by simp) x ht, putL_mapO r y (fun a ha => hg a (by simp [ha])) hl]
theorem put_ap {L : List T} {l : Bs} {many : Nat} (hL : many ≤ L.length) (hfine : Fine many l) (hs : Sat L l) : ∀ (F : Nat) (t u : T), Good many t → ap l F t = some u → putT L t = putT L u
  | 0, _, _, _, h => by cases h
  | F + 1, .mk k s n r, u, hg, hh => by
    simp only [ap] at hh
    by_cases hk : k = 1
    · subst hk
      rw [if_pos rfl] at hh
      cases hl : look l n with
      | none =>
        rw [hl] at hh
        simp only [Option.some.injEq] at hh
        rw [hh]
      | some x =>
        rw [hl] at hh
        have := hg.num
        rw [put_var this.1 (by omega), hs n x hl]
        exact put_ap hL hfine hs F x u (hfine.good n x hl).1 hh
    · rw [if_neg hk] at hh
      cases hm : mapO (ap l F) r with
      | none => rw [hm] at hh; cases hh
      | some us =>
        rw [hm] at hh
        simp only [Option.map_some, Option.some.injEq] at hh
        rw [← hh, put_mk hk, put_mk hk, putL_mapO r us (fun t ht u hu => by
          obtain ⟨j, hj⟩ := List.getElem?_of_mem ht
          exact put_ap hL hfine hs F t u (hg.kids j t hj) hu) hm]
mutual
theorem occ_parts {L : List T} {n : Int} (h0 : 0 ≤ n) (h1 : n < L.length) : ∀ u : T, occ n u = true → parts (atL L n) ≤ parts (putT L u) ∧ (u.kind ≠ 1 → parts (atL L n) < parts (putT L u))
  | .mk k s m r, h => by
    by_cases hk : k = 1
    · subst hk
      simp only [occ, if_true, decide_eq_true_eq] at h
      subst h
      rw [put_var h0 h1]
      exact ⟨Nat.le_refl _, fun q => absurd rfl q⟩
    · simp only [occ, if_neg hk] at h
      have := occ_partsL h0 h1 r h
      rw [put_mk hk]
      simp only [parts]
      exact ⟨by omega, fun _ => by omega⟩
theorem occ_partsL {L : List T} {n : Int} (h0 : 0 ≤ n) (h1 : n < L.length) : ∀ r : List T, occL n r = true → parts (atL L n) ≤ partsL (putL L r)
  | [], h => by simp [occL] at h
  | t :: r, h => by
    simp only [occL, Bool.or_eq_true] at h
    simp only [putL, partsL]
    rcases h with h | h
    · have := (occ_parts h0 h1 t h).1
      omega
    · have := occ_partsL h0 h1 r h
      omega
end
theorem ap_kind {l : Bs} {F : Nat} {k : Nat} {s : ByteArray} {n : Int} {r : List T} {u : T} (hk : k ≠ 1) (h : ap l F (.mk k s n r) = some u) : u.kind = k := by
  cases F with
  | zero => cases h
  | succ F =>
    simp only [ap, if_neg hk] at h
    cases hm : mapO (ap l F) r with
    | none => rw [hm] at h; cases h
    | some us =>
      rw [hm] at h
      simp only [Option.map_some, Option.some.injEq] at h
      rw [← h]
      rfl
theorem bindM_sat {L : List T} {many : Nat} (hL : many ≤ L.length) {S T0 : T} {F : Nat} {l l' : Bs} {n : Int} {k2 : Nat} {s2 : ByteArray} {n2 : Int} {r2 : List T} {e : Int} (hfine : Fine many l) (hs : Sat L l) (h0 : 0 ≤ n) (h1 : n < many) (hl : look l n = none)
    (hg : Good many (.mk k2 s2 n2 r2)) (hfree : k2 = 1 → look l n2 = none) (hne : ¬ (k2 = 1 ∧ n = n2)) (heq : atL L n = putT L (.mk k2 s2 n2 r2)) (h : bindM S T0 F l n (.mk k2 s2 n2 r2) = some (e, l')) : e ≠ 13 ∧ Sat L l' := by
  rcases bindM_ext h with ⟨_, _, u, hu, ho⟩ | ⟨rfl, u, a, b, _, _, _, _, he⟩
  · exfalso
    by_cases hk : k2 = 1
    · subst hk
      cases F with
      | zero => cases hu
      | succ F =>
        rw [ap_var (hfree rfl)] at hu
        simp only [Option.some.injEq] at hu
        rw [← hu] at ho
        simp only [occ, if_true, decide_eq_true_eq] at ho
        exact hne ⟨rfl, ho.symm⟩
    · have h2 := (occ_parts (L := L) h0 (by omega) u ho).2 (by rw [ap_kind hk hu]; exact hk)
      rw [← put_ap hL hfine hs F _ u hg hu, ← heq] at h2
      omega
  · constructor
    · rw [he]
      split <;> decide
    · intro m x hx
      rw [look_app] at hx
      cases hq : look l m with
      | some y =>
        rw [hq] at hx
        simp only [Option.some.injEq] at hx
        rw [← hx]
        exact hs m y hq
      | none =>
        rw [hq] at hx
        by_cases e : n = m
        · simp only [if_pos e, Option.some.injEq] at hx
          rw [← hx, ← e]
          exact heq
        · simp [if_neg e] at hx
theorem uniL_sat {L : List T} {many : Nat} {g : Bs → T → T → Option (Int × Bs)} (hw : ∀ l s t e l', Good many s → parts s ≤ 1048576 → Good many t → parts t ≤ 1048576 → WfB many l → g l s t = some (e, l') → WfB many l')
    (hg : ∀ l s t e l', Goods many s → Goods many t → WfB many l → Sat L l → putT L s = putT L t → g l s t = some (e, l') → e ≠ 13 ∧ Sat L l') : ∀ (ss ts : List T) (l : Bs) (e : Int) (l' : Bs), (∀ s ∈ ss, Goods many s) → (∀ t ∈ ts, Goods many t) → WfB many l → Sat L l →
    putL L ss = putL L ts → uniL g l ss ts = some (e, l') → e ≠ 13 ∧ Sat L l'
  | [], ts, l, e, l', _, _, _, hs, _, h => by
    simp only [uniL, Option.some.injEq, Prod.mk.injEq] at h
    rw [← h.2, ← h.1]
    exact ⟨by decide, hs⟩
  | s :: ss, [], l, e, l', _, _, _, hs, _, h => by
    simp only [uniL, Option.some.injEq, Prod.mk.injEq] at h
    rw [← h.2, ← h.1]
    exact ⟨by decide, hs⟩
  | s :: ss, t :: ts, l, e, l', g1, g2, hwl, hs, heq, h => by
    simp only [uniL] at h
    simp only [putL, List.cons.injEq] at heq
    cases hq : g l s t with
    | none => rw [hq] at h; cases h
    | some p =>
      obtain ⟨e1, l1⟩ := p
      rw [hq] at h
      simp only at h
      have h1 := hg l s t e1 l1 (g1 s (by simp)) (g2 t (by simp)) hwl hs heq.1 hq
      by_cases he : e1 = 0
      · rw [if_pos he] at h
        exact uniL_sat hw hg ss ts l1 e l' (fun x hx => g1 x (by simp [hx])) (fun x hx => g2 x (by simp [hx])) (hw l s t e1 l1 (g1 s (by simp)).1 (g1 s (by simp)).2 (g2 t (by simp)).1 (g2 t (by simp)).2 hwl hq) h1.2 heq.2 h
      · rw [if_neg he] at h
        simp only [Option.some.injEq, Prod.mk.injEq] at h
        rw [← h.2, ← h.1]
        exact h1
/-- where types put in make two types the same, they are not told to be unlike, and these meet what is bound -/
theorem uni_sat {L : List T} {many : Nat} (hL : many ≤ L.length) {S T0 : T} : ∀ (F : Nat) (l : Bs) (s t : T) (e : Int) (l' : Bs), Goods many s → Goods many t → WfB many l → Sat L l → putT L s = putT L t → uni S T0 F l s t = some (e, l') → e ≠ 13 ∧ Sat L l'
  | 0, _, _, _, _, _, _, _, _, _, _, h => by cases h
  | F + 1, l, s, t, e, l', hs, ht, hw, hsat, heq, h => by
    obtain ⟨k1, s1, n1, r1, k2, s2, n2, r2, h1, h2, hc⟩ := uni_cases h
    have g1 := hd_good hw.fine F s _ hs.1 hs.2 h1
    have g2 := hd_good hw.fine F t _ ht.1 ht.2 h2
    have he : putT L (.mk k1 s1 n1 r1) = putT L (.mk k2 s2 n2 r2) := (put_hd hL hw.fine hsat F s _ hs.1 h1).symm.trans (heq.trans (put_hd hL hw.fine hsat F t _ ht.1 h2))
    rcases hc with ⟨_, _, _, rfl, rfl⟩ | ⟨rfl, hn, hb⟩ | ⟨rfl, hn, hb⟩ | ⟨q1, q2, hn, _, _⟩ | ⟨hk, rfl, rfl, hl, hb⟩
    · exact ⟨by decide, hsat⟩
    · have := g1.1.num
      rw [put_var this.1 (by omega)] at he
      exact bindM_sat hL hw.fine hsat this.1 this.2 (hd_free F s _ _ _ _ h1 rfl) g2.1 (fun q => hd_free F t _ _ _ _ h2 q) hn he hb
    · have := g2.1.num
      rw [put_var (n := n2) this.1 (by omega)] at he
      exact bindM_sat hL hw.fine hsat this.1 this.2 (hd_free F t _ _ _ _ h2 rfl) g1.1 (fun q => hd_free F s _ _ _ _ h1 q) (fun q => hn ⟨q.1, q.2.symm⟩) he.symm hb
    · rw [put_mk q1, put_mk q2] at he
      simp only [T.mk.injEq] at he
      have hlen := congrArg List.length he.2.2.2
      rw [putL_len, putL_len] at hlen
      rcases hn with q | q | q
      · exact absurd he.1 q
      · exact absurd he.2.1 q
      · exact absurd hlen q
    · rw [put_mk hk, put_mk hk] at he
      simp only [T.mk.injEq] at he
      exact uniL_sat (fun l s t e l' a b c d hw h => uni_wf F l s t e l' a b c d hw h) (fun l s t e l' a b c d f h => uni_sat hL F l s t e l' a b c d f h) r1 r2 l e l' (goods_kids g1) (goods_kids g2) hw hsat he.2.2.2 hb
theorem sat_nil (L : List T) : Sat L [] := fun n x h => by simp [look] at h
/-- bindings as they come to be -/
structure Bd (many : Nat) (l : Bs) : Prop where
  wf : WfB many l
  acyc : Acyc l
theorem wfB_nil {many : Nat} (h : many ≤ 4096) : WfB many [] := ⟨⟨h, fun n x hx => by simp [look] at hx⟩, List.nodup_nil, fun p hp => by cases hp⟩
theorem bd_nil {many : Nat} (h : many ≤ 4096) : Bd many [] := ⟨wfB_nil h, acyc_nil⟩
/-- Unify comes to something -/
theorem unif_ex {many : Nat} {l : Bs} (hb : Bd many l) {s t : T} (hps : parts s ≤ 1048576) (hpt : parts t ≤ 1048576) : ∃ e l', Unif many l s t e l' ∧ Bd many l' ∧ (e ≠ 0 → l' = l) := by
  cases hm : (may many s && may many t) with
  | false => exact ⟨1, l, .inl ⟨hm, rfl, rfl⟩, hb, fun _ => rfl⟩
  | true =>
    simp only [Bool.and_eq_true] at hm
    have hs := may_good.1 hm.1
    have ht := may_good.1 hm.2
    obtain ⟨F1, us, hus⟩ := hb.acyc s
    obtain ⟨F2, ut, hut⟩ := hb.acyc t
    cases hg : (greatT us || greatT ut) with
    | true => exact ⟨16, l, .inr ⟨hs, ht, max F1 F2, us, ut, ap_mono (Nat.le_max_left _ _) hus, ap_mono (Nat.le_max_right _ _) hut, .inl ⟨hg, rfl, rfl⟩⟩, hb, fun _ => rfl⟩
    | false =>
      obtain ⟨F3, e, l1, h⟩ := uni_any (S := s) (T0 := t) hb.wf hb.acyc ⟨hs, hps⟩ ⟨ht, hpt⟩
      refine ⟨e, if e = 0 then l1 else l, .inr ⟨hs, ht, max F3 (max F1 F2), us, ut, ap_mono (by omega) hus, ap_mono (by omega) hut, .inr ⟨hg, l1, uni_mono (Nat.le_max_left _ _) h, rfl⟩⟩, ?_, fun he => if_neg he⟩
      split
      · exact ⟨uni_wf _ _ _ _ _ _ hs hps ht hpt hb.wf h, hb.acyc.ext (uni_Ext _ _ _ _ _ _ h)⟩
      · exact hb
/-- Apply comes to something -/
theorem applied_ex {many : Nat} {l : Bs} (hb : Bd many l) (t : T) : ∃ u, Applied many l t u := by
  cases hm : may many t with
  | false => exact ⟨t, .inl ⟨hm, rfl⟩⟩
  | true =>
    obtain ⟨F, x, hx⟩ := hb.acyc t
    cases hg : greatT x with
    | true => exact ⟨zeroT, .inr ⟨may_good.1 hm, F, x, hx, .inl ⟨hg, rfl⟩⟩⟩
    | false => exact ⟨x, .inr ⟨may_good.1 hm, F, x, hx, .inr ⟨hg, rfl⟩⟩⟩
theorem not_great {t : T} (hp : parts t ≤ 1000) (hd : depthT t ≤ 100) : greatT t = false := by
  simp only [greatT, fitB, Bool.not_eq_false', Bool.and_eq_true, decide_eq_true_eq]
  omega
theorem applied_nil (many : Nat) {t : T} (hp : parts t ≤ 1000) (hd : depthT t ≤ 100) : Applied many [] t t := by
  cases hm : may many t with
  | false => exact .inl ⟨hm, rfl⟩
  | true => exact .inr ⟨may_good.1 hm, parts t, t, ap_nil _ t (Nat.le_refl _), .inr ⟨not_great hp hd, rfl⟩⟩
theorem great_parts {t : T} (h : greatT t = false) : parts t ≤ 1048576 := by
  simp only [greatT, fitB, Bool.not_eq_false', Bool.and_eq_true, decide_eq_true_eq] at h
  omega
/-- the law Meet, plainly -/
theorem meet_ok {many : Nat} (hm : many ≤ 4096) {s t : T} (hps : parts s ≤ 1048576) (hpt : parts t ≤ 1048576) {l' : Bs} (h : Unif many [] s t 0 l') :
    (∃ u, parts u ≤ 1048576 ∧ Applied many l' s u ∧ Applied many l' t u) ∧ Unif many l' s t 0 l' ∧ Unif many l' t s 0 l' := by
  rcases h with ⟨_, h, _⟩ | ⟨hs, ht, F, us, ut, h1, h2, h3⟩
  · cases h
  rcases h3 with ⟨_, h, _⟩ | ⟨hg, l1, h4, h5⟩
  · cases h
  rw [if_pos rfl] at h5
  subst h5
  have hb := bd_nil hm
  have hw := uni_wf _ _ _ _ _ _ hs hps ht hpt hb.wf h4
  have hac := hb.acyc.ext (uni_Ext _ _ _ _ _ _ h4)
  have heq := uni_sound F [] s t l' ⟨hs, hps⟩ ⟨ht, hpt⟩ hb.wf hb.acyc h4
  obtain ⟨G, u, hu1, hu2⟩ := heq
  have hsm : greatT u = false := by
    rcases uni_small _ _ _ _ _ h4 with rfl | ⟨K, a, b, k1, k2, k3, k4⟩
    · rw [ap_one hu1 h1]
      simp only [Bool.or_eq_false_iff] at hg
      exact hg.1
    · rw [ap_one hu1 k1]
      exact k3
  refine ⟨⟨u, great_parts hsm, .inr ⟨hs, G, u, hu1, .inr ⟨hsm, rfl⟩⟩, .inr ⟨ht, G, u, hu2, .inr ⟨hsm, rfl⟩⟩⟩, ?_, ?_⟩
  · obtain ⟨K, e, l2, hx⟩ := uni_any (S := s) (T0 := t) hw hac ⟨hs, hps⟩ ⟨ht, hpt⟩
    obtain ⟨rfl, rfl⟩ := uni_again K l' s t e l2 ⟨hs, hps⟩ ⟨ht, hpt⟩ hw hac ⟨G, u, hu1, hu2⟩ hx
    exact .inr ⟨hs, ht, max K G, u, u, ap_mono (Nat.le_max_right _ _) hu1, ap_mono (Nat.le_max_right _ _) hu2, .inr ⟨by simp [hsm], l2, uni_mono (Nat.le_max_left _ _) hx, rfl⟩⟩
  · obtain ⟨K, e, l2, hx⟩ := uni_any (S := t) (T0 := s) hw hac ⟨ht, hpt⟩ ⟨hs, hps⟩
    obtain ⟨rfl, rfl⟩ := uni_again K l' t s e l2 ⟨ht, hpt⟩ ⟨hs, hps⟩ hw hac ⟨G, u, hu2, hu1⟩ hx
    exact .inr ⟨ht, hs, max K G, u, u, ap_mono (Nat.le_max_right _ _) hu2, ap_mono (Nat.le_max_right _ _) hu1, .inr ⟨by simp [hsm], l2, uni_mono (Nat.le_max_left _ _) hx, rfl⟩⟩
theorem unif_sat {L : List T} {many : Nat} (hm : many ≤ 4096) (hL : many ≤ L.length) {s t : T} (hps : parts s ≤ 1048576) (hpt : parts t ≤ 1048576) (heq : putT L s = putT L t) {e : Int} {l' : Bs} (h : Unif many [] s t e l') : e ≠ 13 ∧ Sat L l' := by
  rcases h with ⟨_, rfl, rfl⟩ | ⟨hs, ht, F, us, ut, h1, h2, h3⟩
  · exact ⟨by decide, sat_nil L⟩
  rcases h3 with ⟨_, rfl, rfl⟩ | ⟨hg, l1, h4, rfl⟩
  · exact ⟨by decide, sat_nil L⟩
  obtain ⟨h5, h6⟩ := uni_sat hL F [] s t e l1 ⟨hs, hps⟩ ⟨ht, hpt⟩ (wfB_nil hm) (sat_nil L) heq h4
  refine ⟨h5, ?_⟩
  split
  · exact h6
  · exact sat_nil L
/-- the law Best, plainly -/
theorem best_ok {L : List T} {many : Nat} {l : Bs} (hL : many ≤ L.length) (hb : Bd many l) (hs : Sat L l) {i : Nat} (hi : i < many) {x : T} (h : Applied many l (varT i) x) : x.kind = 0 ∨ putT L x = atL L i := by
  rcases h with ⟨hm, rfl⟩ | ⟨hg, F, y, hy, ⟨_, rfl⟩ | ⟨_, rfl⟩⟩
  · right
    exact put_var (by omega) (by omega)
  · exact .inl rfl
  · right
    rw [← put_ap hL hb.wf.fine hs F _ _ hg hy]
    exact put_var (by omega) (by omega)
end Go.Proofs.Ytfjddfcndammdaa
