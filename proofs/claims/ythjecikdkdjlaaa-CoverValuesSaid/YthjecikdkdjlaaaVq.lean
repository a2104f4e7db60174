/- Rows of patterns in tuples: what Check says of them. Plain. -/
import Derived.Test.YthjecikdkdjlaaaVp
namespace Go.Proofs.Ythjecikdkdjlaaa
open Go.RowKit

theorem rights0 : ∀ x : Ty0, ∀ p ∈ pats0 x, rightP infos18 p = true := fun x => by cases x <;> decide
theorem sorts0 : ∀ x : Ty0, ∀ p ∈ pats0 x, ∀ q ∈ pats0 x, isWild p = false → isWild q = false → (hdOf infos18 p).sort = (hdOf infos18 q).sort := fun x => by cases x <;> decide
theorem unk0 : ∀ x : Ty0, ∀ p ∈ pats0 x, unkT infos18 p = false := fun x => by cases x <;> decide
theorem parts0 : ∀ x : Ty0, ∀ p ∈ pats0 x, parts p ≤ 2 := fun x => by cases x <;> decide
theorem pl0_parts : ∀ (l : List Ty0) (ks : List T), pl0 l ks → partsL ks ≤ 2 * l.length
  | [], [], _ => Nat.le_refl _
  | [], _ :: _, h => h.elim
  | _ :: _, [], h => h.elim
  | x :: l, p :: ks, h => by
    have h1 := parts0 x p h.1
    have h2 := pl0_parts l ks h.2
    simp only [partsL, List.length_cons]
    omega
theorem pl0_unk : ∀ (l : List Ty0) (ks : List T), pl0 l ks → unkL infos18 ks = false
  | [], [], _ => rfl
  | [], _ :: _, h => h.elim
  | _ :: _, [], h => h.elim
  | x :: l, p :: ks, h => by simp only [unkL, unk0 x p h.1, pl0_unk l ks h.2, Bool.or_self]
theorem pl_at : ∀ (ts : List Ty) (ks : List T) (k : Nat) (t : T), pl ts ks → ks[k]? = some t → ∃ y, ts[k]? = some y ∧ isP y t
  | [], [], k, t, _, h => by simp at h
  | [], _ :: _, _, _, h, _ => h.elim
  | _ :: _, [], _, _, h, _ => h.elim
  | x :: l, p :: ks, 0, t, h, he => by
    simp only [List.getElem?_cons_zero, Option.some.injEq] at he
    subst he
    exact ⟨x, rfl, h.1⟩
  | x :: l, p :: ks, k + 1, t, h, he => by
    obtain ⟨y, h1, h2⟩ := pl_at l ks k t h.2 (by simpa using he)
    exact ⟨y, by simpa using h1, h2⟩
theorem isP_right {t : Ty} {p : T} (h : isP t p) (h2 : ∀ l, t = .t l → 2 ≤ l.length) : rightP infos18 p = true := by
  cases t with
  | s x => exact rights0 x p h
  | t l =>
    rcases h with rfl | ⟨ks, rfl, h⟩
    · rfl
    · have h3 := pl_len ((pl_map l ks).2 h)
      rw [List.length_map] at h3
      have h4 := h2 l rfl
      simp [rightP, tupP, T.kind, T.kids, h3, h4]
theorem isP_sort {t : Ty} {p q : T} (hp : isP t p) (hq : isP t q) (wp : isWild p = false) (wq : isWild q = false) : (hdOf infos18 p).sort = (hdOf infos18 q).sort := by
  cases t with
  | s x => exact sorts0 x p hp q hq wp wq
  | t l => rw [hd_tup hp wp, hd_tup hq wq]
theorem fits_ty : ∀ (F : Nat) (t : Ty) (l : List T), partsL l < F → (∀ l, t = .t l → 2 ≤ l.length) → (∀ p ∈ l, isP t p) → fitsL infos18 l = true
  | 0, _, _, h, _, _ => absurd h (Nat.not_lt_zero _)
  | F + 1, t, l, hF, h2, hl => by
    rw [fitsL_iff]
    refine ⟨fun p hp => isP_right (hl p hp) h2, fun p hp q hq wp wq => isP_sort (hl p hp) (hl q hq) wp wq, fun q hq wq k hk => ?_⟩
    have h1 := partsL_col infos18 (hdOf infos18 q) k l
    have h3 : 0 < l.length := List.length_pos_of_mem hq
    have hkl := pl_len (isP_kids (hl q hq) wq)
    obtain ⟨y, hy⟩ : ∃ y, (kt t q)[k]? = some y := ⟨_, List.getElem?_eq_getElem (by omega)⟩
    refine fits_ty F y _ (by omega) (fun l' e => ?_) (fun x hx => ?_)
    · exfalso
      subst e
      have hm := List.mem_of_getElem? hy
      cases t with
      | s x =>
        simp only [kt] at hm
        split at hm
        · simp at hm
        · cases hm
      | t l2 =>
        simp only [kt, List.mem_map] at hm
        obtain ⟨_, _, e⟩ := hm
        cases e
    · obtain ⟨q', hq', wq', he, hx⟩ := mem_col.1 hx
      have e := (hd_hm (hl q' hq') (hl q hq) wq' wq he).2
      obtain ⟨y', h4, h5⟩ := pl_at _ _ k x (isP_kids (hl q' hq') wq') hx
      rw [e, hy] at h4
      cases h4
      exact h5
/-- all values, as the law lays them -/
def stepV (all : List (List V)) (x : Ty0) : List (List V) := all.flatMap fun ks => (vals0 x).map fun v => ks ++ [v]
def prodV (l : List Ty0) : List (List V) := l.foldl stepV [[]]
theorem mem_step : ∀ (l : List Ty0) (acc : List (List V)) (ks : List V), ks ∈ l.foldl stepV acc ↔ ∃ a ∈ acc, ∃ vs, vl0 l vs ∧ ks = a ++ vs
  | [], acc, ks => by
    constructor
    · intro h
      exact ⟨ks, h, [], trivial, by simp⟩
    · rintro ⟨a, ha, vs, hv, rfl⟩
      cases vs with
      | nil => simpa using ha
      | cons _ _ => exact hv.elim
  | x :: l, acc, ks => by
    rw [List.foldl_cons, mem_step l]
    constructor
    · rintro ⟨a, ha, vs, hv, rfl⟩
      obtain ⟨b, hb, ha⟩ := List.mem_flatMap.1 ha
      obtain ⟨v, hv1, rfl⟩ := List.mem_map.1 ha
      exact ⟨b, hb, v :: vs, ⟨hv1, hv⟩, by simp⟩
    · rintro ⟨b, hb, vs, hv, rfl⟩
      cases vs with
      | nil => exact hv.elim
      | cons v vs => exact ⟨b ++ [v], List.mem_flatMap.2 ⟨b, hb, List.mem_map.2 ⟨v, hv.1, rfl⟩⟩, vs, hv.2, by simp⟩
theorem mem_prod {l : List Ty0} {ks : List V} : ks ∈ prodV l ↔ vl0 l ks := by
  unfold prodV
  rw [mem_step]
  constructor
  · rintro ⟨a, ha, vs, hv, rfl⟩
    rw [List.mem_singleton.1 ha]
    exact hv
  · intro h
    exact ⟨[], List.mem_singleton.2 rfl, ks, h, rfl⟩
theorem prod_snoc (l : List Ty0) (x : Ty0) : prodV (l ++ [x]) = stepV (prodV l) x := by simp [prodV]
def takenBy (done : List (List T)) (v : List V) : Bool := done.any fun r => tkL r v
def freshIn (l : List Ty0) (done : List (List T)) (r : List T) : Bool := (prodV l).any fun v => tkL r v && !takenBy done v
def allFresh (l : List Ty0) : List (List T) → List (List T) → Bool
  | _, [] => true
  | a, r :: rs => freshIn l a r && allFresh l (a ++ [r]) rs
def allTaken (l : List Ty0) (rows : List (List T)) : Bool := (prodV l).all (takenBy rows)
theorem allFresh_snoc (l : List Ty0) : ∀ (m a : List (List T)) (r : List T), allFresh l a (m ++ [r]) = (allFresh l a m && freshIn l (a ++ m) r)
  | [], a, r => by simp [allFresh]
  | q :: m, a, r => by simp only [List.cons_append, allFresh, allFresh_snoc l m, Bool.and_assoc, List.append_assoc, List.nil_append]
theorem tk_tup {r : List T} {v : List V} (h : r.length = v.length) : tk (tupP r) (tupV v) = tkL r v := by simp [tk, tupP, tupV, V.kids, h]
theorem vl0_len {l : List Ty0} {v : List V} (h : vl0 l v) : v.length = l.length := by
  have := vl_len ((vl_map l v).2 h)
  rwa [List.length_map] at this
theorem pl0_len {l : List Ty0} {v : List T} (h : pl0 l v) : v.length = l.length := by
  have := pl_len ((pl_map l v).2 h)
  rwa [List.length_map] at this
theorem use_tup {l : List Ty0} {a : List (List T)} {p : T} (ha : ∀ r ∈ a, pl0 l r) (hp : isP (.t l) p) :
    useW infos18 ((a.map tupP).map one) [p] = (prodV l).any fun v => tk p (tupV v) && !takenBy a v := by
  have hall : ∀ x ∈ (a.map tupP).map one, pl [.t l] x := fun x hx => by
    obtain ⟨y, hy, rfl⟩ := List.mem_map.1 hx
    obtain ⟨r, hr, rfl⟩ := List.mem_map.1 hy
    exact ⟨.inr ⟨r, rfl, ha r hr⟩, trivial⟩
  rw [Bool.eq_iff_iff, use_sem _ [.t l] _ [p] (Nat.lt_succ_self _) ⟨hp, trivial⟩ hall, List.any_eq_true]
  have hfree : ∀ v, vl0 l v → (free ((a.map tupP).map one) [tupV v] ↔ takenBy a v = false) := fun v hv => by
    simp only [takenBy, List.any_eq_false]
    constructor
    · intro h r hr
      have := h [tupP r] (List.mem_map.2 ⟨tupP r, List.mem_map.2 ⟨r, hr, rfl⟩, rfl⟩)
      simp only [tkL, Bool.and_true] at this
      rw [tk_tup (by rw [pl0_len (ha r hr), vl0_len hv])] at this
      rw [this]
      exact Bool.false_ne_true
    · intro h x hx
      obtain ⟨y, hy, rfl⟩ := List.mem_map.1 hx
      obtain ⟨r, hr, rfl⟩ := List.mem_map.1 hy
      have := h r hr
      simp only [one, tkL, Bool.and_true]
      rw [tk_tup (by rw [pl0_len (ha r hr), vl0_len hv])]
      simpa using this
  constructor
  · rintro ⟨vs, hv, h1, h2⟩
    match vs, hv with
    | [v], hv =>
      obtain ⟨ks, rfl, hk⟩ := hv.1
      refine ⟨ks, mem_prod.2 hk, ?_⟩
      simp only [tkL, Bool.and_true] at h1
      rw [h1, (hfree ks hk).1 h2]
      rfl
  · rintro ⟨ks, hk, h⟩
    have hk := mem_prod.1 hk
    rw [Bool.and_eq_true] at h
    refine ⟨[tupV ks], ⟨⟨ks, rfl, hk⟩, trivial⟩, ?_, (hfree ks hk).2 (by simpa using h.2)⟩
    simp only [tkL, Bool.and_true]
    exact h.1
theorem use_row {l : List Ty0} {a : List (List T)} {r : List T} (ha : ∀ r ∈ a, pl0 l r) (hr : pl0 l r) : useW infos18 ((a.map tupP).map one) [tupP r] = freshIn l a r := by
  rw [use_tup ha (.inr ⟨r, rfl, hr⟩)]
  unfold freshIn
  rw [Bool.eq_iff_iff, List.any_eq_true, List.any_eq_true]
  have e : ∀ v ∈ prodV l, tk (tupP r) (tupV v) = tkL r v := fun v hv => tk_tup (by rw [pl0_len hr, vl0_len (mem_prod.1 hv)])
  constructor
  · rintro ⟨v, hv, h⟩
    exact ⟨v, hv, by rw [← e v hv]; exact h⟩
  · rintro ⟨v, hv, h⟩
    exact ⟨v, hv, by rw [e v hv]; exact h⟩
theorem allUse_tup {l : List Ty0} : ∀ (rs a : List (List T)), (∀ r ∈ a, pl0 l r) → (∀ r ∈ rs, pl0 l r) → allUse infos18 (a.map tupP) (rs.map tupP) = allFresh l a rs
  | [], a, _, _ => rfl
  | r :: rs, a, ha, hr => by
    have h1 := hr r (List.mem_cons_self ..)
    have h2 := allUse_tup rs (a ++ [r]) (fun x hx => by
      rcases List.mem_append.1 hx with hx | hx
      · exact ha x hx
      · rw [List.mem_singleton.1 hx]
        exact h1) (fun x hx => hr x (List.mem_cons_of_mem _ hx))
    rw [List.map_append] at h2
    simp only [List.map_cons, allUse, allFresh, use_row ha h1]
    congr 1
theorem partsL_tup {l : List Ty0} : ∀ (rs : List (List T)), (∀ r ∈ rs, pl0 l r) → partsL (rs.map tupP) ≤ rs.length * (1 + 2 * l.length)
  | [], _ => Nat.zero_le _
  | r :: rs, h => by
    have h1 := pl0_parts l r (h r (List.mem_cons_self ..))
    have h2 := partsL_tup rs (fun x hx => h x (List.mem_cons_of_mem _ hx))
    simp only [List.map_cons, partsL, List.length_cons, tupP, parts, Nat.add_mul, Nat.one_mul] at h2 ⊢
    omega
theorem unkL_tup {l : List Ty0} (rs : List (List T)) (h : ∀ r ∈ rs, pl0 l r) : unkL infos18 (rs.map tupP) = false := by
  rw [unkL_any, List.any_eq_false]
  intro t ht
  obtain ⟨r, hr, rfl⟩ := List.mem_map.1 ht
  simp [tupP, unkT, pl0_unk l r (h r hr)]
theorem values_law {l : List Ty0} {rs : List (List T)} (h2 : 2 ≤ l.length) (h4 : l.length ≤ 4) (h12 : rs.length ≤ 12) (h : ∀ r ∈ rs, pl0 l r) :
    checkP infos18 (rs.map tupP) false = (if allFresh l [] rs then 0 else 14) ∧ checkP infos18 (rs.map tupP) true = (if allFresh l [] rs && allTaken l rs then 0 else 14) := by
  have hp : partsL (rs.map tupP) ≤ 200 := by
    have h1 := partsL_tup rs h
    have h3 : rs.length * (1 + 2 * l.length) ≤ 12 * 9 := Nat.mul_le_mul h12 (by omega)
    omega
  have hf : fitsL infos18 (rs.map tupP) = true := by
    refine fits_ty _ (.t l) _ (Nat.lt_succ_self _) (fun l' e => by cases e; exact h2) (fun p hp => ?_)
    obtain ⟨r, hr, rfl⟩ := List.mem_map.1 hp
    exact .inr ⟨r, rfl, h r hr⟩
  have hu := allUse_tup rs [] (fun r hr => by cases hr) h
  have hw := use_tup h (.inl rfl : isP (.t l) anyP)
  have e : ((prodV l).any fun v => tk anyP (tupV v) && !takenBy rs v) = !allTaken l rs := by
    unfold allTaken
    rw [Bool.eq_iff_iff, List.any_eq_true, Bool.not_eq_true', ← Bool.not_eq_true, List.all_eq_true]
    constructor
    · rintro ⟨v, hv, h⟩ h2
      rw [tk_wild anyP_wild, h2 v hv] at h
      cases h
    · intro h
      obtain ⟨v, h⟩ := Classical.not_forall.1 h
      obtain ⟨hv, h⟩ := Classical.not_imp.1 h
      refine ⟨v, hv, ?_⟩
      rw [tk_wild anyP_wild]
      simpa using h
  rw [List.map_nil] at hu
  rw [checkP_good false hp (unkL_tup rs h) hf, checkP_good true hp (unkL_tup rs h) hf, hu, hw, e]
  cases allFresh l [] rs <;> cases allTaken l rs <;> exact ⟨rfl, rfl⟩
end Go.Proofs.Ythjecikdkdjlaaa
