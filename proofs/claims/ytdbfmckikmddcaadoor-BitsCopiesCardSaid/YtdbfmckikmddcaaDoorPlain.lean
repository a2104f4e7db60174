/- Plain mathematics for sets of numbers: words of 64 bits, how many bits are set, which is the lowest that is not. No program. -/
namespace Go.Proofs.YtdbfmckikmddcaaDoor.Plain
/-- the number of the first n bits -/
def ofBits (f : Nat → Bool) : Nat → Nat
  | 0 => 0
  | n + 1 => 2 ^ n * (f n).toNat + ofBits f n
theorem ofBits_lt (f : Nat → Bool) (n : Nat) : ofBits f n < 2 ^ n := by
  induction n with
  | zero => simp [ofBits]
  | succ n ih =>
    simp only [ofBits, Nat.pow_succ]
    cases f n <;> simp <;> omega
theorem testBit_ofBits (f : Nat → Bool) (n j : Nat) : (ofBits f n).testBit j = (decide (j < n) && f j) := by
  induction n with
  | zero => simp [ofBits]
  | succ n ih =>
    simp only [ofBits]
    rw [Nat.testBit_two_pow_mul_add _ (ofBits_lt f n), ih]
    by_cases h : j < n
    · have : j < n + 1 := by omega
      simp [h, this]
    · by_cases h2 : j = n
      · subst h2; cases hf : f j <;> simp
      · have : ¬ j < n + 1 := by omega
        have h3 : j - n ≠ 0 := by omega
        simp only [h, this, if_false, decide_false, Bool.false_and]
        cases f n
        · simp
        · simpa using Nat.testBit_lt_two_pow (Nat.one_lt_two_pow h3)
/-- word k of a set of numbers -/
def W (f : Nat → Bool) (k : Nat) : Nat := ofBits (fun j => f (64 * k + j)) 64
theorem W_lt (f : Nat → Bool) (k : Nat) : W f k < 18446744073709551616 := ofBits_lt _ _
theorem testBit_W (f : Nat → Bool) (k j : Nat) : (W f k).testBit j = (decide (j < 64) && f (64 * k + j)) := testBit_ofBits _ _ _

theorem ofBits_none (n : Nat) : ofBits (fun _ => false) n = 0 := by
  induction n with
  | zero => rfl
  | succ n ih => simp [ofBits, ih]
theorem W_none (k : Nat) : W (fun _ => false) k = 0 := ofBits_none 64

def upd (f : Nat → Bool) (i : Nat) (b : Bool) : Nat → Bool := fun j => if j = i then b else f j

theorem W_set (f : Nat → Bool) (i k : Nat) : W (upd f i true) k = if k = i / 64 then W f k ||| 2 ^ (i % 64) else W f k := by
  apply Nat.eq_of_testBit_eq
  intro j
  split
  · rename_i h
    rw [Nat.testBit_or, testBit_W, testBit_W, Nat.testBit_two_pow, upd]
    by_cases h1 : j < 64
    · by_cases h2 : i % 64 = j
      · have : 64 * k + j = i := by omega
        simp [h1, h2, this]
      · have : ¬ 64 * k + j = i := by omega
        simp [h1, h2, this]
    · have : ¬ i % 64 = j := by omega
      simp [h1, this]
  · rename_i h
    rw [testBit_W, testBit_W, upd]
    by_cases h1 : j < 64
    · have : ¬ 64 * k + j = i := by omega
      simp [h1, this]
    · simp [h1]

theorem bit_test (f : Nat → Bool) (i : Nat) : (W f (i / 64) &&& 2 ^ (i % 64) = 0) ↔ f i = false := by
  constructor
  · intro h
    have : (W f (i / 64) &&& 2 ^ (i % 64)).testBit (i % 64) = false := by rw [h]; simp
    rw [Nat.testBit_and, testBit_W, Nat.testBit_two_pow] at this
    have e : 64 * (i / 64) + i % 64 = i := by omega
    have e2 : i % 64 < 64 := by omega
    simpa [e, e2] using this
  · intro h
    apply Nat.eq_of_testBit_eq
    intro j
    rw [Nat.testBit_and, testBit_W, Nat.testBit_two_pow]
    by_cases h2 : i % 64 = j
    · have : 64 * (i / 64) + j = i := by omega
      simp [this, h]
    · simp [h2]

theorem W_clear (f : Nat → Bool) (i k : Nat) : W (upd f i false) k = if k = i / 64 then W f k &&& (18446744073709551615 - 2 ^ (i % 64)) else W f k := by
  apply Nat.eq_of_testBit_eq
  intro j
  split
  · rename_i h
    have hm : (18446744073709551615 - 2 ^ (i % 64)).testBit j = (decide (j < 64) && decide (¬ i % 64 = j)) := by
      have e : 18446744073709551615 - 2 ^ (i % 64) = 2 ^ 64 - (2 ^ (i % 64) + 1) := by omega
      have hl : 2 ^ (i % 64) < 2 ^ 64 := Nat.pow_lt_pow_right (by omega) (by omega)
      rw [e, Nat.testBit_two_pow_sub_succ hl, Nat.testBit_two_pow]
      simp
    rw [Nat.testBit_and, hm, testBit_W, testBit_W, upd]
    by_cases h1 : j < 64
    · by_cases h2 : i % 64 = j
      · have : 64 * k + j = i := by omega
        simp [h1, h2, this]
      · have : ¬ 64 * k + j = i := by omega
        simp [h1, h2, this]
    · simp [h1]
  · rename_i h
    rw [testBit_W, testBit_W, upd]
    by_cases h1 : j < 64
    · have : ¬ 64 * k + j = i := by omega
      simp [h1, this]
    · simp [h1]

/-- how many of the first n are in -/
def cnt (f : Nat → Bool) : Nat → Nat
  | 0 => 0
  | n + 1 => cnt f n + (f n).toNat
theorem cnt_add (f : Nat → Bool) (a n : Nat) : cnt f (a + n) = cnt f a + cnt (fun j => f (a + j)) n := by
  induction n with
  | zero => rfl
  | succ n ih =>
    show cnt f (a + n) + (f (a + n)).toNat = cnt f a + (cnt (fun j => f (a + j)) n + (f (a + n)).toNat)
    omega
theorem cnt_none (n : Nat) : cnt (fun _ => false) n = 0 := by
  induction n with
  | zero => rfl
  | succ n ih => simp [cnt, ih]
theorem cnt_congr {f g : Nat → Bool} {n : Nat} (h : ∀ j, j < n → f j = g j) : cnt f n = cnt g n := by
  induction n with
  | zero => rfl
  | succ n ih => simp only [cnt]; rw [ih (fun j hj => h j (by omega)), h n (by omega)]
theorem cnt_le (f : Nat → Bool) (n : Nat) : cnt f n ≤ n := by
  induction n with
  | zero => simp [cnt]
  | succ n ih => simp only [cnt]; have := Bool.toNat_le (f n); omega
/-- how many bits a number has, of its first n -/
def pop (x n : Nat) : Nat := cnt x.testBit n
theorem pop_W (f : Nat → Bool) (k : Nat) : cnt f (64 * k + 64) = cnt f (64 * k) + pop (W f k) 64 := by
  rw [cnt_add]; unfold pop
  congr 1
  exact cnt_congr fun j hj => by rw [testBit_W]; simp [hj]

/-- the sum of bits, as math/bits reckons it: masks of n bytes -/
def mk (m : Nat) : Nat → Nat
  | 0 => 0
  | n + 1 => m + 256 * mk m n
def s1 (n x : Nat) : Nat := ((x / 2) &&& mk 0x55 n) + (x &&& mk 0x55 n)
def s2 (n x : Nat) : Nat := ((x / 4) &&& mk 0x33 n) + (x &&& mk 0x33 n)
def s3 (n x : Nat) : Nat := (x / 16 + x) &&& mk 0x0f n

theorem and_bytes (a b m n : Nat) (ha : a < 256) (hm : m < 256) : (a + 256 * b) &&& (m + 256 * n) = (a &&& m) + 256 * (b &&& n) := by
  apply Nat.eq_of_testBit_eq
  intro j
  have h1 : a &&& m < 2 ^ 8 := Nat.and_lt_two_pow _ hm
  have e (x y : Nat) : x + 256 * y = 2 ^ 8 * y + x := by omega
  rw [Nat.testBit_and, e, e, e, Nat.testBit_two_pow_mul_add _ ha, Nat.testBit_two_pow_mul_add _ hm, Nat.testBit_two_pow_mul_add _ h1]
  split <;> simp [Nat.testBit_and]

def t1 (a : Nat) : Nat := ((a / 2) &&& 0x55) + (a &&& 0x55)
def t2 (a : Nat) : Nat := ((a / 4) &&& 0x33) + (a &&& 0x33)
def t3 (a : Nat) : Nat := (a / 16 + a) &&& 0x0f
theorem t1_top : ∀ a, a < 256 → ∀ c, c < 2 → ((a / 2 + 128 * c) &&& 0x55) = ((a / 2) &&& 0x55) ∧ t1 a < 256 := by decide +kernel
theorem t2_top : ∀ a, a < 256 → ∀ c, c < 4 → ((a / 4 + 64 * c) &&& 0x33) = ((a / 4) &&& 0x33) ∧ t2 (t1 a) < 69 ∧ t2 (t1 a) % 16 ≤ 4 := by decide +kernel
theorem t3_top : ∀ a, a < 69 → ∀ c, c < 5 → ((a / 16 + a + 16 * c) &&& 0x0f) = ((a / 16 + a) &&& 0x0f) := by decide +kernel
theorem t_pop : ∀ a, a < 256 → t3 (t2 (t1 a)) = pop a 8 := by decide +kernel

theorem s1_step (n a b : Nat) (ha : a < 256) : s1 (n + 1) (a + 256 * b) = t1 a + 256 * s1 n b := by
  unfold s1
  rw [show mk 0x55 (n + 1) = 0x55 + 256 * mk 0x55 n from rfl]
  have e : (a + 256 * b) / 2 = (a / 2 + 128 * (b % 2)) + 256 * (b / 2) := by omega
  rw [e, and_bytes _ _ _ _ (by omega) (by omega), and_bytes _ _ _ _ ha (by omega), (t1_top a ha (b % 2) (by omega)).1]
  unfold t1; omega
theorem s2_step (n a b : Nat) (ha : a < 256) : s2 (n + 1) (a + 256 * b) = t2 a + 256 * s2 n b := by
  unfold s2
  rw [show mk 0x33 (n + 1) = 0x33 + 256 * mk 0x33 n from rfl]
  have e : (a + 256 * b) / 4 = (a / 4 + 64 * (b % 4)) + 256 * (b / 4) := by omega
  rw [e, and_bytes _ _ _ _ (by omega) (by omega), and_bytes _ _ _ _ ha (by omega), (t2_top a ha (b % 4) (by omega)).1]
  unfold t2; omega
theorem s3_step (n a b : Nat) (ha : a < 69) (hb : b % 16 < 5) : s3 (n + 1) (a + 256 * b) = t3 a + 256 * s3 n b := by
  unfold s3
  rw [show mk 0x0f (n + 1) = 0x0f + 256 * mk 0x0f n from rfl]
  have e : (a + 256 * b) / 16 + (a + 256 * b) = (a / 16 + a + 16 * (b % 16)) + 256 * (b / 16 + b) := by omega
  rw [e, and_bytes _ _ _ _ (by omega) (by omega), t3_top a ha (b % 16) hb]
  rfl
theorem low_nibble (n x : Nat) : s2 n (s1 n x) % 16 < 5 := by
  cases n with
  | zero => simp [s2, mk]
  | succ n =>
    have hx : x = x % 256 + 256 * (x / 256) := by omega
    have h1 := (t1_top (x % 256) (by omega) 0 (by omega)).2
    have h2 := (t2_top (x % 256) (by omega) 0 (by omega)).2.2
    rw [hx, s1_step _ _ _ (by omega), s2_step _ _ _ h1]
    omega
theorem s_step (n a b : Nat) (ha : a < 256) : s3 (n + 1) (s2 (n + 1) (s1 (n + 1) (a + 256 * b))) = pop a 8 + 256 * s3 n (s2 n (s1 n b)) := by
  rw [s1_step _ _ _ ha, s2_step _ _ _ (t1_top a ha 0 (by omega)).2, s3_step _ _ _ (t2_top a ha 0 (by omega)).2.1 (low_nibble n b), t_pop a ha]
theorem pop_step (n a b : Nat) (ha : a < 256) : pop (a + 256 * b) (8 + n) = pop a 8 + pop b n := by
  unfold pop
  have e : a + 256 * b = 2 ^ 8 * b + a := by omega
  rw [cnt_add, e]
  congr 1
  · exact cnt_congr fun j hj => by rw [Nat.testBit_two_pow_mul_add _ ha, if_pos hj]
  · exact cnt_congr fun j hj => by rw [Nat.testBit_two_pow_mul_add _ ha, if_neg (by omega)]; congr 1; omega
theorem pop_le (x n : Nat) : pop x n ≤ n := cnt_le _ _

/-- the eight bytes' sums -/
theorem sum_bytes (x : Nat) : ∃ c0 c1 c2 c3 c4 c5 c6 c7 : Nat, c0 ≤ 8 ∧ c1 ≤ 8 ∧ c2 ≤ 8 ∧ c3 ≤ 8 ∧ c4 ≤ 8 ∧ c5 ≤ 8 ∧ c6 ≤ 8 ∧ c7 ≤ 8 ∧
    s3 8 (s2 8 (s1 8 x)) = c0 + 256 * (c1 + 256 * (c2 + 256 * (c3 + 256 * (c4 + 256 * (c5 + 256 * (c6 + 256 * c7)))))) ∧
    pop x 64 = c0 + (c1 + (c2 + (c3 + (c4 + (c5 + (c6 + c7)))))) := by
  have st : ∀ n y, s3 (n + 1) (s2 (n + 1) (s1 (n + 1) y)) = pop (y % 256) 8 + 256 * s3 n (s2 n (s1 n (y / 256))) ∧ pop y (8 + n * 8) = pop (y % 256) 8 + pop (y / 256) (n * 8) ∧ pop (y % 256) 8 ≤ 8 := by
    intro n y
    have hy : y = y % 256 + 256 * (y / 256) := by omega
    refine ⟨?_, ?_, pop_le _ _⟩
    · conv => lhs; rw [hy]
      exact s_step n _ _ (by omega)
    · conv => lhs; rw [hy]
      exact pop_step _ _ _ (by omega)
  obtain ⟨a0, p0, l0⟩ := st 7 x
  obtain ⟨a1, p1, l1⟩ := st 6 (x / 256)
  obtain ⟨a2, p2, l2⟩ := st 5 (x / 256 / 256)
  obtain ⟨a3, p3, l3⟩ := st 4 (x / 256 / 256 / 256)
  obtain ⟨a4, p4, l4⟩ := st 3 (x / 256 / 256 / 256 / 256)
  obtain ⟨a5, p5, l5⟩ := st 2 (x / 256 / 256 / 256 / 256 / 256)
  obtain ⟨a6, p6, l6⟩ := st 1 (x / 256 / 256 / 256 / 256 / 256 / 256)
  obtain ⟨a7, p7, l7⟩ := st 0 (x / 256 / 256 / 256 / 256 / 256 / 256 / 256)
  refine ⟨_, _, _, _, _, _, _, _, l0, l1, l2, l3, l4, l5, l6, l7, ?_, ?_⟩
  · rw [a0, a1, a2, a3, a4, a5, a6, a7]; simp [s3, mk]
  · rw [show (64 : Nat) = 8 + 7 * 8 from rfl, p0, show (7 * 8 : Nat) = 8 + 6 * 8 from rfl, p1, show (6 * 8 : Nat) = 8 + 5 * 8 from rfl, p2, show (5 * 8 : Nat) = 8 + 4 * 8 from rfl, p3,
      show (4 * 8 : Nat) = 8 + 3 * 8 from rfl, p4, show (3 * 8 : Nat) = 8 + 2 * 8 from rfl, p5, show (2 * 8 : Nat) = 8 + 1 * 8 from rfl, p6, show (1 * 8 : Nat) = 8 + 0 * 8 from rfl, p7]
    simp [pop, cnt]

theorem low_sum (a b R R' : Nat) (h : a + b ≤ 100) : (a + 256 * R + (b + 256 * R')) % 128 = a + b := by omega
theorem sum8 (y c0 c1 c2 c3 c4 c5 c6 c7 : Nat) (l0 : c0 ≤ 8) (_l1 : c1 ≤ 8) (_l2 : c2 ≤ 8) (_l3 : c3 ≤ 8) (_l4 : c4 ≤ 8) (_l5 : c5 ≤ 8) (_l6 : c6 ≤ 8) (_l7 : c7 ≤ 8)
    (hy : y = c0 + 256 * (c1 + 256 * (c2 + 256 * (c3 + 256 * (c4 + 256 * (c5 + 256 * (c6 + 256 * c7))))))) :
    y + y / 256 = (c0 + c1) + 256 * ((c1 + c2) + 256 * ((c2 + c3) + 256 * ((c3 + c4) + 256 * ((c4 + c5) + 256 * ((c5 + c6) + 256 * ((c6 + c7) + 256 * c7)))))) := by
  have : y / 256 = c1 + 256 * (c2 + 256 * (c3 + 256 * (c4 + 256 * (c5 + 256 * (c6 + 256 * c7))))) := by omega
  rw [this, hy]; omega
theorem sum16 (y d0 d1 d2 d3 d4 d5 d6 d7 : Nat) (l0 : d0 ≤ 16) (l1 : d1 ≤ 16)
    (hy : y = d0 + 256 * (d1 + 256 * (d2 + 256 * (d3 + 256 * (d4 + 256 * (d5 + 256 * (d6 + 256 * d7))))))) :
    y + y / 65536 = (d0 + d2) + 256 * ((d1 + d3) + 256 * ((d2 + d4) + 256 * ((d3 + d5) + 256 * ((d4 + d6) + 256 * ((d5 + d7) + 256 * (d6 + 256 * d7)))))) := by
  have : y / 65536 = d2 + 256 * (d3 + 256 * (d4 + 256 * (d5 + 256 * (d6 + 256 * d7)))) := by omega
  rw [this, hy]; omega
theorem sum32 (y e0 e1 e2 e3 R : Nat) (l0 : e0 ≤ 32) (l1 : e1 ≤ 32) (l2 : e2 ≤ 32) (l3 : e3 ≤ 32)
    (hy : y = e0 + 256 * (e1 + 256 * (e2 + 256 * (e3 + 256 * R)))) : y / 4294967296 = R := by omega
/-- the last steps: the bytes are summed in the lowest one -/
theorem swar (x : Nat) : let y := s3 8 (s2 8 (s1 8 x)); let y1 := y + y / 256; let y2 := y1 + y1 / 65536; let y3 := y2 + y2 / 4294967296;
    y1 < 18446744073709551616 ∧ y2 < 18446744073709551616 ∧ y3 < 9223372036854775808 ∧ y3 % 128 = pop x 64 := by
  obtain ⟨c0, c1, c2, c3, c4, c5, c6, c7, l0, l1, l2, l3, l4, l5, l6, l7, e, p⟩ := sum_bytes x
  intro y y1 y2 y3
  have hy : y = c0 + 256 * (c1 + 256 * (c2 + 256 * (c3 + 256 * (c4 + 256 * (c5 + 256 * (c6 + 256 * c7)))))) := e
  clear_value y
  rw [p]
  have h1 : y1 = _ := sum8 y c0 c1 c2 c3 c4 c5 c6 c7 l0 l1 l2 l3 l4 l5 l6 l7 hy
  clear_value y1
  have h2 : y2 = _ := sum16 y1 _ _ _ _ _ _ _ _ (by omega) (by omega) h1
  clear_value y2
  have h3 : y3 = y2 + y2 / 4294967296 := rfl
  clear_value y3
  have h4 := sum32 y2 _ _ _ _ _ (by omega) (by omega) (by omega) (by omega) h2
  have b1 : y1 < 18446744073709551616 := by rw [h1]; clear h1 h2 h3 h4 hy e p; omega
  have b2 : y2 < 4611686018427387904 := by rw [h2]; clear h1 h2 h3 h4 hy e p b1; omega
  have b3 : y3 < 9223372036854775808 := by rw [h3]; clear h1 h2 h3 h4 hy e p b1; omega
  refine ⟨b1, Nat.lt_trans b2 (by omega), b3, ?_⟩
  rw [h3, h4, h2, low_sum _ _ _ _ (by clear h1 h2 h3 h4 hy e p b1 b2 b3; omega)]
  clear h1 h2 h3 h4 hy e p b1 b2 b3
  omega
theorem masks : mk 0x55 8 = 6148914691236517205 ∧ mk 0x33 8 = 3689348814741910323 ∧ mk 0x0f 8 = 1085102592571150095 := by decide
end Go.Proofs.YtdbfmckikmddcaaDoor.Plain
