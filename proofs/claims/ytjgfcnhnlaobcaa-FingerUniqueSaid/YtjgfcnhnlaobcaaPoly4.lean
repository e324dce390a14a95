/- What the loops of the program compute: a shift by a polynomial, products from either end, bits of numbers. -/
import Derived.Test.YtjgfcnhnlaobcaaPoly3
namespace Gf2

theorem testBit_top {a k : Nat} (h : len a = k + 1) : a.testBit k = true := by
  have h0 : a ≠ 0 := fun e => by rw [e, len_zero] at h; omega
  have l1 := two_pow_len_le h0
  have l2 := lt_two_pow_len a
  rw [h] at l1 l2
  rw [Nat.testBit_eq_decide_div_mod_eq]
  have : a / 2 ^ k = 1 := by
    rw [Nat.div_eq_iff (Nat.two_pow_pos _)]
    constructor
    · simpa using l1
    · rw [Nat.pow_succ] at l2; omega
  simp [this]
theorem testBit_above {a k : Nat} (h : len a ≤ k) : a.testBit k = false := Nat.testBit_lt_two_pow (len_le_iff.1 h)
theorem div_mod_testBit (a k : Nat) : (a / 2 ^ k % 2 = 1) ↔ a.testBit k = true := by
  rw [Nat.testBit_eq_decide_div_mod_eq]; simp

/-- A remainder times x: 'd' is the degree of p. -/
theorem shift_mod {p a d : Nat} (hp : len p = d + 1) (ha : len a ≤ d) : pmod (2 * a) p = if (2 * a) / 2 ^ d % 2 = 1 then (2 * a) ^^^ p else 2 * a := by
  have hp0 : p ≠ 0 := fun e => by rw [e, len_zero] at hp; omega
  by_cases h0 : a = 0
  · subst h0; simp [zero_mod]
  have hl := len_two_mul h0
  by_cases hc : len a = d
  · have : len (2 * a) = d + 1 := by omega
    rw [if_pos ((div_mod_testBit _ _).2 (testBit_top this))]
    have hne : 2 * a ≠ 0 := by omega
    refine mod_unique (q := 1) hp0 ?_ (by rw [one_mul, Nat.xor_comm (2 * a) p, xor_cancel_left])
    have := len_xor_same (a := 2 * a) (b := p) (by omega) hne
    omega
  · have : len (2 * a) ≤ d := by omega
    rw [if_neg (fun h => by have := (div_mod_testBit _ _).1 h; rw [testBit_above ‹_›] at this; exact absurd this (by decide))]
    exact mod_of_lt (by omega)
/-- The same, asked ahead of the shift. -/
theorem shift_mod' {p a d : Nat} (hp : len p = d + 2) (ha : len a ≤ d + 1) : pmod (2 * a) p = if a / 2 ^ d % 2 = 1 then (2 * a) ^^^ p else 2 * a := by
  rw [shift_mod hp ha]
  have : 2 * a / 2 ^ (d + 1) = a / 2 ^ d := by rw [Nat.pow_succ', Nat.mul_div_mul_left _ _ (by decide)]
  rw [this]
theorem mm_two {p : Nat} (hp : p ≠ 0) (a b : Nat) : mm p (pmod (2 * a) p) b = mm p a (2 * b) := by
  rw [mm_mod_left hp, mm, mm, two_mul_mul, mul_even]
theorem mm_bit {p : Nat} (hp : p ≠ 0) (a b : Nat) (ha : len a < len p) : mm p a b = (if b % 2 = 1 then a else 0) ^^^ mm p (pmod (2 * a) p) (b / 2) := by
  rw [mm_two hp]
  rcases Nat.mod_two_eq_zero_or_one b with h | h
  · rw [if_neg (by omega), Nat.zero_xor, show 2 * (b / 2) = b by omega]
  · rw [if_pos h]
    conv => lhs; rw [show b = 2 * (b / 2) + 1 by omega, bit_one, mm_xor hp, mm_one ha, Nat.xor_comm]
/-- One more bit of the second factor, from the top. -/
theorem mm_horner {p : Nat} (hp : p ≠ 0) (a b i : Nat) (ha : len a < len p) : mm p a (b / 2 ^ i) = pmod (2 * mm p a (b / 2 ^ (i + 1))) p ^^^ (if b / 2 ^ i % 2 = 1 then a else 0) := by
  have e : b / 2 ^ (i + 1) = b / 2 ^ i / 2 := by rw [Nat.pow_succ, Nat.div_div_eq_div_mul]
  rw [e]
  generalize b / 2 ^ i = c
  have h1 : pmod (2 * mm p a (c / 2)) p = mm p a (2 * (c / 2)) := by
    have h := mul_mod_right 2 (mul a (c / 2)) hp
    rw [mm, mm, mul_even]
    have t2 : ∀ x, mul 2 x = 2 * x := fun x => by rw [mul_comm]; have := mul_two_pow x 1; simpa using this
    rw [t2, t2] at h
    exact h
  rw [h1]
  rcases Nat.mod_two_eq_zero_or_one c with h | h
  · rw [if_neg (by omega), Nat.xor_zero, show 2 * (c / 2) = c by omega]
  · rw [if_pos h]
    conv => lhs; rw [show c = 2 * (c / 2) + 1 by omega, bit_one, mm_xor hp, mm_one ha]

/-- One round of the division. -/
theorem divmodK_step {k b q a : Nat} (h : len b ≤ len a) : divmodK (k + 1) b q a = divmodK k b (q ^^^ 2 ^ (len a - len b)) (a ^^^ 2 ^ (len a - len b) * b) := by
  rw [divmodK, if_pos h]
theorem divmodK_stop {k b q a : Nat} (h : len a < len b) : divmodK k b q a = (q, a) := by
  cases k with
  | zero => rfl
  | succ k => rw [divmodK, if_neg (by omega)]
theorem div_step_lt {b a : Nat} (hb : b ≠ 0) (h : len b ≤ len a) : len (a ^^^ 2 ^ (len a - len b) * b) < len a := by
  have ha : a ≠ 0 := fun e => by rw [e, len_zero] at h; have := len_pos hb; omega
  exact len_xor_same (by rw [len_two_pow_mul hb]; omega) ha
/-- The quotient's new bit lies below its old ones. -/
theorem or_eq_xor_of_testBit {a b : Nat} (h : ∀ i, (a.testBit i && b.testBit i) = false) : a ||| b = a ^^^ b := by
  apply Nat.eq_of_testBit_eq
  intro i
  have := h i
  rw [Nat.testBit_or, Nat.testBit_xor]
  cases ha : a.testBit i <;> cases hb : b.testBit i <;> simp [ha, hb] at this ⊢
theorem or_two_pow {q k : Nat} (h : q % 2 ^ (k + 1) = 0) : q ||| 2 ^ k = q ^^^ 2 ^ k := by
  apply or_eq_xor_of_testBit
  intro i
  by_cases hi : i = k
  · subst hi
    have : q.testBit i = false := by
      have h1 := Nat.testBit_mod_two_pow q (i + 1) i
      rw [h] at h1
      simpa using h1.symm
    simp [this]
  · have : (2 ^ k).testBit i = false := by rw [Nat.testBit_two_pow]; simp; omega
    simp [this]
theorem xor_two_pow_mod {q k j : Nat} (h : q % 2 ^ (k + 1) = 0) (hj : j ≤ k) : (q ^^^ 2 ^ k) % 2 ^ j = 0 := by
  have h1 : q % 2 ^ j = 0 := by
    have : 2 ^ j ∣ 2 ^ (k + 1) := Nat.pow_dvd_pow 2 (by omega)
    exact Nat.mod_eq_zero_of_dvd (Nat.dvd_trans this (Nat.dvd_of_mod_eq_zero h))
  have h2 : 2 ^ k % 2 ^ j = 0 := Nat.mod_eq_zero_of_dvd (Nat.pow_dvd_pow 2 hj)
  rw [Nat.xor_mod_two_pow, h1, h2]; rfl

theorem divmodK_enough {b : Nat} (hb : b ≠ 0) (k : Nat) : ∀ q a m, len a ≤ k → len a ≤ m → divmodK k b q a = divmodK m b q a := by
  induction k with
  | zero =>
    intro q a m h h'
    have h0 := len_pos hb
    rw [divmodK_stop (by omega), divmodK_stop (by omega)]
  | succ k ih =>
    intro q a m h h'
    by_cases hle : len b ≤ len a
    · have h0 := len_pos hb
      obtain ⟨m, rfl⟩ : ∃ j, m = j + 1 := ⟨m - 1, by omega⟩
      have := div_step_lt hb hle
      rw [divmodK_step hle, divmodK_step hle]
      exact ih _ _ _ (by omega) (by omega)
    · rw [divmodK_stop (by omega), divmodK_stop (by omega)]
/-- What a division has still to do. -/
def dm (b q a : Nat) : Nat × Nat := divmodK (len a) b q a
theorem dm_step {b q a : Nat} (hb : b ≠ 0) (h : len b ≤ len a) : dm b (q ^^^ 2 ^ (len a - len b)) (a ^^^ 2 ^ (len a - len b) * b) = dm b q a := by
  have h0 := len_pos hb
  have hl := div_step_lt hb h
  have e : dm b q a = divmodK (len a - 1 + 1) b q a := by unfold dm; rw [show len a - 1 + 1 = len a by omega]
  rw [e, divmodK_step h]
  exact divmodK_enough hb _ _ _ _ (Nat.le_refl _) (by omega)
theorem dm_stop {b q a : Nat} (h : len a < len b) : dm b q a = (q, a) := divmodK_stop h
theorem dm_zero (a b : Nat) : dm b 0 a = (pdiv a b, pmod a b) := rfl

end Gf2
