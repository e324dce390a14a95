/- Fingerprints: a byte behind a text, by bits and by a table; texts. -/
import Derived.Test.YtjgfcnhnlaobcaaPoly4
namespace Gf2

theorem add_eq_xor {k a b : Nat} (h : b < 2 ^ k) : 2 ^ k * a + b = (2 ^ k * a) ^^^ b := by
  rw [Nat.two_pow_add_eq_or_of_lt h]
  apply or_eq_xor_of_testBit
  intro i
  by_cases hi : i < k
  · rw [Nat.testBit_two_pow_mul]; simp; omega
  · have : b.testBit i = false := Nat.testBit_lt_two_pow (Nat.lt_of_lt_of_le h (Nat.pow_le_pow_right (by decide) (by omega)))
    simp [this]
theorem add_bit {a c : Nat} (h : c ≤ 1) : 2 * a + c = (2 * a) ^^^ c := by
  have := add_eq_xor (k := 1) (a := a) (b := c) (by omega); simpa using this
theorem or_bit {a c : Nat} (h : c ≤ 1) : (2 * a) ||| c = 2 * a + c := by
  have := Nat.two_pow_add_eq_or_of_lt (i := 1) (b := c) (by omega) a; simpa using this.symm
theorem mod_two_mul {p : Nat} (hp : p ≠ 0) (a : Nat) : pmod (2 * pmod a p) p = pmod (2 * a) p := by
  have t2 : ∀ x, mul 2 x = 2 * x := fun x => by rw [mul_comm]; have := mul_two_pow x 1; simpa using this
  rw [← t2, ← t2]; exact mul_mod_right 2 a hp
theorem mod_pow_mul {p : Nat} (hp : p ≠ 0) (k a : Nat) : pmod (2 ^ k * pmod a p) p = pmod (2 ^ k * a) p := by
  rw [← mul_two_pow, ← mul_two_pow]; exact mul_mod_left a (2 ^ k) hp

theorem bit_mod {p g d c : Nat} (hp : len p = d + 1) (hg : len g ≤ d) (hc : c ≤ 1) (hd : 1 ≤ d) :
    pmod (2 * g + c) p = if (2 * g + c) / 2 ^ d % 2 = 1 then (2 * g + c) ^^^ p else 2 * g + c := by
  have hp0 : p ≠ 0 := fun e => by rw [e, len_zero] at hp; omega
  have e : (2 * g + c) / 2 ^ d = 2 * g / 2 ^ d := by
    obtain ⟨k, rfl⟩ : ∃ k, d = k + 1 := ⟨d - 1, by omega⟩
    rw [Nat.pow_succ', ← Nat.div_div_eq_div_mul, ← Nat.div_div_eq_div_mul]
    congr 1; omega
  have hcl : len c < len p := by
    have : len c ≤ 1 := len_le_iff.2 (by omega)
    omega
  rw [e, add_bit hc, mod_xor _ _ hp0, shift_mod hp hg, mod_of_lt hcl]
  split
  · rw [Nat.xor_assoc, Nat.xor_comm p c, ← Nat.xor_assoc]
  · rfl

/-- A byte behind a text. -/
def onByte (p f b : Nat) : Nat := pmod (2 ^ 8 * f + b) p
/-- Bytes behind a text. -/
def onBytes (p f : Nat) (l : List Nat) : Nat := l.foldl (onByte p) f

theorem bit_step {p f b j : Nat} (hp : p ≠ 0) (hj : j < 8) :
    pmod (2 * pmod (2 ^ (8 - (j + 1)) * f + b / 2 ^ (j + 1)) p + b / 2 ^ j % 2) p = pmod (2 ^ (8 - j) * f + b / 2 ^ j) p := by
  have hc : b / 2 ^ j % 2 ≤ 1 := by omega
  rw [add_bit hc, mod_xor _ _ hp, mod_two_mul hp, ← mod_xor _ _ hp, ← add_bit hc]
  congr 1
  have e1 : b / 2 ^ (j + 1) = b / 2 ^ j / 2 := by rw [Nat.pow_succ, Nat.div_div_eq_div_mul]
  have e2 : 2 ^ (8 - j) = 2 * 2 ^ (8 - (j + 1)) := by rw [← Nat.pow_succ']; congr 1; omega
  rw [e1, e2, Nat.mul_assoc]
  generalize 2 ^ (8 - (j + 1)) * f = t
  omega
theorem onByte_lt {p : Nat} (hp : p ≠ 0) (f b : Nat) : len (onByte p f b) < len p := len_mod_lt _ hp
theorem onBytes_lt {p : Nat} (hp : p ≠ 0) (l : List Nat) : ∀ f, len f < len p → len (onBytes p f l) < len p := by
  induction l with
  | nil => intro f h; exact h
  | cons b l ih => intro f _; exact ih _ (onByte_lt hp f b)
theorem onBytes_append (p f : Nat) (l m : List Nat) : onBytes p f (l ++ m) = onBytes p (onBytes p f l) m := List.foldl_append ..
theorem onBytes_snoc (p f : Nat) (l : List Nat) (b : Nat) : onBytes p f (l ++ [b]) = onByte p (onBytes p f l) b := by rw [onBytes_append]; rfl

theorem powm_x {p : Nat} (h2 : 2 ≤ len p) (n : Nat) : powm p (xr p) n = pmod (2 ^ n) p := by
  have hp : p ≠ 0 := fun e => by rw [e, len_zero] at h2; omega
  induction n with
  | zero => rw [powm, Nat.pow_zero, mod_of_lt (by rw [len_one]; omega)]
  | succ n ih =>
    rw [powm, ih, mm, xr, mul_mod _ _ hp, mul_two_pow, Nat.pow_succ]
/-- The step by the table. -/
theorem table_step {p f b s : Nat} (hp : len p = s + 9) (hb : b < 256) :
    onByte p f b = (2 ^ 8 * (f % 2 ^ s) + b) ^^^ mm p (pmod (f / 2 ^ s) p) (powm p (xr p) (s + 8)) := by
  have hp0 : p ≠ 0 := fun e => by rw [e, len_zero] at hp; omega
  have hlow : 2 ^ 8 * (f % 2 ^ s) + b < 2 ^ (s + 8) := by
    have h1 : f % 2 ^ s < 2 ^ s := Nat.mod_lt _ (Nat.two_pow_pos s)
    rw [Nat.pow_add]
    generalize 2 ^ s = t at *
    omega
  have e : 2 ^ 8 * f + b = 2 ^ (s + 8) * (f / 2 ^ s) + (2 ^ 8 * (f % 2 ^ s) + b) := by
    have := Nat.div_add_mod f (2 ^ s)
    conv => lhs; rw [← this]
    rw [Nat.pow_add, Nat.mul_add, ← Nat.mul_assoc, Nat.mul_comm (2 ^ 8) (2 ^ s)]
    omega
  rw [onByte, e, add_eq_xor hlow, mod_xor _ _ hp0, mod_of_lt (a := 2 ^ 8 * (f % 2 ^ s) + b) (by have := len_le_iff.2 hlow; omega), Nat.xor_comm]
  congr 1
  rw [powm_x (by omega), mm_mod_right hp0, mm_mod_left hp0, mm, mul_two_pow]

end Gf2
