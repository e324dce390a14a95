/- Squares of polynomials, and the derivative. Polynomials that are their own square as a remainder: what one of them does; when there is one. Products of lists. -/
import Derived.Test.YtjgfcnhnlaobcaaPoly5
namespace Gf2

def sq (a : Nat) : Nat := mul a a
theorem sq_xor (a b : Nat) : sq (a ^^^ b) = sq a ^^^ sq b := by
  unfold sq
  rw [mul_xor, xor_mul, xor_mul, mul_comm b a, xor4, Nat.xor_comm (mul a b) (mul b b), xor4]
  simp [Nat.xor_self]
theorem sq_two (a : Nat) : sq (2 * a) = 4 * sq a := by
  unfold sq
  rw [two_mul_mul, mul_even, ← Nat.mul_assoc]
theorem sq_one : sq 1 = 1 := mul_one 1
theorem sq_zero : sq 0 = 0 := mul_zero 0
theorem sq_bit (a b : Nat) (hb : b ≤ 1) : sq (2 * a + b) = 4 * sq a + b := by
  rw [add_bit hb, sq_xor, sq_two, show 4 * sq a = 2 * (2 * sq a) by omega, add_bit hb]
  have : b = 0 ∨ b = 1 := by omega
  rcases this with rfl | rfl
  · rw [sq_zero]
  · rw [sq_one]
theorem sq_mul (a b : Nat) : sq (mul a b) = mul (sq a) (sq b) := by
  unfold sq
  rw [mul_assoc, mul_assoc, ← mul_assoc b a b, mul_comm b a, mul_assoc a b b]

theorem quad_induction {P : Nat → Prop} (h0 : P 0) (hs : ∀ h a b, a ≤ 1 → b ≤ 1 → P h → P (4 * h + 2 * b + a)) (n : Nat) : P n := by
  induction n using Nat.strongRecOn with
  | ind n ih =>
    by_cases hn : n = 0
    · rw [hn]; exact h0
    · have := hs (n / 4) (n % 2) (n / 2 % 2) (by omega) (by omega) (ih _ (by omega))
      rwa [show 4 * (n / 4) + 2 * (n / 2 % 2) + n % 2 = n by omega] at this

def evens (h : Nat) : Nat := if h = 0 then 0 else 2 * evens (h / 4) + h % 2
def odds (h : Nat) : Nat := if h = 0 then 0 else 2 * odds (h / 4) + h / 2 % 2
/-- The derivative. -/
def der (h : Nat) : Nat := if h = 0 then 0 else 4 * der (h / 4) + h / 2 % 2

theorem evens_step (h a b : Nat) (ha : a ≤ 1) (hb : b ≤ 1) : evens (4 * h + 2 * b + a) = 2 * evens h + a := by
  rw [evens]
  split
  · next hz =>
    obtain rfl : h = 0 := by omega
    obtain rfl : a = 0 := by omega
    rw [evens]; simp
  · rw [show (4 * h + 2 * b + a) / 4 = h by omega, show (4 * h + 2 * b + a) % 2 = a by omega]
theorem odds_step (h a b : Nat) (ha : a ≤ 1) (hb : b ≤ 1) : odds (4 * h + 2 * b + a) = 2 * odds h + b := by
  rw [odds]
  split
  · next hz =>
    obtain rfl : h = 0 := by omega
    obtain rfl : b = 0 := by omega
    rw [odds]; simp
  · rw [show (4 * h + 2 * b + a) / 4 = h by omega, show (4 * h + 2 * b + a) / 2 % 2 = b by omega]
theorem der_step (h a b : Nat) (ha : a ≤ 1) (hb : b ≤ 1) : der (4 * h + 2 * b + a) = 4 * der h + b := by
  rw [der]
  split
  · next hz =>
    obtain rfl : h = 0 := by omega
    obtain rfl : b = 0 := by omega
    rw [der]; simp
  · rw [show (4 * h + 2 * b + a) / 4 = h by omega, show (4 * h + 2 * b + a) / 2 % 2 = b by omega]

theorem quad_xor (h k a b : Nat) (ha : a ≤ 1) (hb : b ≤ 1) : (4 * h + a) ^^^ 2 * (4 * k + b) = 4 * (h ^^^ 2 * k) + 2 * b + a := by
  rw [show 4 * h + a = 2 * (2 * h) + a by omega, add_bit ha, show 4 * k + b = 2 * (2 * k) + b by omega, add_bit hb, show 4 * (h ^^^ 2 * k) + 2 * b + a = 2 * (2 * (h ^^^ 2 * k) + b) + a by omega,
    add_bit ha, add_bit hb, two_mul_xor, two_mul_xor, two_mul_xor, two_mul_xor]
  ac_rfl

/-- A polynomial is the sum of a square and of x times a square. -/
theorem eo_sum (h : Nat) : sq (evens h) ^^^ 2 * sq (odds h) = h := by
  induction h using quad_induction with
  | h0 => rw [evens, odds]; simp [sq_zero]
  | hs h a b ha hb ih => rw [evens_step _ _ _ ha hb, odds_step _ _ _ ha hb, sq_bit _ _ ha, sq_bit _ _ hb, quad_xor _ _ _ _ ha hb, ih]
theorem der_eq (h : Nat) : der h = sq (odds h) := by
  induction h using quad_induction with
  | h0 => rw [der, odds]; simp [sq_zero]
  | hs h a b ha hb ih => rw [der_step _ _ _ ha hb, odds_step _ _ _ ha hb, sq_bit _ _ hb, ih]
theorem der_sum (A : Nat) : ∀ B, der (sq A ^^^ 2 * sq B) = sq B := by
  induction A using Nat.strongRecOn with
  | ind A ih =>
    intro B
    induction B using Nat.strongRecOn generalizing A with
    | ind B ih2 =>
      by_cases h0 : A = 0 ∧ B = 0
      · obtain ⟨rfl, rfl⟩ := h0
        rw [sq_zero, der]; simp
      · have e1 : sq A = 4 * sq (A / 2) + A % 2 := by rw [← sq_bit _ _ (by omega), show 2 * (A / 2) + A % 2 = A by omega]
        have e2 : sq B = 4 * sq (B / 2) + B % 2 := by rw [← sq_bit _ _ (by omega), show 2 * (B / 2) + B % 2 = B by omega]
        have hr : der (sq (A / 2) ^^^ 2 * sq (B / 2)) = sq (B / 2) := by
          by_cases hA : A = 0
          · subst hA
            exact ih2 (B / 2) (by omega) 0 ih
          · exact ih (A / 2) (by omega) (B / 2)
        rw [e1, e2, quad_xor _ _ _ _ (by omega) (by omega), der_step _ _ _ (by omega) (by omega), hr]
/-- What divides twice divides the derivative. -/
theorem dvd_der {g q : Nat} (h : Dvd (sq g) q) : Dvd g (der q) := by
  obtain ⟨c, rfl⟩ := h
  have e : mul c (sq g) = sq (mul (evens c) g) ^^^ 2 * sq (mul (odds c) g) := by
    conv => lhs; rw [← eo_sum c]
    rw [xor_mul, two_mul_mul, sq_mul, sq_mul]
  rw [e, der_sum]
  exact ⟨mul (mul (odds c) g) (odds c), by rw [sq, mul_assoc (mul (odds c) g)]⟩
theorem der_zero {q : Nat} (h : der q = 0) : q = sq (evens q) := by
  rw [der_eq] at h
  have := eo_sum q
  rw [h] at this
  simpa using this.symm
theorem der_lt {q : Nat} (hq : q ≠ 0) : der q < q := by
  induction q using quad_induction with
  | h0 => exact absurd rfl hq
  | hs h a b ha hb ih =>
    rw [der_step _ _ _ ha hb]
    by_cases h0 : h = 0
    · subst h0
      rw [der]; simp; omega
    · have := ih h0; omega

def msk : Nat → Nat
  | 0 => 0
  | k + 1 => 4 * msk k + 2
theorem and_msk (k : Nat) : ∀ h, h < 4 ^ k → (h &&& msk k) / 2 = der h := by
  induction k with
  | zero =>
    intro h hh
    obtain rfl : h = 0 := by simpa using hh
    rw [der]; simp
  | succ k ih =>
    intro h hh
    have e : h &&& msk (k + 1) = 4 * (h / 4 &&& msk k) + 2 * (h / 2 % 2) := by
      have h1 : (h &&& msk (k + 1)) / 4 = h / 4 &&& msk k := by
        rw [show (4 : Nat) = 2 ^ 2 by rfl, Nat.and_div_two_pow]
        congr 1
        rw [msk]; omega
      have h2 : (h &&& msk (k + 1)) % 4 = 2 * (h / 2 % 2) := by
        rw [show (4 : Nat) = 2 ^ 2 by rfl, Nat.and_mod_two_pow, show msk (k + 1) % 2 ^ 2 = 2 by rw [msk]; omega, show (2 : Nat) ^ 2 = 4 by rfl]
        have : h % 4 = 0 ∨ h % 4 = 1 ∨ h % 4 = 2 ∨ h % 4 = 3 := by omega
        rcases this with h4 | h4 | h4 | h4 <;> rw [h4] <;> simp <;> omega
      omega
    have h4 : h = 4 * (h / 4) + 2 * (h / 2 % 2) + h % 2 := by omega
    have hi := ih (h / 4) (by rw [Nat.pow_succ] at hh; omega)
    conv => rhs; rw [h4]
    rw [der_step _ _ _ (by omega) (by omega), ← hi, e]
    have : (h / 4 &&& msk k) % 2 = 0 := by
      have : msk k % 2 = 0 := by cases k <;> simp [msk]; omega
      rw [show (2 : Nat) = 2 ^ 1 by rfl, Nat.and_mod_two_pow, show msk k % 2 ^ 1 = 0 from this, Nat.and_zero]
    omega

theorem sq_testBit (A : Nat) : ∀ k, (sq A).testBit (2 * k) = A.testBit k := by
  induction A using bits_induction with
  | h0 => intro k; rw [sq_zero]; simp
  | he a ih =>
    intro k
    rw [sq_two, show 4 * sq a = 2 * (2 * sq a) by omega]
    cases k with
    | zero => simp
    | succ k => rw [show 2 * (k + 1) = (2 * k + 1) + 1 by omega, Nat.testBit_succ, Nat.testBit_succ, Nat.testBit_succ, show 2 * (2 * sq a) / 2 / 2 = sq a by omega, show 2 * a / 2 = a by omega, ih]
  | ho a ih =>
    intro k
    rw [sq_bit _ _ (Nat.le_refl _), show 4 * sq a = 2 * (2 * sq a) by omega]
    cases k with
    | zero => simp
    | succ k => rw [show 2 * (k + 1) = (2 * k + 1) + 1 by omega, Nat.testBit_succ, Nat.testBit_succ, Nat.testBit_succ, show (2 * (2 * sq a) + 1) / 2 / 2 = sq a by omega, show (2 * a + 1) / 2 = a by omega, ih]
theorem sq_lt {A k : Nat} (h : sq A < 2 ^ (2 * k)) : A < 2 ^ k := by
  by_cases h0 : A = 0
  · rw [h0]; exact Nat.two_pow_pos k
  · rw [← len_le_iff] at h ⊢
    rw [sq, len_mul h0 h0] at h
    omega
theorem le_sq (A : Nat) : A ≤ sq A := by
  induction A using bits_induction with
  | h0 => exact Nat.zero_le _
  | he a ih => rw [sq_two]; omega
  | ho a ih => rw [sq_bit _ _ (Nat.le_refl _)]; omega
end Gf2
namespace Gf2

/-- c * c + c, as a remainder by p. -/
def sqx (p c : Nat) : Nat := mm p c c ^^^ c
theorem sqx_xor {p : Nat} (hp : p ≠ 0) (a b : Nat) : sqx p (a ^^^ b) = sqx p a ^^^ sqx p b := by
  unfold sqx
  rw [mm_sq_xor hp, xor4]
theorem sqx_lt {p a : Nat} (hp : p ≠ 0) (ha : len a < len p) : len (sqx p a) < len p :=
  Nat.lt_of_le_of_lt (len_xor_le (k := len p - 1) (by have := mm_lt hp a a; omega) (by omega)) (by have := len_pos hp; omega)
theorem sqx_one {p : Nat} (h : 2 ≤ len p) : sqx p 1 = 0 := by
  unfold sqx
  rw [mm_one (by rw [len_one]; omega), Nat.xor_self]
theorem sqx_zero (p : Nat) : sqx p 0 = 0 := by
  unfold sqx
  rw [mm_zero]; rfl
theorem sqx_dvd {p v : Nat} (hp : p ≠ 0) (h : sqx p v = 0) (hv : len v < len p) : Dvd p (mul v (v ^^^ 1)) := by
  have h1 : mm p v v = v := xor_eq_zero h
  rw [dvd_iff_mod hp, mul_xor, mul_one, mod_xor _ _ hp, mod_of_lt hv]
  show mm p v v ^^^ v = 0
  rw [h1, Nat.xor_self]
theorem sqx_of_dvd {p v : Nat} (hp : p ≠ 0) (h : Dvd p (mul v (v ^^^ 1))) (hv : len v < len p) : sqx p v = 0 := by
  rw [dvd_iff_mod hp, mul_xor, mul_one, mod_xor _ _ hp, mod_of_lt hv] at h
  exact h

/-- Such a polynomial parts p. -/
theorem sqx_parts {p v : Nat} (hp : p ≠ 0) (h : sqx p v = 0) (hv : len v < len p) (h0 : v ≠ 0) (h1 : v ≠ 1) : gcd p v ≠ 1 ∧ gcd p v ≠ p := by
  constructor
  · intro e
    have h2 := coprime_dvd e (sqx_dvd hp h hv)
    have h3 : v ^^^ 1 ≠ 0 := fun e => h1 (xor_eq_zero e)
    have h4 := len_le_of_dvd h2 h3
    have h5 : len (v ^^^ 1) ≤ len v := len_xor_le (Nat.le_refl _) (by rw [len_one]; exact len_pos h0)
    omega
  · intro e
    have h2 := gcd_dvd_right p v
    rw [e] at h2
    have := len_le_of_dvd h2 h0
    omega
/-- If p is a product of two that have nothing in common, there is such a polynomial. -/
theorem sqx_exists {p a b : Nat} (hp : p ≠ 0) (he : p = mul a b) (hg : gcd a b = 1) (ha : a ≠ 1) (hb : b ≠ 1) : ∃ v, sqx p v = 0 ∧ len v < len p ∧ v ≠ 0 ∧ v ≠ 1 := by
  obtain ⟨x, y, hxy⟩ := gcd_bezout a b
  rw [hg] at hxy
  have hv : ∀ d, Dvd d p → d ≠ 0 → pmod (pmod (mul x a) p) d = pmod (mul x a) d := fun d hd hd0 => by
    have h1 : Dvd d (pmod (mul x a) p ^^^ mul x a) := by
      have h2 := div_add_mod (mul x a) hp
      have h3 : pmod (mul x a) p ^^^ mul x a = mul (pdiv (mul x a) p) p := by
        conv => lhs; rhs; rw [← h2]
        rw [Nat.xor_comm (mul _ _), xor_cancel_left]
      rw [h3]
      exact dvd_mul_of_dvd hd _
    rw [dvd_iff_mod hd0, mod_xor _ _ hd0] at h1
    exact xor_eq_zero h1
  have ha0 : a ≠ 0 := fun e => hp (by rw [he, e, zero_mul])
  have hb0 : b ≠ 0 := fun e => hp (by rw [he, e, mul_zero])
  have hda : Dvd a p := ⟨b, by rw [he, mul_comm]⟩
  have hdb : Dvd b p := ⟨a, he⟩
  have ea : pmod (pmod (mul x a) p) a = 0 := by rw [hv a hda ha0, mul_mod_self _ ha0]
  have eb : pmod (pmod (mul x a) p ^^^ 1) b = 0 := by
    rw [mod_xor _ _ hb0, hv b hdb hb0, ← mod_xor _ _ hb0]
    have : mul x a ^^^ 1 = mul y b := by rw [hxy, xor_cancel_left]
    rw [this, mul_mod_self _ hb0]
  have hlt : len (pmod (mul x a) p) < len p := len_mod_lt _ hp
  generalize pmod (mul x a) p = v at *
  refine ⟨v, ?_, hlt, ?_, ?_⟩
  · refine sqx_of_dvd hp ?_ hlt
    rw [he]
    refine coprime_mul_dvd hg ?_ ?_
    · have := (dvd_iff_mod ha0).2 ea
      obtain ⟨c, rfl⟩ := this
      exact ⟨mul (mul c a ^^^ 1) c, by rw [mul_comm (mul c a), mul_assoc]⟩
    · exact dvd_mul_of_dvd ((dvd_iff_mod hb0).2 eb) _
  · rintro rfl
    rw [Nat.zero_xor] at eb
    exact hb (dvd_one ((dvd_iff_mod hb0).2 eb))
  · rintro rfl
    exact ha (dvd_one ((dvd_iff_mod ha0).2 ea))
/-- Without a factor twice, and without such a polynomial: irreducible. -/
theorem irr_of_none {p : Nat} (h2 : 2 ≤ len p) (hd : gcd p (der p) = 1) (hn : ∀ v, len v < len p → sqx p v = 0 → v = 0 ∨ v = 1) : Irr p := by
  have hp : p ≠ 0 := fun e => by rw [e, len_zero] at h2; omega
  refine ⟨h2, fun a b he => ?_⟩
  by_cases ha : a = 1
  · exact .inl (len_eq_one.2 ha)
  by_cases hb : b = 1
  · exact .inr (len_eq_one.2 hb)
  exfalso
  have hg : gcd a b = 1 := by
    obtain ⟨g, hge⟩ : ∃ g, gcd a b = g := ⟨_, rfl⟩
    obtain ⟨c, hc⟩ := gcd_dvd_left a b
    obtain ⟨e, hce⟩ := gcd_dvd_right a b
    rw [hge] at hc hce ⊢
    have h3 : Dvd (sq g) p := ⟨mul c e, by rw [he, hc, hce, sq, mul_assoc, mul_assoc, ← mul_assoc g e g, mul_comm g e, mul_assoc e g g]⟩
    have h4 := dvd_der h3
    have h5 : Dvd g p := dvd_trans ⟨g, rfl⟩ h3
    have := dvd_gcd h5 h4
    rw [hd] at this
    exact dvd_one this
  obtain ⟨v, h3, h4, h5, h6⟩ := sqx_exists hp he hg ha hb
  rcases hn v h4 h3 with h | h
  · exact h5 h
  · exact h6 h

/-- Rows at their degrees, that span what x^2 + x makes of the even numbers below 2^i, none of which but 0 it makes 0. -/
structure Ech (p i : Nat) (R F : Nat → Nat) : Prop where
  rows : ∀ k, R k ≠ 0 → len (R k) = k + 1 ∧ sqx p (F k) = R k ∧ F k % 2 = 0 ∧ F k < 2 ^ i
  lead : ∀ c, c % 2 = 0 → c < 2 ^ i → sqx p c ≠ 0 → R (len (sqx p c) - 1) ≠ 0
  inj : ∀ c, c % 2 = 0 → c < 2 ^ i → sqx p c = 0 → c = 0
theorem xor_even {a b : Nat} (ha : a % 2 = 0) (hb : b % 2 = 0) : (a ^^^ b) % 2 = 0 := by rw [xor_mod_two]; omega
/-- The numbers below 2^(i+1): those below 2^i, and these with 2^i. -/
theorem below_succ {c i : Nat} (h : c < 2 ^ (i + 1)) : c < 2 ^ i ∨ (c ^^^ 2 ^ i) < 2 ^ i := by
  by_cases hc : c < 2 ^ i
  · exact .inl hc
  · right
    have hl : len c = i + 1 := len_eq (by omega) h
    have hne : c ≠ 0 := fun e => by have := Nat.two_pow_pos i; omega
    have := len_xor_same (a := c) (b := 2 ^ i) (by rw [hl, len_two_pow]) hne
    exact len_le_iff.1 (by omega)
theorem below_xor {c d i : Nat} (hc : c < 2 ^ i) (hd : d < 2 ^ i) : c ^^^ d < 2 ^ i := Nat.xor_lt_two_pow hc hd
/-- A new row. -/
theorem Ech.add {p i : Nat} {R F : Nat → Nat} (hp : p ≠ 0) (h : Ech p i R F) {row own k : Nat} (hr : sqx p own = row) (he : own % 2 = 0) (ho : (own ^^^ 2 ^ i) < 2 ^ i) (hk : len row = k + 1) (h0 : R k = 0) :
    Ech p (i + 1) (fun j => if j = k then row else R j) (fun j => if j = k then own else F j) := by
  have hrow0 : row ≠ 0 := fun e => by rw [e, len_zero] at hk; omega
  have hown : own < 2 ^ (i + 1) := by
    have h1 : own = (own ^^^ 2 ^ i) ^^^ 2 ^ i := (xor_cancel_right _ _).symm
    rw [h1]
    exact Nat.xor_lt_two_pow (Nat.lt_of_lt_of_le ho (Nat.pow_le_pow_right (by decide) (by omega))) (Nat.pow_lt_pow_right (by decide) (by omega))
  -- a number below 2^(i+1) is one below 2^i, or one such with 'own'
  have part : ∀ c, c % 2 = 0 → c < 2 ^ (i + 1) → c < 2 ^ i ∨ ∃ d, d % 2 = 0 ∧ d < 2 ^ i ∧ c = d ^^^ own ∧ sqx p c = sqx p d ^^^ row := fun c hc hlt => by
    rcases below_succ hlt with h1 | h1
    · exact .inl h1
    · refine .inr ⟨c ^^^ own, xor_even hc he, ?_, (xor_cancel_right _ _).symm, ?_⟩
      · have : c ^^^ own = (c ^^^ 2 ^ i) ^^^ (own ^^^ 2 ^ i) := by rw [xor4, Nat.xor_self, Nat.xor_zero]
        rw [this]
        exact below_xor h1 ho
      · rw [sqx_xor hp, hr, xor_cancel_right]
  have nokey : ∀ d, d % 2 = 0 → d < 2 ^ i → sqx p d ≠ 0 → len (sqx p d) ≠ len row := fun d h1 h2 h3 e => by
    have := h.lead d h1 h2 h3
    rw [e, hk, Nat.add_sub_cancel] at this
    exact this h0
  refine ⟨fun j hj => ?_, fun c hc hlt hne => ?_, fun c hc hlt hz => ?_⟩
  · by_cases e : j = k
    · simp only [e, if_true]
      exact ⟨hk, hr, he, hown⟩
    · simp only [e, if_false] at hj ⊢
      obtain ⟨a1, a2, a3, a4⟩ := h.rows j hj
      exact ⟨a1, a2, a3, Nat.lt_of_lt_of_le a4 (Nat.pow_le_pow_right (by decide) (by omega))⟩
  · rcases part c hc hlt with h1 | ⟨d, h1, h2, -, h4⟩
    · have := h.lead c hc h1 hne
      show (if len (sqx p c) - 1 = k then row else R (len (sqx p c) - 1)) ≠ 0
      split
      · exact hrow0
      · exact this
    · show (if len (sqx p c) - 1 = k then row else R (len (sqx p c) - 1)) ≠ 0
      rw [h4]
      split
      · exact hrow0
      · next hnk =>
        by_cases hd : sqx p d = 0
        · rw [hd, Nat.zero_xor, hk, Nat.add_sub_cancel] at hnk
          exact absurd rfl hnk
        · have hk2 := nokey d h1 h2 hd
          have hl := h.lead d h1 h2 hd
          rcases Nat.lt_or_gt_of_ne hk2 with h5 | h5
          · rw [Nat.xor_comm, len_xor_of_lt h5, hk, Nat.add_sub_cancel] at hnk
            exact absurd rfl hnk
          · rw [len_xor_of_lt h5]
            exact hl
  · rcases part c hc hlt with h1 | ⟨d, h1, h2, -, h4⟩
    · exact h.inj c hc h1 hz
    · exfalso
      rw [h4] at hz
      have h5 := xor_eq_zero hz
      exact nokey d h1 h2 (by rw [h5]; exact hrow0) (by rw [h5])
/-- Where a new row comes to nothing, its number is such a polynomial; and where no row comes to nothing, there is none. -/
theorem Ech.start {p : Nat} (F : Nat → Nat) : Ech p 1 (fun _ => 0) F :=
  ⟨fun k h => absurd rfl h, fun c h1 h2 h3 => by
    obtain rfl : c = 0 := by omega
    exact absurd (sqx_zero p) h3, fun c h1 h2 _ => by omega⟩
theorem Ech.none {p i : Nat} {R F : Nat → Nat} (h2 : 2 ≤ len p) (hi : len p ≤ i + 1) (h : Ech p i R F) (v : Nat) (hv : len v < len p) (h0 : sqx p v = 0) : v = 0 ∨ v = 1 := by
  have hp : p ≠ 0 := fun e => by rw [e, len_zero] at h2; omega
  have hlt : v < 2 ^ i := len_le_iff.1 (by omega)
  by_cases he : v % 2 = 0
  · exact .inl (h.inj v he hlt h0)
  · right
    have h1 : sqx p (v ^^^ 1) = 0 := by rw [sqx_xor hp, h0, sqx_one h2]; rfl
    have := h.inj (v ^^^ 1) (by rw [xor_mod_two]; omega) (Nat.xor_lt_two_pow hlt (Nat.one_lt_two_pow (by omega))) h1
    exact xor_eq_zero this
theorem sqx_two_pow {p i : Nat} : sqx p (2 ^ i) = pmod (2 ^ (2 * i)) p ^^^ 2 ^ i := by
  unfold sqx mm
  rw [mul_two_pow, ← Nat.pow_add, show i + i = 2 * i by omega]

/-! Products of lists -/
def prodL (l : List Nat) : Nat := l.foldr mul 1
theorem prodL_cons (a : Nat) (l : List Nat) : prodL (a :: l) = mul a (prodL l) := rfl
theorem prodL_append : ∀ l m : List Nat, prodL (l ++ m) = mul (prodL l) (prodL m)
  | [], m => (one_mul _).symm
  | a :: l, m => by rw [List.cons_append, prodL_cons, prodL_append l m, prodL_cons, mul_assoc]
theorem prodL_perm {l m : List Nat} (h : l.Perm m) : prodL l = prodL m := by
  induction h with
  | nil => rfl
  | cons a _ ih => rw [prodL_cons, prodL_cons, ih]
  | swap a b l => rw [prodL_cons, prodL_cons, prodL_cons, prodL_cons, ← mul_assoc, ← mul_assoc, mul_comm a b]
  | trans _ _ ih1 ih2 => exact ih1.trans ih2
theorem prodL_ne_zero : ∀ {l : List Nat}, (∀ x ∈ l, Irr x) → prodL l ≠ 0
  | [], _ => by decide
  | a :: l, h => mul_ne_zero (h a (by simp)).ne_zero (prodL_ne_zero fun x hx => h x (by simp [hx]))
theorem prodL_len : ∀ {l : List Nat}, (∀ x ∈ l, Irr x) → l.length + 1 ≤ len (prodL l)
  | [], _ => by simp [prodL, len_one]
  | a :: l, h => by
    have h1 := h a (by simp)
    have h2 := prodL_len (l := l) fun x hx => h x (by simp [hx])
    rw [prodL_cons, len_mul h1.ne_zero (prodL_ne_zero fun x hx => h x (by simp [hx]))]
    have := h1.1
    simp only [List.length_cons]
    omega
theorem irr_mem_of_dvd {x : Nat} (hx : Irr x) : ∀ {l : List Nat}, (∀ y ∈ l, Irr y) → Dvd x (prodL l) → x ∈ l
  | [], _, hd => by
    have h1 := dvd_one hd
    have h2 := hx.1
    rw [h1, len_one] at h2
    omega
  | a :: l, h, hd => by
    rcases hx.prime hd with h1 | h1
    · have := hx.eq_of_dvd (h a (by simp)) h1
      simp [this]
    · have := irr_mem_of_dvd hx (fun y hy => h y (by simp [hy])) h1
      simp [this]
/-- There is but one way. -/
theorem factors_unique : ∀ (l m : List Nat), (∀ x ∈ l, Irr x) → (∀ x ∈ m, Irr x) → prodL l = prodL m → l.Perm m
  | [], m, _, hm, he => by
    have := prodL_len hm
    rw [← he] at this
    simp only [prodL, List.foldr_nil, len_one] at this
    rw [List.length_eq_zero_iff.1 (show m.length = 0 by omega)]
  | a :: l, m, hl, hm, he => by
    have ha := hl a (by simp)
    have hmem : a ∈ m := irr_mem_of_dvd ha hm ⟨prodL l, by rw [← he, prodL_cons, mul_comm]⟩
    have hp := List.perm_cons_erase hmem
    have h1 : prodL l = prodL (m.erase a) := by
      have h2 := prodL_perm hp
      rw [← he, prodL_cons, prodL_cons] at h2
      exact mul_left_cancel ha.ne_zero h2
    exact ((factors_unique l (m.erase a) (fun x hx => hl x (by simp [hx])) (fun x hx => hm x (List.mem_of_mem_erase hx)) h1).cons a).trans hp.symm
theorem irr_two : Irr 2 := by
  refine ⟨by decide, fun a b h => ?_⟩
  have ha : a ≠ 0 := fun e => by rw [e, zero_mul] at h; omega
  have hb : b ≠ 0 := fun e => by rw [e, mul_zero] at h; omega
  have h1 := len_mul ha hb
  rw [← h, show len 2 = 2 by decide] at h1
  have := len_pos ha
  have := len_pos hb
  omega
end Gf2
