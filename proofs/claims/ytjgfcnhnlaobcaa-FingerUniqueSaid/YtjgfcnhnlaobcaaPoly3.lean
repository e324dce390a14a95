/- Roots of polynomials over a field of remainders; which irreducible polynomials divide x^(2^k) + x; two tests for irreducibility. -/
import Derived.Test.YtjgfcnhnlaobcaaPoly2
namespace Gf2

/-- The value of a polynomial with coefficients c (lowest first) at y. -/
def ev (p : Nat) : List Nat → Nat → Nat
  | [], _ => 0
  | a :: t, y => a ^^^ mm p y (ev p t y)
/-- The quotient by y + z. -/
def quo (p z : Nat) : List Nat → List Nat
  | [] => []
  | [_] => []
  | _ :: b :: t => ev p (b :: t) z :: quo p z (b :: t)
theorem quo_length (p z : Nat) : ∀ c : List Nat, (quo p z c).length = c.length - 1
  | [] => rfl
  | [_] => rfl
  | a :: b :: t => by
    have := quo_length p z (b :: t)
    simp only [quo, List.length_cons] at *; omega
theorem ev_lt {p : Nat} (hp : p ≠ 0) (c : List Nat) (y : Nat) (h : ∀ a ∈ c, len a < len p) : len (ev p c y) < len p := by
  have h0 := len_pos hp
  cases c with
  | nil => rw [ev, len_zero]; exact h0
  | cons a t =>
    have h1 := h a List.mem_cons_self
    have h2 := mm_lt hp y (ev p t y)
    have := len_xor_le (a := a) (b := mm p y (ev p t y)) (k := len p - 1) (by omega) (by omega)
    rw [ev]; omega
theorem ev_quo {p : Nat} (hp : p ≠ 0) (y z : Nat) : ∀ c : List Nat, ev p c y ^^^ ev p c z = mm p (y ^^^ z) (ev p (quo p z c) y)
  | [] => by rw [ev, quo, ev, ev, mm_zero]; rfl
  | [a] => by simp only [ev, quo, mm_zero, Nat.xor_self]
  | a :: b :: t => by
    have ih := ev_quo hp y z (b :: t)
    have e1 : ∀ x, ev p (a :: b :: t) x = a ^^^ mm p x (ev p (b :: t) x) := fun _ => rfl
    have e2 : ev p (quo p z (a :: b :: t)) y = ev p (b :: t) z ^^^ mm p y (ev p (quo p z (b :: t)) y) := rfl
    rw [e1, e1, e2]
    clear e1 e2
    generalize hs : ev p (b :: t) z = s at *
    generalize ht : ev p (b :: t) y = u at *
    generalize ev p (quo p z (b :: t)) y = v at *
    rw [mm_xor hp (y ^^^ z), mm_left_comm hp (y ^^^ z), ← ih, xor4, Nat.xor_self, Nat.zero_xor, xor_mm hp, mm_xor hp]
    rw [Nat.xor_comm (mm p y u) (mm p y s), xor4, Nat.xor_self, Nat.zero_xor, Nat.xor_comm]
theorem quo_last (p z : Nat) : ∀ (c : List Nat) (_ : 2 ≤ c.length) (hq : quo p z c ≠ []) (h0 : c ≠ []), (quo p z c).getLast hq = c.getLast h0
  | [_, b], _, _, _ => by simp [quo, ev, mm_zero]
  | a :: b :: d :: t, _, _, _ => by
    have hne : quo p z (b :: d :: t) ≠ [] := by simp [quo]
    have ih := quo_last p z (b :: d :: t) (by simp) hne (by simp)
    have e : quo p z (a :: b :: d :: t) = ev p (b :: d :: t) z :: quo p z (b :: d :: t) := rfl
    simp only [e]
    rw [List.getLast_cons hne, List.getLast_cons (by simp)]
    exact ih

/-- A polynomial has fewer roots than coefficients. -/
theorem roots_lt {p : Nat} (hp : Irr p) (n : Nat) : ∀ (c R : List Nat) (h0 : c ≠ []), c.length = n → (∀ a ∈ c, len a < len p) → c.getLast h0 ≠ 0 → R.Nodup → (∀ r ∈ R, len r < len p ∧ ev p c r = 0) → R.length < n := by
  induction n with
  | zero => intro c R h0 hn; exact absurd (List.length_eq_zero_iff.1 hn) h0
  | succ n ih =>
    intro c R h0 hn hc hl hR hr
    cases R with
    | nil => simp
    | cons z R =>
      have hz := hr z List.mem_cons_self
      by_cases h1 : n = 0
      · subst h1
        obtain ⟨a, rfl⟩ := List.length_eq_one_iff.1 hn
        have := hz.2
        simp only [ev, mm_zero, Nat.xor_zero] at this
        simp only [List.getLast_singleton] at hl
        exact absurd this hl
      · have hq : quo p z c ≠ [] := fun e => by have := quo_length p z c; rw [e] at this; simp only [List.length_nil] at this; omega
        have hq' : ∀ c : List Nat, (∀ a ∈ c, len a < len p) → ∀ a ∈ quo p z c, len a < len p := by
          intro c
          induction c with
          | nil => intro _ a ha; simp [quo] at ha
          | cons b t iht =>
            intro hh a ha
            cases t with
            | nil => simp [quo] at ha
            | cons d t =>
              rw [quo] at ha
              rcases List.mem_cons.1 ha with e | e
              · rw [e]; exact ev_lt hp.ne_zero _ _ fun x hx => hh x (List.mem_cons_of_mem b hx)
              · exact iht (fun x hx => hh x (List.mem_cons_of_mem b hx)) a e
        rw [List.nodup_cons] at hR
        have := ih (quo p z c) R hq (by rw [quo_length]; omega) (hq' c hc) (by rw [quo_last p z c (by omega) hq h0]; exact hl) hR.2 (by
          intro r hrm
          have hr' := hr r (List.mem_cons_of_mem z hrm)
          refine ⟨hr'.1, ?_⟩
          have e := ev_quo hp.ne_zero r z c
          rw [hr'.2, hz.2, Nat.xor_self] at e
          have hlx : len (r ^^^ z) < len p := by
            have := len_pos hp.ne_zero
            have := len_xor_le (a := r) (b := z) (k := len p - 1) (by omega) (by omega); omega
          rcases mm_eq_zero hp hlx (ev_lt hp.ne_zero _ _ (hq' c hc)) e.symm with h | h
          · exact absurd (xor_eq_zero h ▸ hrm) hR.1
          · exact h)
        simp only [List.length_cons]; omega

/-- x as a remainder. -/
def xr (p : Nat) : Nat := pmod 2 p
theorem ev_pow (p y k : Nat) : ev p (List.replicate k 0 ++ [1]) y = powm p y k := by
  induction k with
  | zero => simp only [List.replicate_zero, List.nil_append, ev, mm_zero, powm, Nat.xor_zero]
  | succ k ih => rw [List.replicate_succ, List.cons_append, ev, Nat.zero_xor, ih]; rfl
theorem frob_zero (p k : Nat) : frob p k 0 = 0 := by
  induction k with
  | zero => rfl
  | succ k ih => rw [frob, mm_zero, ih]
theorem frob_one {p : Nat} (h2 : 2 ≤ len p) (k : Nat) : frob p k 1 = 1 := by
  induction k with
  | zero => rfl
  | succ k ih => rw [frob, mm_one (by rw [len_one]; omega), ih]
theorem frob_fixed {p : Nat} (h2 : 2 ≤ len p) (k : Nat) (h : frob p k (xr p) = xr p) (a : Nat) : len a < len p → frob p k a = a := by
  have hp : p ≠ 0 := fun e => by rw [e, len_zero] at h2; omega
  have heven : ∀ b, (len b < len p → frob p k b = b) → len (2 * b) < len p → frob p k (2 * b) = 2 * b := by
    intro b ih hl
    by_cases hb : b = 0
    · subst hb; exact frob_zero p k
    · have hlb := len_two_mul hb
      have e : mm p (xr p) b = 2 * b := by
        rw [xr, mm_mod_left hp, mm, mul_comm, show (2 : Nat) = 2 ^ 1 from rfl, mul_two_pow, mod_of_lt (by simpa using hl)]
      rw [← e, frob_mm hp k _ _ (show len (xr p) < len p from len_mod_lt 2 hp) (by omega), h, ih (by omega)]
  induction a using bits_induction with
  | h0 => intro _; exact frob_zero p k
  | he b ih => exact heven b ih
  | ho b ih =>
    intro hl
    rw [bit_one, frob_xor hp, frob_one h2]
    have : len (2 * b) < len p := by
      by_cases hb : b = 0
      · subst hb; simp [len_zero]; omega
      · have : len (2 * b + 1) = len (2 * b) := by
          rw [bit_one, len_xor_of_lt (by rw [len_two_mul hb, len_one]; have := len_pos hb; omega)]
        omega
    rw [heven b ih this]
/-- x^(2^r) is not x by an irreducible polynomial of a greater degree. -/
theorem frob_x_le {p m r : Nat} (hp : Irr p) (hm : len p = m + 1) (hr : 1 ≤ r) (h : frob p r (xr p) = xr p) : m ≤ r := by
  have hall := frob_fixed hp.1 r h
  have h2r : 2 ≤ 2 ^ r := by have := Nat.pow_le_pow_right (n := 2) (by omega) hr; simpa using this
  let c := 0 :: 1 :: (List.replicate (2 ^ r - 2) 0 ++ [1])
  have hev : ∀ y, len y < len p → ev p c y = 0 := by
    intro y hy
    simp only [c]
    rw [ev, ev, ev_pow, Nat.zero_xor, mm_xor hp.ne_zero, mm_one hy]
    have : mm p y (mm p y (powm p y (2 ^ r - 2))) = frob p r y := by
      rw [← powm_two_pow hp.1 hy, show 2 ^ r = (2 ^ r - 2) + 1 + 1 by omega]; rfl
    rw [this, hall y hy, Nat.xor_self]
  have hroots := roots_lt hp (2 ^ r + 1) c (List.range (2 ^ m)) (by simp [c]) (by simp [c]; omega) (by
    have := hp.1
    intro a ha
    simp only [c, List.mem_cons, List.mem_append, List.mem_replicate, List.mem_nil_iff, or_false] at ha
    rcases ha with rfl | rfl | ⟨_, rfl⟩ | rfl <;> simp [len_zero, len_one] <;> omega) (by
    have : c = (0 :: 1 :: List.replicate (2 ^ r - 2) 0) ++ [1] := by simp [c]
    simp only [this, List.getLast_concat]; omega) List.nodup_range (by
    intro y hy
    have hy' := List.mem_range.1 hy
    have : len y < len p := by have := len_le_iff (n := y) (k := m); omega
    exact ⟨this, hev y this⟩)
  rw [List.length_range] at hroots
  refine Classical.byContradiction fun hn => ?_
  have := Nat.pow_lt_pow_right (a := 2) (by omega) (show r < m by omega)
  omega
theorem frob_mul_period {p m : Nat} (hp : Irr p) (hm : len p = m + 1) (t a : Nat) (ha : len a < len p) : frob p (m * t) a = a := by
  induction t with
  | zero => rfl
  | succ t ih => rw [Nat.mul_succ, frob_add, ih, fermat hp hm ha]
/-- If x^(2^k) is x by an irreducible polynomial, its degree divides k. -/
theorem degree_dvd {p m k : Nat} (hp : Irr p) (hm : len p = m + 1) (h : frob p k (xr p) = xr p) : m ∣ k := by
  have hx : len (xr p) < len p := len_mod_lt 2 hp.ne_zero
  have hm1 : 1 ≤ m := by have := hp.1; omega
  have e : frob p (k % m) (xr p) = xr p := by
    rw [← Nat.div_add_mod k m, frob_add, frob_mul_period hp hm _ _ hx] at h
    exact h
  refine Nat.dvd_of_mod_eq_zero (Classical.byContradiction fun hn => ?_)
  have := frob_x_le hp hm (by omega) e
  have := Nat.mod_lt k (show m > 0 by omega)
  omega
theorem frob_dvd_period {p m k : Nat} (hp : Irr p) (hm : len p = m + 1) (h : m ∣ k) : frob p k (xr p) = xr p := by
  obtain ⟨t, rfl⟩ := h
  exact frob_mul_period hp hm t _ (len_mod_lt 2 hp.ne_zero)

/-- An irreducible divisor of p divides x^(2^k) + x just if its degree divides k. -/
theorem irr_dvd_frob {p q m k : Nat} (hp : p ≠ 0) (hq : Irr q) (hd : Dvd q p) (hm : len q = m + 1) : Dvd q (frob p k (xr p) ^^^ xr p) ↔ m ∣ k := by
  have h0 := hq.ne_zero
  have e1 : pmod (frob p k (xr p)) q = frob q k (xr q) := by
    have hx : pmod (xr p) q = pmod (xr q) q := by
      rw [xr, xr, mod_mod _ h0]
      have h1 := div_add_mod 2 hp
      conv => rhs; rw [← h1]
      rw [mod_xor _ _ h0, (dvd_iff_mod h0).1 (dvd_mul_of_dvd hd _), Nat.zero_xor]
    rw [frob_mod_dvd hp h0 hd k _ _ hx, mod_of_lt (frob_lt h0 k _ (show len (xr q) < len q from len_mod_lt 2 h0))]
  have e2 : pmod (xr p) q = xr q := by
    have := frob_mod_dvd hp h0 hd 0 (xr p) (xr p) rfl
    rw [xr, xr]
    have h1 := div_add_mod 2 hp
    conv => rhs; rw [← h1]
    rw [mod_xor _ _ h0, (dvd_iff_mod h0).1 (dvd_mul_of_dvd hd _), Nat.zero_xor]
  rw [dvd_iff_mod h0, mod_xor _ _ h0, e1, e2]
  constructor
  · intro h; exact degree_dvd hq hm (xor_eq_zero h)
  · intro h; rw [frob_dvd_period hq hm h, Nat.xor_self]

/-- The test by all degrees up to the half. -/
theorem irr_iff_half {p d : Nat} (hd : len p = d + 1) (h1 : 1 ≤ d) : Irr p ↔ ∀ i, 1 ≤ i → 2 * i ≤ d → gcd p (frob p i (xr p) ^^^ xr p) = 1 := by
  have hp : p ≠ 0 := fun e => by rw [e, len_zero] at hd; omega
  constructor
  · intro hi i hi1 hi2
    refine hi.coprime fun hdv => ?_
    have := (irr_dvd_frob hp hi (dvd_refl p) hd).1 hdv
    have := Nat.le_of_dvd (by omega) this
    omega
  · intro h
    refine Classical.byContradiction fun hn => ?_
    obtain ⟨q, hq, hdv, hl⟩ := exists_irr_half (by omega) hn
    have h2 := hq.1
    have hg := h (len q - 1) (by omega) (by omega)
    have : Dvd q (frob p (len q - 1) (xr p) ^^^ xr p) := (irr_dvd_frob hp hq hdv (m := len q - 1) (by omega)).2 (Nat.dvd_refl _)
    have := dvd_gcd hdv this
    rw [hg] at this
    have := dvd_one this
    rw [this, len_one] at h2
    omega

/-- The test by the prime divisors of the degree (Rabin's). -/
theorem irr_iff_rabin {p n : Nat} (hd : len p = n + 1) (h1 : 2 ≤ n) (L : List Nat) (hL : ∀ r ∈ L, 2 ≤ r ∧ r ∣ n) (hL' : ∀ m, m ∣ n → m < n → ∃ r ∈ L, m ∣ n / r) :
    Irr p ↔ frob p n (xr p) = xr p ∧ ∀ r ∈ L, gcd p (frob p (n / r) (xr p) ^^^ xr p) = 1 := by
  have hp : p ≠ 0 := fun e => by rw [e, len_zero] at hd; omega
  constructor
  · intro hi
    refine ⟨frob_dvd_period hi hd (Nat.dvd_refl _), fun r hr => hi.coprime fun hdv => ?_⟩
    have h3 := (irr_dvd_frob hp hi (dvd_refl p) hd).1 hdv
    obtain ⟨h4, h5⟩ := hL r hr
    have h6 : n / r < n := Nat.div_lt_self (by omega) (by omega)
    have h7 : 0 < n / r := Nat.div_pos (Nat.le_of_dvd (by omega) h5) (by omega)
    have := Nat.le_of_dvd h7 h3
    omega
  · rintro ⟨h2, h3⟩
    refine Classical.byContradiction fun hn => ?_
    obtain ⟨q, hq, hdv, hl⟩ := exists_irr_half (by omega) hn
    have h4 := hq.1
    have hm : (len q - 1) ∣ n := (irr_dvd_frob hp hq hdv (m := len q - 1) (k := n) (by omega)).1 (by rw [h2, Nat.xor_self]; exact dvd_zero q)
    obtain ⟨r, hr, hdr⟩ := hL' (len q - 1) hm (by omega)
    have := dvd_gcd hdv ((irr_dvd_frob hp hq hdv (m := len q - 1) (k := n / r) (by omega)).2 hdr)
    rw [h3 r hr] at this
    have := dvd_one this
    rw [this, len_one] at h4
    omega

end Gf2
