/- The field of remainders by an irreducible polynomial: Fermat's theorem, roots, which irreducible polynomials divide x^(2^k) + x. -/
import Derived.Test.YtjgfcnhnlaobcaaPoly1
namespace Gf2

/-- The product of two remainders. -/
def mm (p a b : Nat) : Nat := pmod (mul a b) p
theorem mm_comm (p a b : Nat) : mm p a b = mm p b a := by rw [mm, mm, mul_comm]
theorem mm_assoc {p : Nat} (hp : p ≠ 0) (a b c : Nat) : mm p (mm p a b) c = mm p a (mm p b c) := by
  simp only [mm]; rw [mul_mod_left _ _ hp, mul_mod_right _ _ hp, mul_assoc]
theorem mm_xor {p : Nat} (hp : p ≠ 0) (a b c : Nat) : mm p a (b ^^^ c) = mm p a b ^^^ mm p a c := by
  simp only [mm]; rw [mul_xor, mod_xor _ _ hp]
theorem xor_mm {p : Nat} (hp : p ≠ 0) (a b c : Nat) : mm p (a ^^^ b) c = mm p a c ^^^ mm p b c := by
  simp only [mm]; rw [xor_mul, mod_xor _ _ hp]
theorem mm_zero (p a : Nat) : mm p a 0 = 0 := by rw [mm, mul_zero, zero_mod]
theorem zero_mm (p a : Nat) : mm p 0 a = 0 := by rw [mm, zero_mul, zero_mod]
theorem mm_one {p a : Nat} (h : len a < len p) : mm p a 1 = a := by rw [mm, mul_one, mod_of_lt h]
theorem one_mm {p a : Nat} (h : len a < len p) : mm p 1 a = a := by rw [mm, one_mul, mod_of_lt h]
theorem mm_lt {p : Nat} (hp : p ≠ 0) (a b : Nat) : len (mm p a b) < len p := len_mod_lt _ hp
theorem mm_mod_left {p : Nat} (hp : p ≠ 0) (a b : Nat) : mm p (pmod a p) b = mm p a b := mul_mod_left a b hp
theorem mm_mod_right {p : Nat} (hp : p ≠ 0) (a b : Nat) : mm p a (pmod b p) = mm p a b := mul_mod_right a b hp
theorem mm_left_comm {p : Nat} (hp : p ≠ 0) (a b c : Nat) : mm p a (mm p b c) = mm p b (mm p a c) := by
  rw [← mm_assoc hp, ← mm_assoc hp, mm_comm p a b]
theorem mm_eq_zero {p a b : Nat} (hp : Irr p) (ha : len a < len p) (hb : len b < len p) (h : mm p a b = 0) : a = 0 ∨ b = 0 := by
  have hd : Dvd p (mul a b) := (dvd_iff_mod hp.ne_zero).2 h
  rcases hp.prime hd with h1 | h1
  · left; refine Classical.byContradiction fun hne => ?_
    have := len_le_of_dvd h1 hne; omega
  · right; refine Classical.byContradiction fun hne => ?_
    have := len_le_of_dvd h1 hne; omega
theorem mm_cancel {p a b c : Nat} (hp : Irr p) (ha : len a < len p) (hb : len b < len p) (hc : len c < len p) (h0 : a ≠ 0) (h : mm p a b = mm p a c) : b = c := by
  have : mm p a (b ^^^ c) = 0 := by rw [mm_xor hp.ne_zero, h, Nat.xor_self]
  have hl : len (b ^^^ c) < len p := by
    have := hp.1
    have := len_xor_le (a := b) (b := c) (k := len p - 1) (by omega) (by omega); omega
  rcases mm_eq_zero hp ha hl this with h1 | h1
  · exact absurd h1 h0
  · exact xor_eq_zero h1

/-- The square, again and again: a to the power of 2 to the power of k. -/
def frob (p : Nat) : Nat → Nat → Nat
  | 0, a => a
  | k + 1, a => frob p k (mm p a a)
theorem frob_succ' (p k : Nat) : ∀ a, frob p (k + 1) a = mm p (frob p k a) (frob p k a) := by
  induction k with
  | zero => intro a; rfl
  | succ k ih => intro a; exact ih (mm p a a)
theorem frob_add (p k m : Nat) : ∀ a, frob p (k + m) a = frob p m (frob p k a) := by
  induction k with
  | zero => intro a; rw [Nat.zero_add]; rfl
  | succ k ih => intro a; rw [show k + 1 + m = (k + m) + 1 by omega]; exact ih _
theorem frob_lt {p : Nat} (hp : p ≠ 0) (k a : Nat) (h : len a < len p) : len (frob p k a) < len p := by
  cases k with
  | zero => exact h
  | succ k => rw [frob_succ']; exact mm_lt hp _ _
theorem mm_sq_xor {p : Nat} (hp : p ≠ 0) (a b : Nat) : mm p (a ^^^ b) (a ^^^ b) = mm p a a ^^^ mm p b b := by
  rw [mm_xor hp, xor_mm hp, xor_mm hp, mm_comm p b a]
  generalize mm p a b = s
  rw [Nat.xor_assoc, xor_cancel_left]
theorem frob_xor {p : Nat} (hp : p ≠ 0) (k : Nat) : ∀ a b, frob p k (a ^^^ b) = frob p k a ^^^ frob p k b := by
  induction k with
  | zero => intro a b; rfl
  | succ k ih => intro a b; rw [frob, mm_sq_xor hp, ih]; rfl
theorem frob_mm {p : Nat} (hp : p ≠ 0) (k : Nat) : ∀ a b, len a < len p → len b < len p → frob p k (mm p a b) = mm p (frob p k a) (frob p k b) := by
  induction k with
  | zero => intro a b _ _; rfl
  | succ k ih =>
    intro a b ha hb
    rw [frob]
    have : mm p (mm p a b) (mm p a b) = mm p (mm p a a) (mm p b b) := by
      rw [mm_assoc hp, mm_assoc hp, mm_left_comm hp b]
    rw [this, ih _ _ (mm_lt hp _ _) (mm_lt hp _ _)]; rfl
theorem frob_mod_dvd {p q : Nat} (hp : p ≠ 0) (hq : q ≠ 0) (hd : Dvd q p) (k : Nat) : ∀ a b, pmod a q = pmod b q → pmod (frob p k a) q = pmod (frob q k b) q := by
  induction k with
  | zero => intro a b h; exact h
  | succ k ih =>
    intro a b h
    refine ih _ _ ?_
    have e : pmod (mm p a a) q = pmod (mul a a) q := by
      have h1 := div_add_mod (mul a a) hp
      conv => rhs; rw [← h1]
      rw [mod_xor _ _ hq]
      have : pmod (mul (pdiv (mul a a) p) p) q = 0 := (dvd_iff_mod hq).1 (dvd_mul_of_dvd hd _)
      rw [this, Nat.zero_xor]; rfl
    rw [e, mm, mod_mod _ hq, ← mul_mod a a hq, h, mul_mod b b hq]

/-! Lists without repetition. -/
theorem nodup_perm {α : Type} [BEq α] [LawfulBEq α] : ∀ (l₁ l₂ : List α), l₁.Nodup → l₂.length ≤ l₁.length → (∀ x ∈ l₁, x ∈ l₂) → l₁.Perm l₂
  | [], l₂, _, hl, _ => by
    have : l₂ = [] := List.length_eq_zero_iff.1 (by simpa using hl)
    rw [this]
  | x :: l₁, l₂, hn, hl, hs => by
    have hx := hs x (List.mem_cons_self)
    have hp := List.perm_cons_erase hx
    rw [List.nodup_cons] at hn
    refine (List.Perm.cons x (nodup_perm l₁ (l₂.erase x) hn.2 ?_ ?_)).trans hp.symm
    · have := hp.length_eq; simp only [List.length_cons] at this hl; omega
    · intro y hy
      have h1 := hs y (List.mem_cons_of_mem x hy)
      have h2 := hp.mem_iff.1 h1
      rcases List.mem_cons.1 h2 with e | e
      · exact absurd (e ▸ hy) hn.1
      · exact e

theorem nodup_map_on {α β : Type} (f : α → β) : ∀ (l : List α), l.Nodup → (∀ x ∈ l, ∀ y ∈ l, f x = f y → x = y) → (l.map f).Nodup
  | [], _, _ => List.Pairwise.nil
  | x :: l, hn, h => by
    rw [List.nodup_cons] at hn
    rw [List.map_cons, List.nodup_cons]
    refine ⟨?_, nodup_map_on f l hn.2 fun a ha b hb => h a (List.mem_cons_of_mem x ha) b (List.mem_cons_of_mem x hb)⟩
    intro hm
    obtain ⟨y, hy, e⟩ := List.mem_map.1 hm
    exact hn.1 (h y (List.mem_cons_of_mem x hy) x List.mem_cons_self e ▸ hy)

def prodm (p : Nat) (l : List Nat) : Nat := l.foldr (mm p) 1
theorem prodm_perm {p : Nat} (hp : p ≠ 0) {l l' : List Nat} (h : l.Perm l') : prodm p l = prodm p l' := by
  induction h with
  | nil => rfl
  | cons x _ ih => simp only [prodm, List.foldr_cons] at *; rw [ih]
  | swap x y l => simp only [prodm, List.foldr_cons]; exact mm_left_comm hp _ _ _
  | trans _ _ h1 h2 => exact h1.trans h2
/-- a to the power of n. -/
def powm (p a : Nat) : Nat → Nat
  | 0 => 1
  | n + 1 => mm p a (powm p a n)
theorem powm_lt {p : Nat} (h : 2 ≤ len p) (a n : Nat) : len (powm p a n) < len p := by
  cases n with
  | zero => rw [powm, len_one]; omega
  | succ n => exact mm_lt (fun e => by rw [e, len_zero] at h; omega) _ _
theorem prodm_lt {p : Nat} (h : 2 ≤ len p) (l : List Nat) : len (prodm p l) < len p := by
  cases l with
  | nil => simp only [prodm, List.foldr_nil, len_one]; omega
  | cons x l => exact mm_lt (fun e => by rw [e, len_zero] at h; omega) _ _
theorem prodm_map {p : Nat} (h2 : 2 ≤ len p) (a : Nat) (l : List Nat) : prodm p (l.map (mm p a)) = mm p (powm p a l.length) (prodm p l) := by
  have hp : p ≠ 0 := fun e => by rw [e, len_zero] at h2; omega
  induction l with
  | nil => simp only [prodm, List.map_nil, List.foldr_nil, List.length_nil, powm]; rw [mm_one (by rw [len_one]; omega)]
  | cons x l ih =>
    simp only [prodm, List.map_cons, List.foldr_cons, List.length_cons, powm] at *
    rw [ih, mm_assoc hp, mm_assoc hp, mm_left_comm hp x]
theorem prodm_ne_zero {p : Nat} (hp : Irr p) (l : List Nat) (h : ∀ x ∈ l, x ≠ 0 ∧ len x < len p) : prodm p l ≠ 0 := by
  induction l with
  | nil => simp [prodm]
  | cons x l ih =>
    simp only [prodm, List.foldr_cons]
    intro e
    have hx := h x (List.mem_cons_self)
    rcases mm_eq_zero hp hx.2 (prodm_lt hp.1 l) e with h1 | h1
    · exact hx.1 h1
    · exact ih (fun y hy => h y (List.mem_cons_of_mem x hy)) h1
theorem powm_add {p : Nat} (h2 : 2 ≤ len p) (a m n : Nat) : powm p a (m + n) = mm p (powm p a m) (powm p a n) := by
  have hp : p ≠ 0 := fun e => by rw [e, len_zero] at h2; omega
  induction m with
  | zero => rw [Nat.zero_add, powm, one_mm (powm_lt h2 a n)]
  | succ m ih => rw [show m + 1 + n = (m + n) + 1 by omega, powm, powm, ih, mm_assoc hp]
theorem powm_two_pow {p a : Nat} (h2 : 2 ≤ len p) (ha : len a < len p) (k : Nat) : powm p a (2 ^ k) = frob p k a := by
  induction k with
  | zero => simp only [Nat.pow_zero, powm, frob]; exact mm_one ha
  | succ k ih => rw [Nat.pow_succ, Nat.mul_two, powm_add h2, ih, frob_succ']

/-- **Fermat's theorem**: by an irreducible polynomial of the degree d each remainder is its own power of 2 to the power of d. -/
theorem fermat_pow {p a d : Nat} (hp : Irr p) (hd : len p = d + 1) (ha : len a < len p) (h0 : a ≠ 0) : powm p a (2 ^ d - 1) = 1 := by
  have hp0 := hp.ne_zero
  let L := List.range' 1 (2 ^ d - 1)
  have hL : ∀ x ∈ L, x ≠ 0 ∧ len x < len p := by
    intro x hx
    have := List.mem_range'_1.1 hx
    refine ⟨by omega, ?_⟩
    have := len_le_iff (n := x) (k := d)
    have := Nat.two_pow_pos d
    omega
  have hperm : (L.map (mm p a)).Perm L := by
    refine nodup_perm _ _ ?_ (by simp) ?_
    · exact nodup_map_on _ _ List.nodup_range' fun x hx y hy e => mm_cancel hp ha (hL x hx).2 (hL y hy).2 h0 e
    · intro y hy
      obtain ⟨x, hx, rfl⟩ := List.mem_map.1 hy
      refine List.mem_range'_1.2 ?_
      have h1 : mm p a x ≠ 0 := fun e => by
        rcases mm_eq_zero hp ha (hL x hx).2 e with h | h
        · exact h0 h
        · exact (hL x hx).1 h
      have h2 := mm_lt hp0 a x
      have := len_le_iff (n := mm p a x) (k := d)
      omega
  have h1 := prodm_perm hp0 hperm
  rw [prodm_map hp.1] at h1
  have hz := prodm_ne_zero hp L hL
  have hlt := prodm_lt hp.1 L
  have hlen : L.length = 2 ^ d - 1 := by simp [L]
  rw [hlen] at h1
  refine mm_cancel hp hlt (powm_lt hp.1 _ _) (by rw [len_one]; have := hp.1; omega) hz ?_
  rw [mm_comm, h1, mm_one hlt]

theorem fermat {p a d : Nat} (hp : Irr p) (hd : len p = d + 1) (ha : len a < len p) : frob p d a = a := by
  by_cases h0 : a = 0
  · subst h0
    clear hd
    induction d with
    | zero => rfl
    | succ d ih => rw [frob, mm_zero, ih]
  · rw [← powm_two_pow hp.1 ha]
    have := fermat_pow hp hd ha h0
    have h1 : 2 ^ d = (2 ^ d - 1) + 1 := by have := Nat.two_pow_pos d; omega
    rw [h1, powm, this, mm_one ha]

end Gf2
