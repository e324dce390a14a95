/- How many irreducible polynomials divide a polynomial; by how many two texts collide. -/
import Derived.Test.YtjgfcnhnlaobcaaPoly8
import Derived.Test.YtjgfcnhnlaobcaaPoly6
namespace Gf2

/-- Distinct irreducible polynomials of degree d that divide a polynomial: their degrees together are at most its degree. -/
theorem irr_many {d : Nat} : ∀ (L : List Nat) (D : Nat), D ≠ 0 → L.Nodup → (∀ q ∈ L, Irr q ∧ len q = d + 1 ∧ Dvd q D) → L.length * d + 1 ≤ len D
  | [], D, h0, _, _ => by have := len_pos h0; simp; omega
  | q :: L, D, h0, hn, h => by
    obtain ⟨hq, hl, c, rfl⟩ := h q (by simp)
    have hc0 : c ≠ 0 := fun e => h0 (by rw [e, zero_mul])
    have hn' := List.nodup_cons.1 hn
    have ih := irr_many (d := d) L c hc0 hn'.2 fun r hr => by
      obtain ⟨hr1, hr2, hr3⟩ := h r (by simp [hr])
      refine ⟨hr1, hr2, ?_⟩
      rcases hr1.prime hr3 with h1 | h1
      · exact h1
      · have := hr1.eq_of_dvd hq h1
        rw [this] at hr
        exact absurd hr hn'.1
    have e := len_mul hc0 hq.ne_zero
    have := len_pos hc0
    rw [e, hl, List.length_cons, Nat.add_mul]
    omega

/-- The polynomial that a text is: a 1 ahead of its bytes. -/
def tnum (l : List Nat) : Nat := 2 ^ (8 * l.length) ^^^ num l
theorem tnum_eq {l : List Nat} (h : ∀ x ∈ l, x < 256) : tnum l = 2 ^ (8 * l.length) + num l := by
  have := add_eq_xor (a := 1) (num_lt l h)
  rw [Nat.mul_one] at this
  exact this.symm
theorem tnum_len {l : List Nat} (h : ∀ x ∈ l, x < 256) : len (tnum l) = 8 * l.length + 1 := by
  have h1 := num_lt l h
  rw [tnum_eq h]
  exact len_eq (by omega) (by rw [Nat.pow_succ]; omega)
theorem tnum_inj {l m : List Nat} (hl : ∀ x ∈ l, x < 256) (hm : ∀ x ∈ m, x < 256) (h : tnum l = tnum m) : l = m := by
  have e : l.length = m.length := by
    have h1 := tnum_len hl
    rw [h, tnum_len hm] at h1
    omega
  rw [tnum, tnum, e] at h
  exact num_inj l m e hl hm (xor_left_cancel h)
theorem tnum_fp {p : Nat} (h2 : 2 ≤ len p) {l : List Nat} (h : ∀ x ∈ l, x < 256) : onBytes p 1 l = pmod (tnum l) p := by
  have hp : p ≠ 0 := fun e => by rw [e, len_zero] at h2; omega
  rw [fp_eq h2 l h, tnum, mod_xor _ _ hp]
/-- Two texts collide just by the divisors of their difference. -/
theorem coll_dvd {p : Nat} (h2 : 2 ≤ len p) {l m : List Nat} (hl : ∀ x ∈ l, x < 256) (hm : ∀ x ∈ m, x < 256) (h : onBytes p 1 l = onBytes p 1 m) : Dvd p (tnum l ^^^ tnum m) := by
  have hp : p ≠ 0 := fun e => by rw [e, len_zero] at h2; omega
  rw [dvd_iff_mod hp, mod_xor _ _ hp, ← tnum_fp h2 hl, ← tnum_fp h2 hm, h, Nat.xor_self]
/-- By how many irreducible polynomials of degree d two texts of at most n bytes collide. -/
theorem coll_many {d n : Nat} (hd : 1 ≤ d) (L : List Nat) (hn : L.Nodup) (hL : ∀ q ∈ L, Irr q ∧ len q = d + 1) {l m : List Nat} (hl : ∀ x ∈ l, x < 256) (hm : ∀ x ∈ m, x < 256) (hne : l ≠ m) (h1 : l.length ≤ n) (h2 : m.length ≤ n) :
    L.countP (fun p => onBytes p 1 l == onBytes p 1 m) ≤ 8 * n / d := by
  have h0 : tnum l ^^^ tnum m ≠ 0 := fun e => hne (tnum_inj hl hm (xor_eq_zero e))
  have hlen : len (tnum l ^^^ tnum m) ≤ 8 * n + 1 := len_xor_le (by rw [tnum_len hl]; omega) (by rw [tnum_len hm]; omega)
  have := irr_many (d := d) (L.filter fun p => onBytes p 1 l == onBytes p 1 m) _ h0 (hn.filter _) fun q hq => by
    obtain ⟨hq1, hq2⟩ := List.mem_filter.1 hq
    obtain ⟨h3, h4⟩ := hL q hq1
    exact ⟨h3, h4, coll_dvd (by omega) hl hm (by simpa using hq2)⟩
  rw [List.countP_eq_length_filter]
  refine (Nat.le_div_iff_mul_le (by omega)).2 ?_
  omega

theorem countP_or {α : Type} (f g : α → Bool) : ∀ L : List α, L.countP (fun x => f x || g x) ≤ L.countP f + L.countP g
  | [] => by simp
  | x :: L => by
    have ih := countP_or f g L
    simp only [List.countP_cons]
    cases f x <;> cases g x <;> simp <;> omega
theorem countP_any {α β : Type} (f : α → β → Bool) (L : List α) (M : Nat) : ∀ ps : List β, (∀ c ∈ ps, L.countP (fun x => f x c) ≤ M) → L.countP (fun x => ps.any (f x)) ≤ ps.length * M
  | [], _ => by simp
  | c :: ps, h => by
    have ih := countP_any f L M ps fun c hc => h c (by simp [hc])
    have h1 := h c (by simp)
    have h2 := countP_or (fun x => f x c) (fun x => ps.any (f x)) L
    simp only [List.any_cons, List.length_cons]
    rw [Nat.add_mul, Nat.one_mul]
    omega
/-- The pairs of different numbers below n. -/
def pairs : Nat → List (Nat × Nat)
  | 0 => []
  | n + 1 => pairs n ++ (List.range n).map fun i => (i, n)
theorem pairs_length : ∀ n, 2 * (pairs n).length = n * (n - 1)
  | 0 => rfl
  | n + 1 => by
    have ih := pairs_length n
    rw [pairs, List.length_append, List.length_map, List.length_range, Nat.mul_add, ih, Nat.add_sub_cancel]
    cases n with
    | zero => rfl
    | succ n => rw [Nat.add_sub_cancel, Nat.add_mul, Nat.add_mul, Nat.add_mul]; simp only [Nat.mul_add, Nat.one_mul, Nat.mul_one]; omega
theorem mem_pairs {i k : Nat} (hi : i < k) : ∀ n, k < n → (i, k) ∈ pairs n
  | 0, h => by omega
  | n + 1, h => by
    rw [pairs, List.mem_append]
    rcases Nat.lt_or_ge k n with h1 | h1
    · exact .inl (mem_pairs hi n h1)
    · obtain rfl : k = n := by omega
      exact .inr (List.mem_map.2 ⟨i, by simpa using hi, rfl⟩)
theorem pairs_lt : ∀ n c, c ∈ pairs n → c.1 < c.2 ∧ c.2 < n
  | 0, c, h => by simp [pairs] at h
  | n + 1, c, h => by
    rw [pairs, List.mem_append] at h
    rcases h with h | h
    · have := pairs_lt n c h; omega
    · obtain ⟨i, hi, rfl⟩ := List.mem_map.1 h
      have : i < n := by simpa using hi
      exact ⟨this, Nat.lt_succ_self _⟩
end Gf2
