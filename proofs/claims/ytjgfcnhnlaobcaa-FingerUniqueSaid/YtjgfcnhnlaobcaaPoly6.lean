import Derived.Test.YtjgfcnhnlaobcaaPoly4
namespace Gf2
def irrB (p : Nat) : Bool := decide (2 ≤ len p) && (List.range (len p)).all fun i => i == 0 || decide (len p - 1 < 2 * i) || gcd p (frob p i (xr p) ^^^ xr p) == 1
theorem irrB_iff (p : Nat) : irrB p = true ↔ Irr p := by
  by_cases h2 : 2 ≤ len p
  · obtain ⟨d, hd⟩ : ∃ d, len p = d + 1 := ⟨len p - 1, by omega⟩
    rw [irr_iff_half hd (by omega)]
    simp only [irrB, Bool.and_eq_true, List.all_eq_true, List.mem_range, Bool.or_eq_true, beq_iff_eq, decide_eq_true_eq, hd]
    constructor
    · intro ⟨_, h⟩ i h1 h3
      rcases h i (by omega) with (h | h) | h
      · omega
      · omega
      · exact h
    · intro h; refine ⟨by omega, fun i hi => ?_⟩
      by_cases h0 : i = 0
      · exact .inl (.inl h0)
      · by_cases h3 : d < 2 * i
        · exact .inl (.inr (by omega))
        · exact .inr (h i (by omega) (by omega))
  · constructor
    · intro h
      simp [irrB, h2] at h
    · intro h
      exact absurd h.1 h2
theorem irrB_eq {p : Nat} {b : Bool} (h : Irr p ↔ b = true) : irrB p = b := by
  have := (irrB_iff p).trans h
  cases hi : irrB p <;> cases b <;> simp_all
theorem irrB_short {p : Nat} (h : len p < 2) : irrB p = false := irrB_eq ⟨fun hi => absurd hi.1 (by omega), fun h => by cases h⟩
theorem irrB_two {p : Nat} (h : len p = 2) : irrB p = true := by
  refine (irrB_iff p).2 ((irr_iff_half (d := 1) h (Nat.le_refl _)).2 ?_)
  intro i h1 h2; omega
theorem irrB_even {p : Nat} (h : 3 ≤ len p) (he : p % 2 = 0) : irrB p = false := by
  refine irrB_eq ⟨fun hi => ?_, fun h => by cases h⟩
  exfalso
  have hd : Dvd 2 p := ⟨p / 2, by rw [mul_comm, mul_comm, show (2 : Nat) = 2 ^ 1 from rfl, mul_two_pow]; omega⟩
  rcases hi.dvd hd with e | e
  · cases e
  · rw [← e] at h
    have : len 2 = 2 := by decide
    omega
end Gf2
