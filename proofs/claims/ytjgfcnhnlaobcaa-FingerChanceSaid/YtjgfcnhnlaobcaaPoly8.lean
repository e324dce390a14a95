/- The bytes of a number; texts that differ by a multiple of the polynomial. -/
import Derived.Test.YtjgfcnhnlaobcaaPoly7
namespace Gf2

/-- The last n bytes of a number, the greatest first. -/
def bytesOf (n p : Nat) : List Nat := (List.range n).map fun i => p / 2 ^ (8 * (n - 1 - i)) % 256
theorem bytesOf_length (n p : Nat) : (bytesOf n p).length = n := by simp [bytesOf]
theorem bytesOf_lt (n p : Nat) : ∀ x ∈ bytesOf n p, x < 256 := by
  intro x hx
  obtain ⟨i, _, rfl⟩ := List.mem_map.1 hx
  exact Nat.mod_lt _ (by decide)
theorem bytesOf_succ (n p : Nat) : bytesOf (n + 1) p = (p / 2 ^ (8 * n) % 256) :: bytesOf n p := by
  unfold bytesOf
  rw [List.range_succ_eq_map, List.map_cons, List.map_map]
  congr 1
  apply List.map_congr_left
  intro i _
  show p / 2 ^ (8 * (n + 1 - 1 - (i + 1))) % 256 = _
  rw [show n + 1 - 1 - (i + 1) = n - 1 - i by omega]
theorem num_bytesOf (p : Nat) : ∀ n, num (bytesOf n p) = p % 2 ^ (8 * n)
  | 0 => by rw [Nat.mul_zero, Nat.pow_zero, Nat.mod_one]; rfl
  | n + 1 => by
    have h : p % 2 ^ (8 * n) < 2 ^ (8 * n) := Nat.mod_lt _ (Nat.two_pow_pos _)
    rw [bytesOf_succ, num_cons _ _ (bytesOf_lt n p), bytesOf_length, num_bytesOf p n, ← add_eq_xor h, pow_split, Nat.mod_mul, Nat.add_comm]

/-- P20.10: bytes whose number differs by p have the same fingerprint, and are others. -/
theorem fp_twin {p : Nat} (h2 : 2 ≤ len p) (l : List Nat) (hs : len p ≤ 8 * l.length) (hl : ∀ x ∈ l, x < 256) :
    onBytes p 1 (xorL l (bytesOf l.length p)) = onBytes p 1 l ∧ xorL l (bytesOf l.length p) ≠ l := by
  have hp : p ≠ 0 := fun e => by rw [e, len_zero] at h2; omega
  have hlt : p < 2 ^ (8 * l.length) := len_le_iff.1 hs
  have hn : num (xorL l (bytesOf l.length p)) = num l ^^^ p := by
    rw [num_xorL l _ (bytesOf_length _ _).symm hl (bytesOf_lt _ _), num_bytesOf, Nat.mod_eq_of_lt hlt]
  constructor
  · rw [fp_eq h2 _ (xorL_lt _ _ hl (bytesOf_lt _ _)), fp_eq h2 l hl, hn, xorL_length (bytesOf_length _ _).symm, mod_xor _ _ hp, mod_self hp, Nat.xor_zero]
  · intro e
    rw [e] at hn
    exact hp (xor_left_cancel (a := num l) (by rw [Nat.xor_zero]; exact hn.symm))
end Gf2
