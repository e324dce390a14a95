/- Words of the walks: numbers of 64 bits as natural numbers. -/
import Derived.Test.YtjgfcnhnlaobcaaShelf
import Derived.Test.YtjgfcnhnlaobcaaPoly4
import Derived.WalkKit
import Derived.WalkSpells
import Derived.WalkLawsBesides
import Derived.Lib.Hide
namespace Go.Proofs.Ytjgfcnhnlaobcaa
open Go.RowKit

/-- A number of 64 bits. -/
abbrev U (n : Nat) : Value := .int .u64 (n : Int)
abbrev I (n : Int) : Value := .int .i64 n

theorem bitLen_eq (a : Nat) (h : a < 2 ^ 64) : Lib.bitLen a = Gf2.len a := by
  have gen : ∀ f a, a < 2 ^ f → Lib.bitLenAux f a = Gf2.len a := by
    intro f
    induction f with
    | zero => intro a h; have : a = 0 := by simpa using h
              subst this; rfl
    | succ f ih =>
      intro a h
      rw [Lib.bitLenAux]
      split
      · rename_i h0; subst h0; rfl
      · rename_i h0
        rw [ih _ (by rw [Nat.pow_succ] at h; omega)]
        by_cases h1 : a / 2 = 0
        · have : a = 1 := by omega
          subst this; rfl
        · have e := Gf2.len_two_mul h1
          rcases Nat.mod_two_eq_zero_or_one a with hm | hm
          · have : a = 2 * (a / 2) := by omega
            conv => rhs; rw [this]
            omega
          · have : a = 2 * (a / 2) + 1 := by omega
            conv => rhs; rw [this, Gf2.bit_one, Gf2.len_xor_of_lt (by rw [e, Gf2.len_one]; have := Gf2.len_pos h1; omega)]
            omega
  exact gen 64 a h

theorem wraps_u64 (n : Int) (h₀ : 0 ≤ n) (h₁ : n < 2 ^ 64) : IntKind.u64.wrap n = n := IntWalk.u64_in n (by omega)
theorem and_u64 {a b : Nat} (ha : a < 2 ^ 64) (hb : b < 2 ^ 64) : bits .and .u64 a b = ((a &&& b : Nat) : Int) := (bits_nat .u64 64 (by decide) wraps_u64 a b ha hb).1
theorem or_u64 {a b : Nat} (ha : a < 2 ^ 64) (hb : b < 2 ^ 64) : bits .or .u64 a b = ((a ||| b : Nat) : Int) := (bits_nat .u64 64 (by decide) wraps_u64 a b ha hb).2
theorem xor_u64 {a b : Nat} (ha : a < 2 ^ 64) (hb : b < 2 ^ 64) : bits .xor .u64 a b = ((a ^^^ b : Nat) : Int) := by
  have ha' : a % 2 ^ 64 = a := Nat.mod_eq_of_lt ha
  have hb' : b % 2 ^ 64 = b := Nat.mod_eq_of_lt hb
  show IntKind.u64.wrap (((BitVec.ofInt 64 (a : Int)) ^^^ (BitVec.ofInt 64 (b : Int))).toNat : Int) = _
  rw [BitVec.toNat_xor, BitVec.ofInt_natCast, BitVec.ofInt_natCast, BitVec.toNat_ofNat, BitVec.toNat_ofNat, ha', hb']
  exact wraps_u64 _ (Int.natCast_nonneg _) (by exact_mod_cast Nat.xor_lt_two_pow ha hb)
theorem one_u64 {a : Nat} (ha : a < 2 ^ 64) : bits .and .u64 a 1 = ((a % 2 : Nat) : Int) := by
  have := and_u64 ha (show 1 < 2 ^ 64 by decide)
  rw [Nat.and_one_is_mod] at this
  exact this
theorem shr_cast (a n : Nat) : (a : Int) / 2 ^ n = ((a / 2 ^ n : Nat) : Int) := by simp
theorem shl_u64 {a n : Nat} (h : 2 ^ n * a < 2 ^ 64) : IntKind.u64.wrap ((a : Int) * 2 ^ n) = ((2 ^ n * a : Nat) : Int) := by
  have e : (a : Int) * 2 ^ n = ((2 ^ n * a : Nat) : Int) := by simp [Int.mul_comm]
  rw [e]; exact wraps_u64 _ (Int.natCast_nonneg _) (by exact_mod_cast h)
theorem bit_test {x : Nat} (hx : x < 2 ^ 64) : (bits .and .u64 (x : Int) 1 == 1) = decide (x % 2 = 1) := by
  rw [one_u64 hx]
  rcases Nat.mod_two_eq_zero_or_one x with h | h <;> rw [h] <;> rfl
theorem bit_true {x : Nat} (hx : x < 2 ^ 64) (h : x % 2 = 1) : (bits .and .u64 (x : Int) 1 == 1) = true := by rw [bit_test hx]; simp [h]
theorem bit_false {x : Nat} (hx : x < 2 ^ 64) (h : ¬ x % 2 = 1) : (bits .and .u64 (x : Int) 1 == 1) = false := by rw [bit_test hx]; simp [h]
theorem shr_lt {a n : Nat} (h : a < 2 ^ 64) : a / 2 ^ n < 2 ^ 64 := Nat.lt_of_le_of_lt (Nat.div_le_self _ _) h
theorem len_le_64 {a : Nat} (h : a < 2 ^ 64) : Gf2.len a ≤ 64 := Gf2.len_le_iff.2 h
theorem lt_of_len {a : Nat} (h : Gf2.len a ≤ 64) : a < 2 ^ 64 := Gf2.len_le_iff.1 h
theorem ret_u {a b : Int} (h : a = b) : Ending.returned (.int .u64 a) = .returned (.int .u64 b) := by rw [h]
theorem ret_i {a b : Int} (h : a = b) : Ending.returned (.int .i64 a) = .returned (.int .i64 b) := by rw [h]
theorem u_eq {a b : Int} (h : a = b) : Value.int .u64 a = .int .u64 b := by rw [h]
theorem i_eq {a b : Int} (h : a = b) : Value.int .i64 a = .int .i64 b := by rw [h]
theorem beq_true {a b : Int} (h : a = b) : (a == b) = true := by simp [h]
theorem beq_false {a b : Int} (h : a ≠ b) : (a == b) = false := by simp [h]
end Go.Proofs.Ytjgfcnhnlaobcaa
