/- What a law is told of a number that came in. -/
import Derived.Test.YtjgfcnhnlaobcaaBase
namespace Go.Proofs.Ytjgfcnhnlaobcaa
theorem u64_nat {a : Int} (h : (Lit.int .u64 a).wf = true) : ∃ n : Nat, a = n ∧ n < 2 ^ 64 := by
  have h1 : decide (IntKind.u64.min ≤ a) = true ∧ decide (a ≤ IntKind.u64.max) = true := by simpa [Lit.wf] using h
  have h2 : IntKind.u64.min ≤ a := of_decide_eq_true h1.1
  have h3 : a ≤ IntKind.u64.max := of_decide_eq_true h1.2
  rw [show IntKind.u64.min = 0 by decide] at h2
  rw [show IntKind.u64.max = 18446744073709551615 by decide] at h3
  exact ⟨a.toNat, by omega, by omega⟩
theorem i64_lt {a : Int} (h : (Lit.int .i64 a).wf = true) : -(2 ^ 63) ≤ a ∧ a < 2 ^ 63 := by
  have h1 : decide (IntKind.i64.min ≤ a) = true ∧ decide (a ≤ IntKind.i64.max) = true := by simpa [Lit.wf] using h
  have h2 : IntKind.i64.min ≤ a := of_decide_eq_true h1.1
  have h3 : a ≤ IntKind.i64.max := of_decide_eq_true h1.2
  rw [show IntKind.i64.min = -9223372036854775808 by decide] at h2
  rw [show IntKind.i64.max = 9223372036854775807 by decide] at h3
  omega
theorem u8_nat {a : Int} (h : (Lit.int .u8 a).wf = true) : ∃ n : Nat, a = n ∧ n < 256 := by
  have h1 : decide (IntKind.u8.min ≤ a) = true ∧ decide (a ≤ IntKind.u8.max) = true := by simpa [Lit.wf] using h
  have h2 : IntKind.u8.min ≤ a := of_decide_eq_true h1.1
  have h3 : a ≤ IntKind.u8.max := of_decide_eq_true h1.2
  rw [show IntKind.u8.min = 0 by decide] at h2
  rw [show IntKind.u8.max = 255 by decide] at h3
  exact ⟨a.toNat, by omega, by omega⟩
end Go.Proofs.Ytjgfcnhnlaobcaa
