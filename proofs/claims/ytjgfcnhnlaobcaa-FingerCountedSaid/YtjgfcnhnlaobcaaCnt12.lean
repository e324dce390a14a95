/- How many irreducible polynomials of a small degree there are: counted by the kernel. -/
import Derived.Test.YtjgfcnhnlaobcaaWq
namespace Go.Proofs.Ytjgfcnhnlaobcaa
theorem irr_count_1 : (irrFrom 1 0).length = cnt 1 := by decide +kernel
theorem irr_count_2 : (irrFrom 2 0).length = cnt 2 := by decide +kernel
theorem irr_count_3 : (irrFrom 3 0).length = cnt 3 := by decide +kernel
theorem irr_count_4 : (irrFrom 4 0).length = cnt 4 := by decide +kernel
theorem irr_count_5 : (irrFrom 5 0).length = cnt 5 := by decide +kernel
theorem irr_count_6 : (irrFrom 6 0).length = cnt 6 := by decide +kernel
theorem irr_count_7 : (irrFrom 7 0).length = cnt 7 := by decide +kernel
theorem irr_count_8 : (irrFrom 8 0).length = cnt 8 := by decide +kernel
theorem irr_count_9 : (irrFrom 9 0).length = cnt 9 := by decide +kernel
theorem irr_count_10 : (irrFrom 10 0).length = cnt 10 := by decide +kernel
theorem irr_count_11 : (irrFrom 11 0).length = cnt 11 := by decide +kernel
theorem irr_count_12 : (irrFrom 12 0).length = cnt 12 := by decide +kernel
theorem irr_count {d : Nat} (h1 : 1 ≤ d) (h2 : d ≤ 12) : (irrFrom d 0).length = cnt d := by
  obtain rfl | rfl | rfl | rfl | rfl | rfl | rfl | rfl | rfl | rfl | rfl | rfl : d = 1 ∨ d = 2 ∨ d = 3 ∨ d = 4 ∨ d = 5 ∨ d = 6 ∨ d = 7 ∨ d = 8 ∨ d = 9 ∨ d = 10 ∨ d = 11 ∨ d = 12 := by omega
  · exact irr_count_1
  · exact irr_count_2
  · exact irr_count_3
  · exact irr_count_4
  · exact irr_count_5
  · exact irr_count_6
  · exact irr_count_7
  · exact irr_count_8
  · exact irr_count_9
  · exact irr_count_10
  · exact irr_count_11
  · exact irr_count_12
end Go.Proofs.Ytjgfcnhnlaobcaa
