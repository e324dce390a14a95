/- Walk: the examples that each law begins with. -/
import Derived.Test.YtjgfcnhnlaobcaaWz
import Derived.Test.YtjgfcnhnlaobcaaWv
import Derived.Test.YtjgfcnhnlaobcaaWj
namespace Go.Proofs.Ytjgfcnhnlaobcaa
open Go.RowKit

theorem bytes_lit (w : World) (l : List Nat) (hl : ∀ x ∈ l, x < 256) : BytesAt (w.alloc (.cells (l.map fun x : Nat => Value.int .u8 x).toArray 5)) (some ⟨w.heap.size, 0, none⟩) l := by
  refine ⟨hl, .inr ⟨_, 0, rfl, fun i hi => ?_⟩⟩
  unfold World.cell?
  rw [alloc_new]
  simp [hi]
theorem nums_lit (w : World) (l : List Nat) : SlAt .u64 (w.alloc (.cells (l.map fun x : Nat => Value.int .u64 x).toArray 22)) (some ⟨w.heap.size, 0, none⟩) l := by
  refine .inr ⟨_, 0, rfl, fun i hi => ?_⟩
  unfold World.cell?
  rw [alloc_new]
  simp [hi]

theorem s15 (w : World) : Calls Try.prog 15 #[.int .u64 19, .int .u64 8, .int .u64 2] w fun e w' => e = .returned (.tuple #[.int .u64 3, .int .i64 0]) ∧ Below w.heap.size w w' := by
  have h := Times_calls 19 8 2 (by decide) (by decide) (by decide) w
  rw [show tTimes 19 8 2 = (3, 0) by decide +kernel] at h
  exact h
theorem s21 (w : World) : Calls Try.prog 21 #[.int .u64 19, .int .i64 15] w fun e w' => e = .returned (.tuple #[.int .u64 1, .int .i64 0]) ∧ Below w.heap.size w w' := by
  have h := Power_calls 19 15 (by decide) (by decide) w
  rw [show tPower 19 15 = (1, 0) by decide +kernel] at h
  exact h
theorem s23 (w : World) : Calls Try.prog 23 #[.int .u64 19, .int .u64 11] w fun e w' => e = .returned (.tuple #[.int .u64 2, .int .u64 5, .int .i64 0]) ∧ w = w' := by
  have h := Divide_calls 19 11 (by decide) (by decide) w
  rw [show tDivide 19 11 = (2, 5, 0) by decide +kernel] at h
  exact h
theorem s19 (w : World) : Calls Try.prog 19 #[.int .u64 9, .int .u64 27] w fun e w' => e = .returned (.int .u64 9) ∧ w = w' := by
  have h := common_calls 9 27 (by decide) (by decide) w
  rw [show Gf2.gcd 9 27 = 9 by decide +kernel] at h
  exact h
theorem s17a (w : World) : Calls Try.prog 17 #[.int .u64 0] w fun e w' => e = .returned (.int .i64 (-1)) ∧ w = w' := degree_calls 0 (by decide) w
theorem s17b (w : World) : Calls Try.prog 17 #[.int .u64 19] w fun e w' => e = .returned (.int .i64 4) ∧ w = w' := by
  have h := degree_calls 19 (by decide) w
  rw [show Gf2.len 19 = 5 by decide +kernel] at h
  exact h
theorem s37 (w : World) : Calls Try.prog 37 #[.int .u64 21] w fun e w' => ∃ a cap, e = .returned (.tuple #[.slice a 2 cap, .int .i64 0]) ∧ SlAt .u64 w' a [7, 7] ∧ (∀ x, a = some x → x.block < w'.heap.size) ∧ Below w.heap.size w w' := by
  refine (Factors2_calls 21 7 7 (by decide) (by decide) (Nat.le_refl _) (by decide +kernel) w).mono ?_
  rintro e w' ⟨v, rfl, h1, h2⟩
  obtain ⟨a, cap, rfl, h3, h4⟩ := SlAt.of_owns (l := [7, 7]) h1
  exact ⟨a, cap, rfl, h3, fun x hx => (h4 x hx).2, h2⟩
theorem s28 (w : World) : Calls Try.prog 28 #[.int .i64 63] w fun e w' => e = .returned (.tuple #[.int .i64 146402730743693304, .int .i64 0]) ∧ Below w.heap.size w w' := by
  have h := Count_calls 63 w
  rw [show tCount 63 = (146402730743693304, 0) by decide +kernel] at h
  exact h
theorem s34 (w : World) : Calls Try.prog 34 #[.int .i64 4, .int .u64 20] w fun e w' => e = .returned (.tuple #[.int .u64 25, .int .i64 0]) ∧ Below w.heap.size w w' := by
  have h := Find_calls 4 20 (by decide) w
  rw [show tFind 4 20 = (25, 0) by decide +kernel] at h
  exact h
theorem s35a (w : World) : Calls Try.prog 35 #[.int .u64 19] w fun e w' => e = .returned (.bool true) ∧ Below w.heap.size w w' := by
  have h := Irreducible_calls 19 (by decide) w
  rw [show Gf2.irrB 19 = true by decide +kernel] at h
  exact h
theorem s35b (w : World) : Calls Try.prog 35 #[.int .u64 21] w fun e w' => e = .returned (.bool false) ∧ Below w.heap.size w w' := by
  have h := Irreducible_calls 21 (by decide) w
  rw [show Gf2.irrB 21 = false by decide +kernel] at h
  exact h
theorem s27 (w : World) : Calls Try.prog 27 #[.int .i64 4, .int .i64 2, .int .i64 1] w fun e w' => e = .returned (.tuple #[.int .i64 2, .int .i64 3, .int .i64 0]) ∧ Below w.heap.size w w' := by
  have h := Chance_calls 4 2 1 w
  rw [show tChance 4 2 1 = (2, 3, 0) by decide +kernel] at h
  exact h
theorem s50 (w : World) : Calls Try.prog 50 #[.int .u64 19, .int .u64 5, .int .i64 1, .int .i64 0, .int .u8 0, .int .u8 1] w fun e w' => e = .returned (.tuple #[.int .u64 4, .int .i64 0]) ∧ Below w.heap.size w w' := by
  have h := Change_calls 19 5 1 0 0 1 (by decide) (by decide) (by decide) (by decide) w
  rw [show tChange 19 5 1 0 0 1 = (4, 0) by decide +kernel] at h
  exact h
theorem below_new (w : World) (o : Obj) : Below w.heap.size w (w.alloc o) := (Below.refl _ _).alloc (Nat.le_refl _) _
theorem s30 (w : World) : Calls Try.prog 30 #[.int .u64 19, .slice (some ⟨w.heap.size, 0, none⟩) 2 2] (w.alloc (.cells #[.int .u8 1, .int .u8 0] 5)) fun e w' => e = .returned (.tuple #[.int .u64 7, .int .i64 0]) ∧ Below w.heap.size w w' := by
  have h := Of_calls 19 2 (some ⟨w.heap.size, 0, none⟩) [1, 0] (by decide) _ (bytes_lit w [1, 0] (by decide)) (by decide)
  rw [show tExtend 19 1 [1, 0] = (7, 0) by decide +kernel] at h
  exact h.mono fun e w' ⟨h1, h2⟩ => ⟨h1, (below_new _ _).trans (h2.mono (by simp))⟩
theorem s46 (w : World) : Calls Try.prog 46 #[.int .u64 19, .int .u64 4, .slice (some ⟨w.heap.size, 0, none⟩) 1 1] (w.alloc (.cells #[.int .u8 0] 5)) fun e w' => e = .returned (.tuple #[.int .u64 7, .int .i64 0]) ∧ Below w.heap.size w w' := by
  have h := Extend_calls 19 4 1 (some ⟨w.heap.size, 0, none⟩) [0] (by decide) (by decide) _ (bytes_lit w [0] (by decide)) (by decide)
  rw [show tExtend 19 4 [0] = (7, 0) by decide +kernel] at h
  exact h.mono fun e w' ⟨h1, h2⟩ => ⟨h1, (below_new _ _).trans (h2.mono (by simp))⟩
theorem s31 (w : World) : Calls Try.prog 31 #[.int .u64 19, .slice (some ⟨w.heap.size, 0, none⟩) 1 1] (w.alloc (.cells #[.int .u8 0] 5)) fun e w' => ∃ a cap, e = .returned (.tuple #[.slice a 1 cap, .int .i64 0]) ∧ SlAt .u8 w' a [19] ∧ (∀ x, a = some x → x.block < w'.heap.size) ∧ Below w.heap.size w w' := by
  have h := Twin_calls 19 1 (some ⟨w.heap.size, 0, none⟩) [0] (by decide) _ (bytes_lit w [0] (by decide)) (by decide) (by simp)
  rw [show tTwin 19 [0] = ([19], 0) by decide +kernel] at h
  refine h.mono ?_
  rintro e w' ⟨v, rfl, h1, h2⟩
  obtain ⟨a, cap, rfl, h3, h4⟩ := SlAt.of_owns (l := [19]) h1
  exact ⟨a, cap, rfl, h3, fun x hx => (h4 x hx).2, (below_new _ _).trans (h2.mono (by simp))⟩
theorem s39 (a : Option Addr) (cap : Nat) (w : World) (h : SlAt .u64 w a [7, 7]) (hb : ∀ x, a = some x → x.block < w.heap.size) :
    Calls Try.prog 39 #[.slice a 2 cap, .slice (some ⟨w.heap.size, 0, none⟩) 2 2] (w.alloc (.cells #[.int .u64 7, .int .u64 7] 22)) fun e w' => e = .returned (.bool true) ∧ Below w.heap.size w w' := by
  have h := equal64_calls a (some ⟨w.heap.size, 0, none⟩) cap 2 [7, 7] [7, 7] _ (h.below (below_new w (.cells #[.int .u64 7, .int .u64 7] 22)) hb) (nums_lit w [7, 7]) (by decide) (by decide)
  exact h.mono fun e w' ⟨h1, n, h2⟩ => ⟨h1, h2 ▸ below_drewN (below_new _ _) n⟩
theorem s32 (a : Option Addr) (cap : Nat) (w : World) (h : SlAt .u8 w a [19]) (hb : ∀ x, a = some x → x.block < w.heap.size) :
    Calls Try.prog 32 #[.slice a 1 cap, .slice (some ⟨w.heap.size, 0, none⟩) 1 1] (w.alloc (.cells #[.int .u8 19] 5)) fun e w' => e = .returned (.bool true) ∧ Below w.heap.size w w' := by
  have h := equal8_calls a (some ⟨w.heap.size, 0, none⟩) cap 1 [19] [19] _ (h.below (below_new w (.cells #[.int .u8 19] 5)) hb) (bytes_lit w [19] (by decide)).2 (by decide) (by decide)
  exact h.mono fun e w' ⟨h1, n, h2⟩ => ⟨h1, h2 ▸ below_drewN (below_new _ _) n⟩

theorem bytes_old {w : World} {a : Option Addr} {l : List Nat} (h : BytesAt w a l) (hb : ∀ x, a = some x → x.block < w.heap.size) (o : Obj) : BytesAt (w.alloc o) a l ∧ (∀ x, a = some x → x.block < (w.alloc o).heap.size) :=
  ⟨h.below (below_new w o) hb, fun x hx => by have := hb x hx; simp; omega⟩
theorem bytes_lit' (w : World) (l : List Nat) (hl : ∀ x ∈ l, x < 256) : BytesAt (w.alloc (.cells (l.map fun x : Nat => Value.int .u8 x).toArray 5)) (some ⟨w.heap.size, 0, none⟩) l ∧ (∀ x, some (⟨w.heap.size, 0, none⟩ : Addr) = some x → x.block < (w.alloc (.cells (l.map fun x : Nat => Value.int .u8 x).toArray 5)).heap.size) :=
  ⟨bytes_lit w l hl, fun x hx => by cases hx; simp⟩

def W36 (w : World) : World := ((((w.alloc (.cells #[.int .u8 0] 5)).alloc (.cells #[.int .u8 19] 5)).alloc (.cells #[.int .u8 0] 5)).alloc (.cells #[.slice (some ⟨w.heap.size, 0, none⟩) 1 1, .slice (some ⟨w.heap.size + 1, 0, none⟩) 1 1, .slice (some ⟨w.heap.size + 1 + 1, 0, none⟩) 1 1] 35))
theorem W36_size (w : World) : (W36 w).heap.size = w.heap.size + 4 := by unfold W36; simp
theorem W36_texts (w : World) : TextsAt (W36 w) (some ⟨w.heap.size + 1 + 1 + 1, 0, none⟩) [[0], [19], [0]] := by
  have a1 := bytes_lit' w [0] (by decide)
  have a2 := bytes_old a1.1 a1.2 (.cells #[.int .u8 19] 5)
  have a3 := bytes_old a2.1 a2.2 (.cells #[.int .u8 0] 5)
  have a4 := bytes_old a3.1 a3.2 (.cells #[.slice (some ⟨w.heap.size, 0, none⟩) 1 1, .slice (some ⟨w.heap.size + 1, 0, none⟩) 1 1, .slice (some ⟨w.heap.size + 1 + 1, 0, none⟩) 1 1] 35)
  have b1 := bytes_lit' (w.alloc (.cells #[.int .u8 0] 5)) [19] (by decide)
  have b2 := bytes_old b1.1 b1.2 (.cells #[.int .u8 0] 5)
  have b3 := bytes_old b2.1 b2.2 (.cells #[.slice (some ⟨w.heap.size, 0, none⟩) 1 1, .slice (some ⟨w.heap.size + 1, 0, none⟩) 1 1, .slice (some ⟨w.heap.size + 1 + 1, 0, none⟩) 1 1] 35)
  have c1 := bytes_lit' ((w.alloc (.cells #[.int .u8 0] 5)).alloc (.cells #[.int .u8 19] 5)) [0] (by decide)
  have c2 := bytes_old c1.1 c1.2 (.cells #[.slice (some ⟨w.heap.size, 0, none⟩) 1 1, .slice (some ⟨w.heap.size + 1, 0, none⟩) 1 1, .slice (some ⟨w.heap.size + 1 + 1, 0, none⟩) 1 1] 35)
  have hn := alloc_new (((w.alloc (.cells #[.int .u8 0] 5)).alloc (.cells #[.int .u8 19] 5)).alloc (.cells #[.int .u8 0] 5)) (.cells #[.slice (some ⟨w.heap.size, 0, none⟩) 1 1, .slice (some ⟨w.heap.size + 1, 0, none⟩) 1 1, .slice (some ⟨w.heap.size + 1 + 1, 0, none⟩) 1 1] 35)
  simp only [World.size_alloc] at hn b1 b2 b3 c1 c2
  refine .inr ⟨_, 0, rfl, fun i hi => ?_⟩
  have hc : ∀ i, (W36 w).cell? ⟨w.heap.size + 1 + 1 + 1, 0 + i, none⟩ = #[Value.slice (some ⟨w.heap.size, 0, none⟩) 1 1, .slice (some ⟨w.heap.size + 1, 0, none⟩) 1 1, .slice (some ⟨w.heap.size + 1 + 1, 0, none⟩) 1 1][i]? := fun i => by
    unfold World.cell?
    rw [W36, hn, Nat.zero_add]
    rfl
  rw [hc i]
  obtain rfl | rfl | rfl : i = 0 ∨ i = 1 ∨ i = 2 := by simp at hi; omega
  · exact ⟨_, _, rfl, a4.1⟩
  · exact ⟨_, _, rfl, b3.1⟩
  · exact ⟨_, _, rfl, c2.1⟩
theorem W36_below (w : World) : Below w.heap.size w (W36 w) := by unfold W36; (repeat' (first | exact Below.refl _ _ | refine Below.drew ?_ | refine below_drewN ?_ _ | refine Below.alloc ?_ (by simp <;> omega) _ | refine Below.setCell ?_ (by simp <;> omega) _))
theorem s36 (w : World) : Calls Try.prog 36 #[.int .u64 19, .slice (some ⟨w.heap.size + 1 + 1 + 1, 0, none⟩) 3 3] (W36 w) fun e w' => e = .returned (.tuple #[.int .i64 0, .int .i64 1, .bool true, .int .i64 0]) ∧ Below w.heap.size w w' := by
  have h := Colliding_calls 19 (some ⟨w.heap.size + 1 + 1 + 1, 0, none⟩) 3 [[0], [19], [0]] (by decide) (by decide) (by decide) _ (W36_texts w)
  rw [show tColliding 19 [[0], [19], [0]] = (0, 1, true, 0) by decide +kernel] at h
  exact h.mono fun e w' ⟨h1, h2⟩ => ⟨h1, (W36_below w).trans (h2.mono (by rw [W36_size]; omega))⟩

def W26 (w : World) : World := (((w.alloc (.cells #[.int .u8 0] 5)).alloc (.cells #[.int .u8 19] 5)).alloc (.cells #[.slice (some ⟨w.heap.size, 0, none⟩) 1 1, .slice (some ⟨w.heap.size + 1, 0, none⟩) 1 1] 35))
theorem W26_size (w : World) : (W26 w).heap.size = w.heap.size + 3 := by unfold W26; simp
theorem W26_texts (w : World) : TextsAt (W26 w) (some ⟨w.heap.size + 1 + 1, 0, none⟩) [[0], [19]] := by
  have a1 := bytes_lit' w [0] (by decide)
  have a2 := bytes_old a1.1 a1.2 (.cells #[.int .u8 19] 5)
  have a3 := bytes_old a2.1 a2.2 (.cells #[.slice (some ⟨w.heap.size, 0, none⟩) 1 1, .slice (some ⟨w.heap.size + 1, 0, none⟩) 1 1] 35)
  have b1 := bytes_lit' (w.alloc (.cells #[.int .u8 0] 5)) [19] (by decide)
  have b2 := bytes_old b1.1 b1.2 (.cells #[.slice (some ⟨w.heap.size, 0, none⟩) 1 1, .slice (some ⟨w.heap.size + 1, 0, none⟩) 1 1] 35)
  have hn := alloc_new ((w.alloc (.cells #[.int .u8 0] 5)).alloc (.cells #[.int .u8 19] 5)) (.cells #[.slice (some ⟨w.heap.size, 0, none⟩) 1 1, .slice (some ⟨w.heap.size + 1, 0, none⟩) 1 1] 35)
  simp only [World.size_alloc] at hn b1 b2
  refine .inr ⟨_, 0, rfl, fun i hi => ?_⟩
  have hc : ∀ i, (W26 w).cell? ⟨w.heap.size + 1 + 1, 0 + i, none⟩ = #[Value.slice (some ⟨w.heap.size, 0, none⟩) 1 1, .slice (some ⟨w.heap.size + 1, 0, none⟩) 1 1][i]? := fun i => by
    unfold World.cell?
    rw [W26, hn, Nat.zero_add]
    rfl
  rw [hc i]
  obtain rfl | rfl : i = 0 ∨ i = 1 := by simp at hi; omega
  · exact ⟨_, _, rfl, a3.1⟩
  · exact ⟨_, _, rfl, b2.1⟩
theorem W26_below (w : World) : Below w.heap.size w (W26 w) := by unfold W26; (repeat' (first | exact Below.refl _ _ | refine Below.drew ?_ | refine below_drewN ?_ _ | refine Below.alloc ?_ (by simp <;> omega) _ | refine Below.setCell ?_ (by simp <;> omega) _))
theorem s26 (w : World) : Calls Try.prog 26 #[.int .i64 4, .slice (some ⟨w.heap.size + 1 + 1, 0, none⟩) 2 2] (W26 w) fun e w' => e = .returned (.tuple #[.int .i64 1, .int .i64 0]) ∧ Below w.heap.size w w' := by
  have h := Bad_calls 4 (some ⟨w.heap.size + 1 + 1, 0, none⟩) 2 [[0], [19]] (by decide) (by decide) _ (W26_texts w)
  rw [show tBad 4 [[0], [19]] = (1, 0) by decide +kernel] at h
  exact h.mono fun e w' ⟨h1, h2⟩ => ⟨h1, (W26_below w).trans (h2.mono (by rw [W26_size]; omega))⟩
end Go.Proofs.Ytjgfcnhnlaobcaa
