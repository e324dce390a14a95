/- Walks: a slice of two numbers that are in order is sorted; the factors of a polynomial that has two. -/
import Derived.Test.YtjgfcnhnlaobcaaWy
namespace Go.Proofs.Ytjgfcnhnlaobcaa
open Go.RowKit

theorem isNaN_calls (a : Nat) (w : World) : Calls Try.prog 121 #[U a] w fun e w' => e = .returned (.bool false) ∧ w = w' := by
  go_enter Try.func121, Try.ntmps121
  go_wp2
  go_ret
  exact ⟨rfl, rfl⟩
theorem less_calls (a b : Nat) (w : World) : Calls Try.prog 112 #[U a, U b] w fun e w' => e = .returned (.bool (decide ((a : Int) < (b : Int)))) ∧ w = w' := by
  have ha := isNaN_calls a
  go_enter Try.func112, Try.ntmps112
  go_wp2_with (go_at_call 121; refine (ha _).mono ?_; rintro e w1 ⟨rfl, rfl⟩)
  go_ret
  exact ⟨by simp, rfl⟩

set_option maxHeartbeats 800000 in
theorem isort2_calls (g cap a b : Nat) (hab : a ≤ b) (w : World) (h0 : w.cell? ⟨g, 0, none⟩ = some (U a)) (h1 : w.cell? ⟨g, 1, none⟩ = some (U b)) :
    Calls Try.prog 106 #[.slice (some ⟨g, 0, none⟩) 2 cap, I 0, I 2] w fun e w' => e = .returned (.tuple #[]) ∧ ∃ n, w' = w.drewN n := by
  have hl := less_calls b a
  rw [show decide ((b : Int) < (a : Int)) = false by simp; omega] at hl
  go_enter Try.func106, Try.ntmps106
  go_wp2
  refine wp_loop_rounds 2 ?_
  rw [rounds_succ]
  go_wp2
  refine wp_loop_rounds 1 ?_
  rw [rounds_succ]
  go_wp2_with (go_quiet ((go_at_call 112; exact Calls.quiet_of_same (sw (hl _)))))
  rw [rounds_succ]
  go_wp2
  go_end0
  exact ⟨rfl, _, rfl⟩

set_option maxRecDepth 100000 in
set_option maxHeartbeats 800000 in
theorem pdq2_calls (g cap a b : Nat) (lim : Int) (hab : a ≤ b) (w : World) (h0 : w.cell? ⟨g, 0, none⟩ = some (U a)) (h1 : w.cell? ⟨g, 1, none⟩ = some (U b)) :
    Calls Try.prog 97 #[.slice (some ⟨g, 0, none⟩) 2 cap, I 0, I 2, I lim] w fun e w' => e = .returned (.tuple #[]) ∧ ∃ n, w' = w.drewN n := by
  have hi := isort2_calls g cap a b hab w h0 h1
  clear h0 h1
  go_enter Try.func97, Try.ntmps97
  go_wp2
  refine wp_loop_rounds 1 ?_
  rw [rounds_succ]
  go_wp2_with (go_at_call 106; refine hi.mono ?_; rintro e w1 ⟨rfl, m, rfl⟩)
  refine bodyPost_ret (results_none rfl _ _ _) rfl ?_
  exact ⟨rfl, _, rfl⟩

set_option maxHeartbeats 800000 in
theorem sort2_calls (g cap a b : Nat) (hab : a ≤ b) (w : World) (h0 : w.cell? ⟨g, 0, none⟩ = some (U a)) (h1 : w.cell? ⟨g, 1, none⟩ = some (U b)) :
    Calls Try.prog 79 #[.slice (some ⟨g, 0, none⟩) 2 cap] w fun e w' => e = .returned (.tuple #[]) ∧ ∃ n, w' = w.drewN n := by
  have hi := pdq2_calls g cap a b (Lib.bitLen (2 : Int).toNat) hab w h0 h1
  have hb := Try.bits_Len 2
  clear h0 h1
  go_enter Try.func79, Try.ntmps79
  go_wp2_with (first
    | (go_at_call 98; refine (hb _ (by decide) (by decide)).mono ?_; rintro e w1 ⟨rfl, rfl⟩)
    | (go_at_call 97; refine hi.mono ?_; rintro e w1 ⟨rfl, m, rfl⟩))
  go_end0
  exact ⟨rfl, _, rfl⟩

theorem drewN_below (B : Nat) (w : World) (n : Nat) : Below B w (w.drewN n) := ⟨rfl, rfl, rfl, Nat.le_refl _, fun _ _ => rfl⟩

set_option maxHeartbeats 800000 in
theorem Factors2_calls (p a b : Nat) (hp : p < 2 ^ 64) (hp0 : p ≠ 0) (hab : a ≤ b) (hf : factF 64 p = some [a, b]) (w : World) :
    Calls Try.prog 37 #[U p] w fun e w' => ∃ v, e = .returned (.tuple #[v, I 0]) ∧ OwnU w' w.heap.size v [a, b] ∧ Below w.heap.size w w' := by
  have hfa := factors_calls 64 p [a, b] hp hp0 hf w
  have hpz : ((p : Int) == 0) = false := beq_false (by omega)
  go_enter Try.func37, Try.ntmps37
  go_wp2_with (first
    | (go_at_call 78; refine hfa.mono ?_; rintro e w1 ⟨v, rfl, hown, hb⟩; obtain ⟨g, cap, rfl⟩ := hown.form (by simp))
    | (go_at_call 79; refine (sort2_calls g cap a b hab w1 (by have := World.ownsRow.cells hown (g := g) rfl 0 (U a) rfl; rwa [Addr.add_lit] at this) (by have := World.ownsRow.cells hown (g := g) rfl 1 (U b) rfl; rwa [Addr.add_lit] at this)).mono ?_; rintro e w2 ⟨rfl, m, rfl⟩))
  go_ret2
  exact ⟨_, rfl, hown.below (drewN_below _ _ _), below_drewN hb _⟩
end Go.Proofs.Ytjgfcnhnlaobcaa
