/- Walk of the first law: arithmetic agrees with the specification. -/
import Derived.Test.YtjgfcnhnlaobcaaSb
namespace Go.Proofs.Ytjgfcnhnlaobcaa
open Go.RowKit

set_option maxRecDepth 100000 in
set_option maxHeartbeats 3200000 in
theorem arith_walk (p a b : Nat) (n : Int) (hp : p < 2 ^ 64) (ha : a < 2 ^ 64) (hb : b < 2 ^ 64) (hn : n < 2 ^ 63) (w : World) :
    Calls Try.prog 3 #[U p, U a, U b, I n] w fun e w' => e = .returned (.bool true) ∧ Below w.heap.size w w' := by
  have hB : Below w.heap.size w w := Below.refl _ _
  have c15 := Times_calls p a b hp ha hb
  have c16 := RTimes_calls p a b hp ha hb
  generalize tTimes p a b = r1 at *
  have c17 := degree_calls a ha
  have c18 := rdegree_calls a ha
  generalize Gf2.len a = la at *
  have c19 := common_calls a b ha hb
  have c20 := RCommon_calls a b ha hb
  generalize Gf2.gcd a b = g at *
  have c21 := Power_calls p n hp hn
  have c22 := RPower_calls p n hp hn
  generalize tPower p n = r2 at *
  have c23 := Divide_calls a b ha hb
  have c24 := RDivide_calls a b ha hb
  generalize tDivide a b = r3 at *
  obtain ⟨r11, r12⟩ := r1
  obtain ⟨r21, r22⟩ := r2
  obtain ⟨r31, r32, r33⟩ := r3
  dsimp only at c15 c16 c21 c22 c23 c24
  clear hp ha hb hn
  go_enter Try.func3, Try.ntmps3
  go_wp2_with (first
    | (go_at_call 14; refine (sane_calls _).mono ?_; rintro e w1 ⟨rfl, hb⟩; replace hB := hB.trans (hb.mono hB.size); clear hb)
    | (go_at_call 15; refine (c15 _).mono ?_; rintro e w1 ⟨rfl, hb⟩; replace hB := hB.trans (hb.mono hB.size); clear hb)
    | (go_at_call 16; refine (c16 _).mono ?_; rintro e w1 ⟨rfl, rfl⟩)
    | (go_at_call 17; refine (c17 _).mono ?_; rintro e w1 ⟨rfl, rfl⟩)
    | (go_at_call 18; refine (c18 _).mono ?_; rintro e w1 ⟨rfl, rfl⟩)
    | (go_at_call 19; refine (c19 _).mono ?_; rintro e w1 ⟨rfl, rfl⟩)
    | (go_at_call 20; refine (c20 _).mono ?_; rintro e w1 ⟨rfl, rfl⟩)
    | (go_at_call 21; refine (c21 _).mono ?_; rintro e w1 ⟨rfl, hb⟩; replace hB := hB.trans (hb.mono hB.size); clear hb)
    | (go_at_call 22; refine (c22 _).mono ?_; rintro e w1 ⟨rfl, rfl⟩)
    | (go_at_call 23; refine (c23 _).mono ?_; rintro e w1 ⟨rfl, rfl⟩)
    | (go_at_call 24; refine (c24 _).mono ?_; rintro e w1 ⟨rfl, rfl⟩))
  go_ret
  exact ⟨by simp, hB⟩
end Go.Proofs.Ytjgfcnhnlaobcaa
