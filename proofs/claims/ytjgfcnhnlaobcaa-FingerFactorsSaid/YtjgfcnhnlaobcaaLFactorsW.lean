/- Walk of the law on factors: the program and the reference find the same. -/
import Derived.Test.YtjgfcnhnlaobcaaFr
import Derived.Test.YtjgfcnhnlaobcaaSb
import Derived.Test.YtjgfcnhnlaobcaaWr
import Derived.Test.YtjgfcnhnlaobcaaWp
namespace Go.Proofs.Ytjgfcnhnlaobcaa
open Go.RowKit
open Gf2 (len Irr prodL)

theorem OwnU.sl {w : World} {base : Nat} {v : Value} {l : List Nat} (h : OwnU w base v l) : ∃ a cap, v = .slice a l.length cap ∧ SlAt .u64 w a l := by
  obtain ⟨a, cap, rfl, h2⟩ := h.shape
  refine ⟨a, cap, rfl, ?_⟩
  by_cases hl : l = []
  · exact .inl hl
  · obtain ⟨g, rfl⟩ := h2 hl
    exact h.slAt

set_option maxRecDepth 100000 in
set_option maxHeartbeats 3200000 in
theorem factors_walk (p : Nat) (d : Int) (f : Nat) (i : Int) (hp : p < 2 ^ 64) (hf : f < 2 ^ 64) (w : World) :
    Calls Try.prog 10 #[U p, I d, U f, I i] w fun e w' => e = .returned (.bool true) ∧ Below w.heap.size w w' := by
  have hB : Below w.heap.size w w := Below.refl _ _
  have c29 := RIrreducible_calls p hp
  have c35 := Irreducible_calls p hp
  have c28 := Count_calls d
  have c40 := RCount_calls d
  have c34 := Find_calls d f hf
  have c41 := RFind_calls d f hf
  have c42 := Poly_calls i
  have c43 := RPoly_calls i
  generalize tCount d = tc at *
  generalize tFind d f = tf at *
  generalize tPoly i = tp at *
  generalize Gf2.irrB p = ib at *
  by_cases hp0 : p = 0
  · subst hp0
    have hs : ∀ w : World, SlAt .u64 w none [] := fun w => .inl rfl
    have c39 := fun w => equal64_calls none none 0 0 [] [] w (hs w) (hs w) (by simp) (by simp)
    go_enter Try.func10, Try.ntmps10
    go_wp2_with (first
      | (go_at_call 14; refine (sane_calls _).mono ?_; rintro e w1 ⟨rfl, hb⟩; replace hB := hB.trans (hb.mono hB.size); clear hb)
      | (go_at_call 37; refine (Factors_zero _).mono ?_; rintro e w1 ⟨rfl, rfl⟩)
      | (go_at_call 38; refine (RFactors_zero _).mono ?_; rintro e w1 ⟨rfl, rfl⟩)
      | (go_at_call 29; refine (c29 _).mono ?_; rintro e w1 ⟨rfl, rfl⟩)
      | (go_at_call 35; refine (c35 _).mono ?_; rintro e w1 ⟨rfl, hb⟩; replace hB := hB.trans (hb.mono hB.size); clear hb)
      | (go_at_call 39; refine (c39 _).mono ?_; rintro e w1 ⟨rfl, n, rfl⟩; replace hB := below_drewN hB n)
      | (go_at_call 28; refine (c28 _).mono ?_; rintro e w1 ⟨rfl, hb⟩; replace hB := hB.trans (hb.mono hB.size); clear hb)
      | (go_at_call 40; refine (c40 _).mono ?_; rintro e w1 ⟨rfl, rfl⟩)
      | (go_at_call 34; refine (c34 _).mono ?_; rintro e w1 ⟨rfl, hb⟩; replace hB := hB.trans (hb.mono hB.size); clear hb)
      | (go_at_call 41; refine (c41 _).mono ?_; rintro e w1 ⟨rfl, rfl⟩)
      | (go_at_call 42; refine (c42 _).mono ?_; rintro e w1 ⟨rfl, hb⟩; replace hB := hB.trans (hb.mono hB.size); clear hb)
      | (go_at_call 43; refine (c43 _).mono ?_; rintro e w1 ⟨rfl, rfl⟩))
    go_ret
    exact ⟨by simp, hB⟩
  · have c37 := Factors_calls p hp hp0
    have c38 := RFactors_calls p hp hp0
    have hlen := facL_length hp0 hp
    generalize facL p = l at *
    clear hp0
    go_enter Try.func10, Try.ntmps10
    go_wp2_with (first
      | (go_at_call 14; refine (sane_calls _).mono ?_; rintro e w1 ⟨rfl, hb⟩; replace hB := hB.trans (hb.mono hB.size); clear hb)
      | (go_at_call 37; refine (c37 _).mono ?_; rintro e w1 ⟨v1, rfl, own1, hb⟩; replace hB := hB.trans (hb.mono hB.size); clear hb)
      | (go_at_call 38; refine (c38 _).mono ?_; rintro e w1 ⟨v2, rfl, own2, hb⟩; replace hB := hB.trans (hb.mono hB.size)
         replace own1 := own1.below hb
         clear hb
         obtain ⟨a1, cap1, rfl, sl1⟩ := own1.sl
         obtain ⟨a2, cap2, rfl, sl2⟩ := own2.sl)
      | (go_at_call 29; refine (c29 _).mono ?_; rintro e w1 ⟨rfl, rfl⟩)
      | (go_at_call 35; refine (c35 _).mono ?_; rintro e w1 ⟨rfl, hb⟩; replace hB := hB.trans (hb.mono hB.size)
         have sl1b := sl1.below' hb
         have sl2b := sl2.below' hb
         clear hb)
      | (go_at_call 39; refine (equal64_calls a1 a2 cap1 cap2 l l _ sl1b sl2b (by omega) (by omega)).mono ?_; rintro e w1 ⟨rfl, n, rfl⟩; replace hB := below_drewN hB n)
      | (go_at_call 28; refine (c28 _).mono ?_; rintro e w1 ⟨rfl, hb⟩; replace hB := hB.trans (hb.mono hB.size); clear hb)
      | (go_at_call 40; refine (c40 _).mono ?_; rintro e w1 ⟨rfl, rfl⟩)
      | (go_at_call 34; refine (c34 _).mono ?_; rintro e w1 ⟨rfl, hb⟩; replace hB := hB.trans (hb.mono hB.size); clear hb)
      | (go_at_call 41; refine (c41 _).mono ?_; rintro e w1 ⟨rfl, rfl⟩)
      | (go_at_call 42; refine (c42 _).mono ?_; rintro e w1 ⟨rfl, hb⟩; replace hB := hB.trans (hb.mono hB.size); clear hb)
      | (go_at_call 43; refine (c43 _).mono ?_; rintro e w1 ⟨rfl, rfl⟩))
    go_ret
    exact ⟨by simp, hB⟩
end Go.Proofs.Ytjgfcnhnlaobcaa
