/- Walk of the third law: inverses and powers in a field. -/
import Derived.Test.YtjgfcnhnlaobcaaSb
namespace Go.Proofs.Ytjgfcnhnlaobcaa
open Go.RowKit

theorem powm_succ (p a n : Nat) : Gf2.powm p a (n + 1) = Gf2.mm p a (Gf2.powm p a n) := rfl
theorem times_in (p x y : Nat) (h5 : 5 ≤ Gf2.len p) (hp : p < 2 ^ 64) (hx : Gf2.len x < Gf2.len p) (hy : Gf2.len y < Gf2.len p) (w : World) :
    Calls Try.prog 15 #[U p, U x, U y] w fun e w' => e = .returned (.tuple #[U (Gf2.mm p x y), I 0]) ∧ Below w.heap.size w w' := by
  have hl := len_le_64 hp
  have h := Times_calls p x y hp (lt_of_len (by omega)) (lt_of_len (by omega)) w
  rw [show tTimes p x y = (Gf2.mm p x y, 0) by rw [tTimes, if_neg (by omega), if_neg (by omega)]] at h
  exact h

set_option maxRecDepth 100000 in
set_option maxHeartbeats 3200000 in
theorem field_walk (p a : Nat) (hp : p < 2 ^ 64) (ha : a < 2 ^ 64) (w : World) :
    Calls Try.prog 5 #[U p, U a] w fun e w' => e = .returned (.bool true) ∧ Below w.heap.size w w' := by
  have hB : Below w.heap.size w w := Below.refl _ _
  have hl := len_le_64 hp
  by_cases h5 : Gf2.len p < 5
  · have hd := rdegree_calls p hp
    have ht : (Gf2.len p : Int) - 1 < 4 := by omega
    clear h5 hl ha
    go_enter Try.func5, Try.ntmps5
    go_wp2_with (first
      | (go_at_call 14; refine (sane_calls _).mono ?_; rintro e w1 ⟨rfl, hb⟩; replace hB := hB.trans (hb.mono hB.size); clear hb)
      | (go_at_call 18; refine (hd _).mono ?_; rintro e w1 ⟨rfl, rfl⟩))
    go_ret
    exact ⟨rfl, hB⟩
  obtain ⟨d, hd⟩ : ∃ d, Gf2.len p = d + 1 := ⟨Gf2.len p - 1, by omega⟩
  have hdg := rdegreeN_calls hp hd
  have ht : ¬ (d : Int) < 4 := by omega
  have hirr := RIrreducible_calls p hp
  by_cases hI : Gf2.irrB p = true
  · rw [hI] at hirr
    have hIr := (Gf2.irrB_iff p).1 hI
    have hp0 : p ≠ 0 := hIr.ne_zero
    have hdv := RDivide_calls a p ha hp
    rw [show tDivide a p = (Gf2.pdiv a p, Gf2.pmod a p, 0) by rw [tDivide, if_neg hp0]] at hdv
    have hal : Gf2.len (Gf2.pmod a p) < Gf2.len p := Gf2.len_mod_lt a hp0
    dsimp only at hdv
    generalize Gf2.pmod a p = b at *
    generalize Gf2.pdiv a p = qq at *
    have h2 : 2 ≤ Gf2.len p := by omega
    have hfb := Gf2.fermat hIr hd hal
    have hfp := fun h0 => Gf2.fermat_pow hIr hd hal h0
    have HFB := Lib.hid hfb
    have HFP := Lib.hid hfp
    have hti := fun x y => times_in p x y (by omega) hp
    have hpl : ∀ k, Gf2.len (Gf2.powm p b k) < Gf2.len p := Gf2.powm_lt h2 b
    have hfl : ∀ k, Gf2.len (Gf2.frob p k b) < Gf2.len p := fun k => Gf2.frob_lt hp0 k b hal
    have hp2 := fun k => Gf2.powm_two_pow h2 hal k
    have hpa := Gf2.powm_add h2 b
    have HP2 := Lib.hid hp2
    have HPA := Lib.hid hpa
    have HD := Lib.hid hd
    have hd63 : d ≤ 63 := by omega
    have hd4 : 4 ≤ d := by omega
    have HTI := Lib.hid hti
    have HPL := Lib.hid hpl
    have HFL := Lib.hid hfl
    clear hfb hfp hp2 hpa hI hIr h5 hl ha hd hti hpl hfl
    go_enter Try.func5, Try.ntmps5
    go_wp2_with (first
      | (go_at_call 14; refine (sane_calls _).mono ?_; rintro e w1 ⟨rfl, hb⟩; replace hB := hB.trans (hb.mono hB.size); clear hb)
      | (go_at_call 18; refine (hdg _).mono ?_; rintro e w1 ⟨rfl, rfl⟩)
      | (go_at_call 29; refine (hirr _).mono ?_; rintro e w1 ⟨rfl, rfl⟩)
      | (go_at_call 24; refine (hdv _).mono ?_; rintro e w1 ⟨rfl, rfl⟩))
    clear hdg hirr hdv
    go_loopg [6, 7, 35] d (fun g vs vi vk wr => ∃ k : Nat, vk = I k ∧ k + g = d ∧ vs = U (Gf2.frob p k b) ∧ vi = U (Gf2.powm p b (2 ^ k - 2)) ∧ Below w.heap.size w wr)
    case atStart => exact ⟨0, rfl, by omega, rfl, rfl, hB⟩
    case round =>
      clear hB
      obtain ⟨k, rfl, hkg, rfl, rfl, hB⟩ := hrel
      cases gk with
      | zero =>
        have hk : k = d := by omega
        subst hk
        have hlast := HTI.out b (Gf2.powm p b (2 ^ k - 2)) hal (HPL.out _)
        have hpos : 2 ^ k - 2 + 1 = 2 ^ k - 1 := by
          have : 2 ^ 4 ≤ 2 ^ k := Nat.pow_le_pow_right (by decide) hd4
          omega
        have hone : b ≠ 0 → Gf2.mm p b (Gf2.powm p b (2 ^ k - 2)) = 1 := fun h0 => by
          have h1 := HFP.out h0
          rw [← hpos, powm_succ] at h1
          exact h1
        rw [HFB.out]
        generalize Gf2.powm p b (2 ^ k - 2) = iv at *
        clear hpos
        by_cases hb0 : b = 0
        · have hbz : ((b : Int) == 0) = true := by rw [hb0]; rfl
          clear hone hb0
          go_wp2_with (go_at_call 15; refine (hlast _).mono ?_; rintro e w1 ⟨rfl, hb⟩; replace hB := hB.trans (hb.mono hB.size); clear hb)
          go_ret
          exact ⟨rfl, hB⟩
        · rw [hone hb0] at hlast
          have hbz : ((b : Int) == 0) = false := beq_false (by omega)
          clear hone hb0
          go_wp2_with (go_at_call 15; refine (hlast _).mono ?_; rintro e w1 ⟨rfl, hb⟩; replace hB := hB.trans (hb.mono hB.size); clear hb)
          go_ret
          exact ⟨rfl, hB⟩
      | succ g =>
        have hsq := HTI.out (Gf2.frob p k b) (Gf2.frob p k b) (HFL.out k) (HFL.out k)
        rw [← Gf2.frob_succ'] at hsq
        have hin : (k : Int) < (d : Int) := by omega
        by_cases hk0 : k = 0
        · subst hk0
          go_wp2_with (go_at_call 15; refine (hsq _).mono ?_; rintro e w1 ⟨rfl, hb⟩; replace hB := hB.trans (hb.mono hB.size); clear hb)
          go_roundg g
          case measure => omega
          case rel => exact ⟨1, rfl, by omega, rfl, rfl, hB⟩
        · have hmul := HTI.out (Gf2.powm p b (2 ^ k - 2)) (Gf2.frob p k b) (HPL.out _) (HFL.out k)
          have he : Gf2.mm p (Gf2.powm p b (2 ^ k - 2)) (Gf2.frob p k b) = Gf2.powm p b (2 ^ (k + 1) - 2) := by
            rw [← HP2.out k, ← HPA.out]
            congr 1
            have : 2 ^ 1 ≤ 2 ^ k := Nat.pow_le_pow_right (by decide) (by omega)
            rw [Nat.pow_succ]; omega
          rw [he] at hmul
          have hk1 : (0 : Int) < (k : Int) := by omega
          clear he
          go_wp2_with (first
            | (go_at_call 15; refine (hmul _).mono ?_; clear hmul; rintro e w1 ⟨rfl, hb⟩; replace hB := hB.trans (hb.mono hB.size); clear hb)
            | (go_at_call 15; refine (hsq _).mono ?_; rintro e w1 ⟨rfl, hb⟩; replace hB := hB.trans (hb.mono hB.size); clear hb))
          go_roundg g
          case measure => omega
          case rel => exact ⟨k + 1, by go_num, by omega, rfl, rfl, hB⟩
  · have hI' : Gf2.irrB p = false := by simpa using hI
    rw [hI'] at hirr
    clear hI hI' h5 hl ha hd
    go_enter Try.func5, Try.ntmps5
    go_wp2_with (first
      | (go_at_call 14; refine (sane_calls _).mono ?_; rintro e w1 ⟨rfl, hb⟩; replace hB := hB.trans (hb.mono hB.size); clear hb)
      | (go_at_call 18; refine (hdg _).mono ?_; rintro e w1 ⟨rfl, rfl⟩)
      | (go_at_call 29; refine (hirr _).mono ?_; rintro e w1 ⟨rfl, rfl⟩))
    go_ret
    exact ⟨rfl, hB⟩
end Go.Proofs.Ytjgfcnhnlaobcaa
