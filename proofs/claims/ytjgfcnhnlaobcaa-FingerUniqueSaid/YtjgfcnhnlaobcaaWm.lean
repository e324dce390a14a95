/- Walks: whether a polynomial is irreducible, by the specification. -/
import Derived.Test.YtjgfcnhnlaobcaaWl
import Derived.Test.YtjgfcnhnlaobcaaWe
namespace Go.Proofs.Ytjgfcnhnlaobcaa
open Go.RowKit

theorem halfTest {p d i : Nat} (hd : Gf2.len p = d + 1) (h1 : 1 ≤ d) (hi : d < 2 * i) (h : ∀ j, 1 ≤ j → j < i → Gf2.gcd p (Gf2.frob p j (Gf2.xr p) ^^^ Gf2.xr p) = 1) : Gf2.irrB p = true := by
  refine (Gf2.irrB_iff p).2 ((Gf2.irr_iff_half hd h1).2 fun j h2 h3 => h j h2 (by omega))
theorem halfFail {p d i : Nat} (hd : Gf2.len p = d + 1) (h1 : 1 ≤ d) (hi1 : 1 ≤ i) (hi : 2 * i ≤ d) (h : Gf2.gcd p (Gf2.frob p i (Gf2.xr p) ^^^ Gf2.xr p) ≠ 1) : Gf2.irrB p = false :=
  Gf2.irrB_eq ⟨fun hI => absurd ((Gf2.irr_iff_half hd h1).1 hI i hi1 hi) h, fun e => by cases e⟩

theorem rdegreeN_calls {p n : Nat} (hp : p < 2 ^ 64) (hn : Gf2.len p = n + 1) (w : World) : Calls Try.prog 18 #[U p] w fun e w' => e = .returned (I n) ∧ w = w' := by
  refine (rdegree_calls p hp w).mono ?_
  rintro e w' ⟨rfl, rfl⟩
  exact ⟨by rw [hn]; exact ret_i (by omega), rfl⟩

set_option maxHeartbeats 1600000 in
theorem RIrreducible_calls (p : Nat) (hp : p < 2 ^ 64) (w : World) :
    Calls Try.prog 29 #[U p] w fun e w' => e = .returned (.bool (Gf2.irrB p)) ∧ w = w' := by
  have hl := len_le_64 hp
  by_cases h1 : Gf2.len p < 2
  · rw [Gf2.irrB_short h1]
    have hdeg := rdegree_calls p hp
    have ht : ((Gf2.len p : Int) - 1 < 1) := by omega
    clear h1 hl
    go_enter Try.func29, Try.ntmps29
    go_wp2_with (go_at_call 18; refine (hdeg _).mono ?_; rintro e w1 ⟨rfl, rfl⟩)
    go_ret
    exact ⟨rfl, rfl⟩
  obtain ⟨d, hd⟩ : ∃ n, Gf2.len p = n + 1 := ⟨Gf2.len p - 1, by omega⟩
  have hdeg := rdegreeN_calls hp hd
  have hp0 : p ≠ 0 := fun e => by rw [e, Gf2.len_zero] at hd; omega
  have h3 : 2 ≤ Gf2.len p := by omega
  have ht : ¬ ((d : Int) < 1) := by omega
  have hd63 : d ≤ 63 := by omega
  have hdiv := rdivide2_calls p hp hp0
  obtain ⟨r, hr⟩ : ∃ r, Gf2.irrB p = r := ⟨_, rfl⟩
  rw [hr]
  have Hr := Lib.hid hr
  have Hd := Lib.hid hd
  have Hh := Lib.hid (show 1 ≤ d by omega)
  clear hl h1 hr hd
  go_enter Try.func29, Try.ntmps29
  go_wp2_with (first | (go_at_call 18; refine (hdeg _).mono ?_; rintro e w1 ⟨rfl, rfl⟩) | (go_at_call 68; refine (hdiv _).mono ?_; rintro e w1 ⟨rfl, rfl⟩))
  clear hdeg hdiv
  obtain ⟨x, hx⟩ : ∃ x, Gf2.xr p = x := ⟨_, rfl⟩
  have hxl : Gf2.len x < Gf2.len p := by rw [← hx]; exact Gf2.len_mod_lt 2 hp0
  have hx64 : x < 2 ^ 64 := lt_of_len (by have := len_le_64 hp; omega)
  rw [hx]
  have Hx := Lib.hid hx
  clear hx
  go_loop [6, 7] (fun vy vi => ∃ i : Nat, vi = I i ∧ vy = U (Gf2.frob p (i - 1) x) ∧ 1 ≤ i ∧ i ≤ 64 ∧ ∀ j, 1 ≤ j → j < i → Gf2.gcd p (Gf2.frob p j x ^^^ x) = 1) (fun _ vi => (64 - intOf vi).toNat)
  case atStart => exact ⟨1, rfl, rfl, by omega, by omega, fun j h1 h2 => by omega⟩
  case round =>
    obtain ⟨i, rfl, rfl, hi1, hi64, hall⟩ := hrel
    by_cases hle : 2 * i ≤ d
    · have hfl := Gf2.frob_lt hp0 (i - 1) _ hxl
      have hfl2 := Gf2.frob_lt hp0 i _ hxl
      have hf64 : Gf2.frob p i x < 2 ^ 64 := lt_of_len (by have := len_le_64 hp; omega)
      have hs := Gf2.frob_succ' p (i - 1) x
      rw [show i - 1 + 1 = i by omega] at hs
      have hlt : 2 * (i : Int) ≤ (d : Int) := by omega
      have htm := rtimes_calls p (Gf2.frob p (i - 1) x) (Gf2.frob p (i - 1) x) h3 hp hfl hfl
      rw [← hs] at htm
      have hc : ∀ w, Calls Try.prog 64 #[U p, .int .u64 (bits .xor .u64 (Gf2.frob p i x : Nat) (x : Nat))] w fun e w' => e = .returned (U (Gf2.gcd p (Gf2.frob p i x ^^^ x))) ∧ w = w' := by
        rw [xor_u64 hf64 hx64]
        exact rcommon_calls p _ hp (Nat.xor_lt_two_pow hf64 hx64)
      have hg64 := gcd_lt64 (a := Gf2.frob p i x ^^^ x) hp hp0
      have hg0 := Gf2.gcd_ne_zero (b := Gf2.frob p i x ^^^ x) hp0
      obtain ⟨g, hg⟩ : ∃ g, Gf2.gcd p (Gf2.frob p i x ^^^ x) = g := ⟨_, rfl⟩
      rw [hg] at hc hg64 hg0
      have hdg := rdegree_calls g hg64
      have hlg := Gf2.len_pos hg0
      have hg1 : Gf2.len g = 1 ↔ g = 1 := Gf2.len_eq_one
      by_cases hgo : g = 1
      · have hl1 := hg1.2 hgo
        have hne : ((Gf2.len g : Int) - 1 != 0) = false := by rw [hl1]; rfl
        have hall' : ∀ j, 1 ≤ j → j < i + 1 → Gf2.gcd p (Gf2.frob p j x ^^^ x) = 1 := fun j h1 h2 => by
          rcases Nat.lt_or_ge j i with h | h
          · exact hall j h1 h
          · rw [show j = i by omega, hg, hgo]
        have HA := Lib.hid hall'
        clear hall hall' hgo hg1 hl1 hg hs hfl hfl2 hf64 hg64 hg0 hlg hle
        go_wp2_with (first | (go_at_call 61; refine (htm _).mono ?_; rintro e w1 ⟨rfl, rfl⟩) | (go_at_call 64; refine (hc _).mono ?_; rintro e w1 ⟨rfl, rfl⟩) | (go_at_call 18; refine (hdg _).mono ?_; rintro e w1 ⟨rfl, rfl⟩))
        go_round
        case rel => exact ⟨i + 1, by go_num, by rw [Nat.add_sub_cancel], by omega, by omega, HA.out⟩
        case measure => simp [intOf]; omega
      · have hne : ((Gf2.len g : Int) - 1 != 0) = true := by
          have : Gf2.len g ≠ 1 := fun e => hgo (hg1.1 e)
          simp; omega
        have hf : Gf2.irrB p = false := halfFail Hd.out Hh.out hi1 hle (by rw [Hx.out, hg]; exact hgo)
        rw [Hr.out] at hf
        have HF := Lib.hid hf
        clear hall hgo hg1 hg hs hfl hfl2 hf64 hg64 hg0 hlg hle hf
        go_wp2_with (first | (go_at_call 61; refine (htm _).mono ?_; rintro e w1 ⟨rfl, rfl⟩) | (go_at_call 64; refine (hc _).mono ?_; rintro e w1 ⟨rfl, rfl⟩) | (go_at_call 18; refine (hdg _).mono ?_; rintro e w1 ⟨rfl, rfl⟩))
        go_ret
        exact ⟨by rw [HF.out]; rfl, rfl⟩
    · have hlt : ¬ 2 * (i : Int) ≤ (d : Int) := by omega
      have hf : Gf2.irrB p = true := halfTest Hd.out Hh.out (show d < 2 * i by omega) (by rw [Hx.out]; exact hall)
      rw [Hr.out] at hf
      have HF := Lib.hid hf
      clear hall hle hf
      go_wp2
      go_ret
      exact ⟨by rw [HF.out]; rfl, rfl⟩
end Go.Proofs.Ytjgfcnhnlaobcaa
