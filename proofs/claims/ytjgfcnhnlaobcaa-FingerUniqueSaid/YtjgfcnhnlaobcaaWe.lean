/- Walks: the arithmetic that the package offers, and that of its specification. -/
import Derived.Test.YtjgfcnhnlaobcaaWd
namespace Go.Proofs.Ytjgfcnhnlaobcaa
open Go.RowKit

set_option maxHeartbeats 400000 in
theorem isPoly_calls (p : Nat) (hp : p < 2 ^ 64) (w : World) :
    Calls Try.prog 56 #[U p] w fun e w' => e = .returned (.bool (decide (5 ≤ Gf2.len p))) ∧ w = w' := by
  have hl := len_le_64 hp
  by_cases h : 5 ≤ Gf2.len p
  · have h1 : (4 : Int) ≤ (Gf2.len p : Int) - 1 := by omega
    have h2 : (Gf2.len p : Int) - 1 ≤ 63 := by omega
    go_enter Try.func56, Try.ntmps56
    go_wp2_with (go_at_call 17; refine (degree_calls p hp _).mono ?_; rintro e w' ⟨rfl, rfl⟩)
    go_ret
    exact ⟨by simp [h], rfl⟩
  · have h1 : ¬ (4 : Int) ≤ (Gf2.len p : Int) - 1 := by omega
    have h2 : decide ((4 : Int) ≤ (Gf2.len p : Int) - 1) = false := by simpa using h1
    go_enter Try.func56, Try.ntmps56
    go_wp2_with (go_at_call 17; refine (degree_calls p hp _).mono ?_; rintro e w' ⟨rfl, rfl⟩)
    go_ret
    exact ⟨by simp [h], rfl⟩

set_option maxHeartbeats 400000 in
theorem fits_calls (p : Nat) (hp : p < 2 ^ 64) (w : World) :
    Calls Try.prog 59 #[U p] w fun e w' => e = .returned (.bool (decide (5 ≤ Gf2.len p))) ∧ w = w' := by
  have hl := len_le_64 hp
  have he : decide ((4 : Int) ≤ (Gf2.len p : Int) - 1) = decide (5 ≤ Gf2.len p) := by
    apply decide_eq_decide.2; omega
  replace he := Lib.hid he
  go_enter Try.func59, Try.ntmps59
  go_wp2_with (go_at_call 18; refine (rdegree_calls p hp _).mono ?_; rintro e w' ⟨rfl, rfl⟩)
  go_ret
  exact ⟨by rw [← he.out]; rfl, rfl⟩

set_option maxHeartbeats 400000 in
theorem rrest_calls (p a : Nat) (hp : p < 2 ^ 64) (ha : a < 2 ^ 64) (w : World) :
    Calls Try.prog 60 #[U p, U a] w fun e w' => e = .returned (.bool (decide (Gf2.len a < Gf2.len p))) ∧ w = w' := by
  have he : decide ((Gf2.len a : Int) - 1 < (Gf2.len p : Int) - 1) = decide (Gf2.len a < Gf2.len p) := by
    apply decide_eq_decide.2; omega
  replace he := Lib.hid he
  go_enter Try.func60, Try.ntmps60
  go_wp2_with (go_at_call 18; refine (rdegree_calls _ (by assumption) _).mono ?_; rintro e w' ⟨rfl, rfl⟩)
  go_ret
  exact ⟨by rw [← he.out]; rfl, rfl⟩

/-- What Times says. -/
def tTimes (p a b : Nat) : Nat × Int := if Gf2.len p < 5 then (0, 200) else if Gf2.len p ≤ Gf2.len a ∨ Gf2.len p ≤ Gf2.len b then (0, 1) else (Gf2.mm p a b, 0)

set_option maxHeartbeats 800000 in
theorem Times_calls (p a b : Nat) (hp : p < 2 ^ 64) (ha : a < 2 ^ 64) (hb : b < 2 ^ 64) (w : World) :
    Calls Try.prog 15 #[U p, U a, U b] w fun e w' => e = .returned (.tuple #[U (tTimes p a b).1, I (tTimes p a b).2]) ∧ Below w.heap.size w w' := by
  by_cases h5 : Gf2.len p < 5
  · have hd : decide (5 ≤ Gf2.len p) = false := by simp; omega
    have ht : tTimes p a b = (0, 200) := by rw [tTimes, if_pos h5]
    have hc := isPoly_calls p hp w
    rw [hd] at hc
    rw [ht]
    clear ht hd
    go_enter Try.func15, Try.ntmps15
    go_wp2_with (go_at_call 56; refine hc.mono ?_; rintro e w' ⟨rfl, rfl⟩)
    go_ret2
    exact ⟨rfl, Below.refl _ _⟩
  · have hd : decide (5 ≤ Gf2.len p) = true := by simp; omega
    have hc := isPoly_calls p hp w
    rw [hd] at hc
    clear hd
    have hr := rest_calls p [a, b] w.heap.size 0 2 hp (by simp [ha, hb]) (by simp) (w.alloc (.cells #[U a, U b] 22)) (by simp) (by
      intro i hi
      obtain rfl | rfl : i = 0 ∨ i = 1 := by simp at hi; omega
      · unfold World.cell?; rw [alloc_new]; rfl
      · unfold World.cell?; rw [alloc_new]; rfl)
    simp only [List.any_cons, List.any_nil, Bool.or_false, List.length_cons, List.length_nil] at hr
    by_cases hab : Gf2.len p ≤ Gf2.len a ∨ Gf2.len p ≤ Gf2.len b
    · have ht : tTimes p a b = (0, 1) := by rw [tTimes, if_neg h5, if_pos hab]
      have hx : (!(decide (Gf2.len p ≤ Gf2.len a) || decide (Gf2.len p ≤ Gf2.len b))) = false := by
        rcases hab with h | h <;> simp [h]
      rw [hx] at hr
      rw [ht]
      clear ht hx hab
      go_enter Try.func15, Try.ntmps15
      go_wp2_with (first | (go_at_call 56; refine hc.mono ?_; rintro e w' ⟨rfl, rfl⟩) | (go_at_call 57; refine hr.mono ?_; rintro e w1 ⟨rfl, hB⟩))
      go_ret2
      exact ⟨rfl, ((Below.refl _ _).alloc (Nat.le_refl _) _).trans (hB.mono (by simp))⟩
    · have ht : tTimes p a b = (Gf2.mm p a b, 0) := by rw [tTimes, if_neg h5, if_neg hab]
      have hx : (!(decide (Gf2.len p ≤ Gf2.len a) || decide (Gf2.len p ≤ Gf2.len b))) = true := by
        simp; omega
      have hla : Gf2.len a < Gf2.len p := by omega
      rw [hx] at hr
      rw [ht]
      clear ht hx hab
      go_enter Try.func15, Try.ntmps15
      go_wp2_with (first | (go_at_call 56; refine hc.mono ?_; rintro e w' ⟨rfl, rfl⟩) | (go_at_call 57; refine hr.mono ?_; rintro e w1 ⟨rfl, hB⟩) | (go_at_call 58; refine (times_calls p a b (by omega) hp hla hb _).mono ?_; rintro e w2 ⟨rfl, rfl⟩))
      go_ret2
      exact ⟨rfl, ((Below.refl _ _).alloc (Nat.le_refl _) _).trans (hB.mono (by simp))⟩
set_option maxHeartbeats 800000 in
theorem RTimes_calls (p a b : Nat) (hp : p < 2 ^ 64) (ha : a < 2 ^ 64) (hb : b < 2 ^ 64) (w : World) :
    Calls Try.prog 16 #[U p, U a, U b] w fun e w' => e = .returned (.tuple #[U (tTimes p a b).1, I (tTimes p a b).2]) ∧ w = w' := by
  have hc := fits_calls p hp w
  by_cases h5 : Gf2.len p < 5
  · have hd : decide (5 ≤ Gf2.len p) = false := by simp; omega
    have ht : tTimes p a b = (0, 200) := by rw [tTimes, if_pos h5]
    rw [hd] at hc
    rw [ht]
    clear ht hd
    go_enter Try.func16, Try.ntmps16
    go_wp2_with (go_at_call 59; refine hc.mono ?_; rintro e w' ⟨rfl, rfl⟩)
    go_ret2
    exact ⟨rfl, rfl⟩
  · have hd : decide (5 ≤ Gf2.len p) = true := by simp; omega
    rw [hd] at hc
    clear hd
    by_cases hla : Gf2.len a < Gf2.len p
    · by_cases hlb : Gf2.len b < Gf2.len p
      · have ht : tTimes p a b = (Gf2.mm p a b, 0) := by rw [tTimes, if_neg h5, if_neg (by omega)]
        rw [ht]
        clear ht
        have hda : decide (Gf2.len a < Gf2.len p) = true := decide_eq_true hla
        have hdb : decide (Gf2.len b < Gf2.len p) = true := decide_eq_true hlb
        go_enter Try.func16, Try.ntmps16
        go_wp2_with (first | (go_at_call 59; refine hc.mono ?_; rintro e w' ⟨rfl, rfl⟩) | (go_at_call 60; refine (rrest_calls _ _ (by assumption) (by assumption) _).mono ?_; rintro e w' ⟨rfl, rfl⟩) | (go_at_call 61; refine (rtimes_calls p a b (by omega) hp hla hlb _).mono ?_; rintro e w2 ⟨rfl, rfl⟩))
        go_ret2
        exact ⟨rfl, rfl⟩
      · have ht : tTimes p a b = (0, 1) := by rw [tTimes, if_neg h5, if_pos (by omega)]
        rw [ht]
        clear ht
        have hda : decide (Gf2.len a < Gf2.len p) = true := decide_eq_true hla
        have hdb : decide (Gf2.len b < Gf2.len p) = false := decide_eq_false hlb
        go_enter Try.func16, Try.ntmps16
        go_wp2_with (first | (go_at_call 59; refine hc.mono ?_; rintro e w' ⟨rfl, rfl⟩) | (go_at_call 60; refine (rrest_calls _ _ (by assumption) (by assumption) _).mono ?_; rintro e w' ⟨rfl, rfl⟩))
        go_ret2
        exact ⟨rfl, rfl⟩
    · have ht : tTimes p a b = (0, 1) := by rw [tTimes, if_neg h5, if_pos (by omega)]
      rw [ht]
      clear ht
      have hda : decide (Gf2.len a < Gf2.len p) = false := decide_eq_false hla
      go_enter Try.func16, Try.ntmps16
      go_wp2_with (first | (go_at_call 59; refine hc.mono ?_; rintro e w' ⟨rfl, rfl⟩) | (go_at_call 60; refine (rrest_calls _ _ (by assumption) (by assumption) _).mono ?_; rintro e w' ⟨rfl, rfl⟩))
      go_ret2
      exact ⟨rfl, rfl⟩

theorem rdivide2_calls (p : Nat) (hp : p < 2 ^ 64) (hp0 : p ≠ 0) (w : World) :
    Calls Try.prog 68 #[.int .u64 2, U p] w fun e w' => e = .returned (.tuple #[U (Gf2.pdiv 2 p), U (Gf2.xr p)]) ∧ w = w' := rdivide_calls 2 p (by decide) hp hp0 w

set_option maxHeartbeats 800000 in
theorem rpower_calls (p n : Nat) (hp2 : 2 ≤ Gf2.len p) (hp : p < 2 ^ 64) (hn : n < 2 ^ 63) (w : World) :
    Calls Try.prog 66 #[U p, I n] w fun e w' => e = .returned (U (Gf2.powm p (Gf2.xr p) n)) ∧ w = w' := by
  have hp0 : p ≠ 0 := fun e => by rw [e, Gf2.len_zero] at hp2; omega
  have hxl : Gf2.len (Gf2.xr p) < Gf2.len p := Gf2.len_mod_lt 2 hp0
  go_enter Try.func66, Try.ntmps66
  go_wp2_with (go_at_call 68; refine (rdivide2_calls p hp hp0 _).mono ?_; rintro e w' ⟨rfl, rfl⟩)
  go_loop [1, 5, 7] (fun vn vo vs => ∃ m o s : Nat, vn = I m ∧ vo = U o ∧ vs = U s ∧ m < 2 ^ 63 ∧ Gf2.len o < Gf2.len p ∧ Gf2.len s < Gf2.len p ∧ Gf2.mm p o (Gf2.powm p s m) = Gf2.powm p (Gf2.xr p) n) (fun vn _ _ => (intOf vn).toNat)
  case atStart => exact ⟨n, 1, Gf2.xr p, rfl, rfl, rfl, hn, by rw [Gf2.len_one]; omega, hxl, Gf2.one_mm (Gf2.powm_lt hp2 _ _)⟩
  case round =>
    obtain ⟨m, o, s, rfl, rfl, rfl, hm, ho, hs, hr⟩ := hrel
    by_cases h0 : m = 0
    · subst h0
      rw [Gf2.powm, Gf2.mm_one ho] at hr
      subst hr
      go_wp2
      go_ret
      exact ⟨rfl, rfl⟩
    · have hpos : (0 : Int) < (m : Int) := by omega
      have hso : Gf2.len (Gf2.mm p s s) < Gf2.len p := Gf2.mm_lt hp0 _ _
      have hoo : Gf2.len (Gf2.mm p o s) < Gf2.len p := Gf2.mm_lt hp0 _ _
      have hsq : ∀ k, Gf2.powm p (Gf2.mm p s s) k = Gf2.powm p s (k + k) := by
        intro k
        induction k with
        | zero => rfl
        | succ k ih => rw [show k + 1 + (k + 1) = (k + k) + 1 + 1 by omega, Gf2.powm, ih, Gf2.powm, Gf2.powm, Gf2.mm_assoc hp0]
      by_cases hb : m % 2 = 1
      · have hmod : ((m : Int) % 2 == 1) = true := beq_true (by omega)
        have HR := Lib.hid (show Gf2.mm p (Gf2.mm p o s) (Gf2.powm p (Gf2.mm p s s) (m / 2)) = Gf2.powm p (Gf2.xr p) n by
          rw [hsq, Gf2.mm_assoc hp0]
          have e : Gf2.mm p s (Gf2.powm p s (m / 2 + m / 2)) = Gf2.powm p s m := by
            conv => rhs; rw [show m = (m / 2 + m / 2) + 1 by omega]
            rfl
          rw [e]; exact hr)
        clear hr hsq hb
        go_wp2_with (go_at_call 61; refine (rtimes_calls p _ s hp2 hp (by assumption) hs _).mono ?_; rintro e w' ⟨rfl, rfl⟩)
        go_round
        case rel => exact ⟨m / 2, _, _, by go_num, rfl, rfl, by omega, hoo, hso, HR.out⟩
        case measure => simp [intOf]; omega
      · have hmod : ((m : Int) % 2 == 1) = false := beq_false (by omega)
        have HR := Lib.hid (show Gf2.mm p o (Gf2.powm p (Gf2.mm p s s) (m / 2)) = Gf2.powm p (Gf2.xr p) n by
          rw [hsq, show m / 2 + m / 2 = m by omega]; exact hr)
        clear hr hsq hb
        go_wp2_with (go_at_call 61; refine (rtimes_calls p _ s hp2 hp (by assumption) hs _).mono ?_; rintro e w' ⟨rfl, rfl⟩)
        go_round
        case rel => exact ⟨m / 2, _, _, by go_num, rfl, rfl, by omega, ho, hso, HR.out⟩
        case measure => simp [intOf]; omega

/-- What Power says. -/
def tPower (p : Nat) (n : Int) : Nat × Int := if Gf2.len p < 5 then (0, 200) else if n < 0 then (0, 1) else (Gf2.powm p (Gf2.xr p) n.toNat, 0)

set_option maxHeartbeats 800000 in
theorem Power_calls (p : Nat) (n : Int) (hp : p < 2 ^ 64) (hn : n < 2 ^ 63) (w : World) :
    Calls Try.prog 21 #[U p, I n] w fun e w' => e = .returned (.tuple #[U (tPower p n).1, I (tPower p n).2]) ∧ Below w.heap.size w w' := by
  have hc := isPoly_calls p hp w
  by_cases h5 : Gf2.len p < 5
  · have hd : decide (5 ≤ Gf2.len p) = false := by simp; omega
    have ht : tPower p n = (0, 200) := by rw [tPower, if_pos h5]
    rw [hd] at hc
    rw [ht]
    clear ht hd
    go_enter Try.func21, Try.ntmps21
    go_wp2_with (go_at_call 56; refine hc.mono ?_; rintro e w' ⟨rfl, rfl⟩)
    go_ret2
    exact ⟨rfl, Below.refl _ _⟩
  · have hd : decide (5 ≤ Gf2.len p) = true := by simp; omega
    rw [hd] at hc
    clear hd
    by_cases h0 : n < 0
    · have ht : tPower p n = (0, 1) := by rw [tPower, if_neg h5, if_pos h0]
      rw [ht]
      clear ht
      go_enter Try.func21, Try.ntmps21
      go_wp2_with (go_at_call 56; refine hc.mono ?_; rintro e w' ⟨rfl, rfl⟩)
      go_ret2
      exact ⟨rfl, Below.refl _ _⟩
    · have ht : tPower p n = (Gf2.powm p (Gf2.xr p) n.toNat, 0) := by rw [tPower, if_neg h5, if_neg h0]
      rw [ht]
      clear ht
      obtain ⟨m, rfl⟩ := Int.eq_ofNat_of_zero_le (show 0 ≤ n by omega)
      rw [Int.toNat_natCast]
      have hm : m < 2 ^ 63 := by omega
      clear hn h0
      go_enter Try.func21, Try.ntmps21
      go_wp2_with (first | (go_at_call 56; refine hc.mono ?_; rintro e w' ⟨rfl, rfl⟩) | (go_at_call 65; refine (power_calls p m (by omega) hp hm _).mono ?_; rintro e w1 ⟨rfl, hB⟩))
      go_ret2
      exact ⟨rfl, hB⟩

set_option maxHeartbeats 800000 in
theorem RPower_calls (p : Nat) (n : Int) (hp : p < 2 ^ 64) (hn : n < 2 ^ 63) (w : World) :
    Calls Try.prog 22 #[U p, I n] w fun e w' => e = .returned (.tuple #[U (tPower p n).1, I (tPower p n).2]) ∧ w = w' := by
  have hc := fits_calls p hp w
  by_cases h5 : Gf2.len p < 5
  · have hd : decide (5 ≤ Gf2.len p) = false := by simp; omega
    have ht : tPower p n = (0, 200) := by rw [tPower, if_pos h5]
    rw [hd] at hc
    rw [ht]
    clear ht hd
    go_enter Try.func22, Try.ntmps22
    go_wp2_with (go_at_call 59; refine hc.mono ?_; rintro e w' ⟨rfl, rfl⟩)
    go_ret2
    exact ⟨rfl, rfl⟩
  · have hd : decide (5 ≤ Gf2.len p) = true := by simp; omega
    rw [hd] at hc
    clear hd
    by_cases h0 : n < 0
    · have ht : tPower p n = (0, 1) := by rw [tPower, if_neg h5, if_pos h0]
      rw [ht]
      clear ht
      go_enter Try.func22, Try.ntmps22
      go_wp2_with (go_at_call 59; refine hc.mono ?_; rintro e w' ⟨rfl, rfl⟩)
      go_ret2
      exact ⟨rfl, rfl⟩
    · have ht : tPower p n = (Gf2.powm p (Gf2.xr p) n.toNat, 0) := by rw [tPower, if_neg h5, if_neg h0]
      rw [ht]
      clear ht
      obtain ⟨m, rfl⟩ := Int.eq_ofNat_of_zero_le (show 0 ≤ n by omega)
      rw [Int.toNat_natCast]
      have hm : m < 2 ^ 63 := by omega
      clear hn h0
      go_enter Try.func22, Try.ntmps22
      go_wp2_with (first | (go_at_call 59; refine hc.mono ?_; rintro e w' ⟨rfl, rfl⟩) | (go_at_call 66; refine (rpower_calls p m (by omega) hp hm _).mono ?_; rintro e w1 ⟨rfl, rfl⟩))
      go_ret2
      exact ⟨rfl, rfl⟩

/-- What Divide says. -/
def tDivide (a b : Nat) : Nat × Nat × Int := if b = 0 then (0, 0, 1) else (Gf2.pdiv a b, Gf2.pmod a b, 0)

set_option maxHeartbeats 800000 in
theorem Divide_calls (a b : Nat) (ha : a < 2 ^ 64) (hb : b < 2 ^ 64) (w : World) :
    Calls Try.prog 23 #[U a, U b] w fun e w' => e = .returned (.tuple #[U (tDivide a b).1, U (tDivide a b).2.1, I (tDivide a b).2.2]) ∧ w = w' := by
  by_cases h0 : b = 0
  · have ht : tDivide a b = (0, 0, 1) := by rw [tDivide, if_pos h0]
    rw [ht]
    subst h0
    clear ht
    go_enter Try.func23, Try.ntmps23
    go_wp2
    go_ret3
    exact ⟨rfl, rfl⟩
  · have ht : tDivide a b = (Gf2.pdiv a b, Gf2.pmod a b, 0) := by rw [tDivide, if_neg h0]
    rw [ht]
    clear ht
    have hne : ((b : Int) == 0) = false := beq_false (by omega)
    go_enter Try.func23, Try.ntmps23
    go_wp2_with (go_at_call 67; refine (divide_calls a b ha hb h0 _).mono ?_; rintro e w' ⟨rfl, rfl⟩)
    go_ret3
    exact ⟨rfl, rfl⟩

set_option maxHeartbeats 800000 in
theorem RDivide_calls (a b : Nat) (ha : a < 2 ^ 64) (hb : b < 2 ^ 64) (w : World) :
    Calls Try.prog 24 #[U a, U b] w fun e w' => e = .returned (.tuple #[U (tDivide a b).1, U (tDivide a b).2.1, I (tDivide a b).2.2]) ∧ w = w' := by
  by_cases h0 : b = 0
  · have ht : tDivide a b = (0, 0, 1) := by rw [tDivide, if_pos h0]
    rw [ht]
    subst h0
    clear ht
    go_enter Try.func24, Try.ntmps24
    go_wp2
    go_ret3
    exact ⟨rfl, rfl⟩
  · have ht : tDivide a b = (Gf2.pdiv a b, Gf2.pmod a b, 0) := by rw [tDivide, if_neg h0]
    rw [ht]
    clear ht
    have hne : ((b : Int) == 0) = false := beq_false (by omega)
    go_enter Try.func24, Try.ntmps24
    go_wp2_with (go_at_call 68; refine (rdivide_calls a b ha hb h0 _).mono ?_; rintro e w' ⟨rfl, rfl⟩)
    go_ret3
    exact ⟨rfl, rfl⟩

set_option maxHeartbeats 400000 in
theorem RCommon_calls (a b : Nat) (ha : a < 2 ^ 64) (hb : b < 2 ^ 64) (w : World) :
    Calls Try.prog 20 #[U a, U b] w fun e w' => e = .returned (U (Gf2.gcd a b)) ∧ w = w' := by
  go_enter Try.func20, Try.ntmps20
  go_wp2_with (go_at_call 64; refine (rcommon_calls a b ha hb _).mono ?_; rintro e w' ⟨rfl, rfl⟩)
  go_ret
  exact ⟨rfl, rfl⟩

end Go.Proofs.Ytjgfcnhnlaobcaa
