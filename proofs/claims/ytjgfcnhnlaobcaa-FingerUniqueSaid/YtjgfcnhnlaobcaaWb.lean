/- Walks: products, powers of the specification, divisors. -/
import Derived.Test.YtjgfcnhnlaobcaaWa
namespace Go.Proofs.Ytjgfcnhnlaobcaa
open Go.RowKit

theorem two_mul_lt {a : Nat} (h : Gf2.len a ≤ 63) : 2 * a < 2 ^ 64 := by
  have := Gf2.len_le_iff (n := a) (k := 63); omega
theorem mm_lt64 {p : Nat} (h : 2 ≤ Gf2.len p) (hp : p < 2 ^ 64) (a b : Nat) : Gf2.mm p a b < 2 ^ 64 := by
  have h0 : p ≠ 0 := fun e => by rw [e, Gf2.len_zero] at h; omega
  have := Gf2.mm_lt h0 a b
  have := len_le_64 hp
  exact lt_of_len (by omega)

set_option maxHeartbeats 800000 in
theorem times_calls (p a b : Nat) (hp : 2 ≤ Gf2.len p) (hp' : p < 2 ^ 64) (ha : Gf2.len a < Gf2.len p) (hb : b < 2 ^ 64) (w : World) :
    Calls Try.prog 58 #[U p, U a, U b] w fun e w' => e = .returned (U (Gf2.mm p a b)) ∧ w = w' := by
  have hlp := len_le_64 hp'
  have hp0 : p ≠ 0 := fun e => by rw [e, Gf2.len_zero] at hp; omega
  obtain ⟨d, hd⟩ : ∃ d, Gf2.len p = d + 2 := ⟨Gf2.len p - 2, by omega⟩
  have hdeg := degree_calls p hp' w
  rw [hd, show ((d + 2 : Nat) : Int) - 1 = (d : Int) + 1 by omega] at hdeg
  have Hd := Lib.hid hd
  have hd62 : d ≤ 62 := by omega
  clear hd
  go_enter Try.func58, Try.ntmps58
  go_wp2_with (go_at_call 17; refine hdeg.mono ?_; rintro e w' ⟨rfl, rfl⟩)
  clear hdeg
  go_loop [1, 2, 8, 9] (fun va vb vo _ => ∃ x y o : Nat, va = U x ∧ vb = U y ∧ vo = U o ∧ Gf2.len x < Gf2.len p ∧ y < 2 ^ 64 ∧ Gf2.len o < Gf2.len p ∧ o ^^^ Gf2.mm p x y = Gf2.mm p a b) (fun _ vb _ _ => (intOf vb).toNat)
  case atStart => exact ⟨a, b, 0, rfl, rfl, rfl, ha, hb, by rw [Gf2.len_zero]; omega, Nat.zero_xor _⟩
  case round =>
    obtain ⟨x, y, o, rfl, rfl, rfl, hx, hy, ho, hr⟩ := hrel
    have hx64 : x < 2 ^ 64 := lt_of_len (by omega)
    have ho64 : o < 2 ^ 64 := lt_of_len (by omega)
    by_cases h0 : y = 0
    · subst h0
      rw [Gf2.mm_zero, Nat.xor_zero] at hr
      subst hr
      go_wp2
      go_ret
      exact ⟨rfl, rfl⟩
    · have hpos : (0 : Int) < (y : Int) := by omega
      have h2x : 2 * x < 2 ^ 64 := two_mul_lt (by omega)
      have hsh := Gf2.shift_mod' Hd.out (a := x) (by have := Hd.out; omega)
      have hbit := Gf2.mm_bit hp0 x y hx
      have hlen : Gf2.len (Gf2.pmod (2 * x) p) < Gf2.len p := Gf2.len_mod_lt _ hp0
      have hcast : (x : Int) * 2 = ((2 * x : Nat) : Int) := by omega
      have hxp : bits .xor .u64 ((x : Int) * 2) (p : Int) = ((2 * x ^^^ p : Nat) : Int) := by rw [hcast, xor_u64 h2x hp']
      have hox : bits .xor .u64 (o : Int) (x : Int) = ((o ^^^ x : Nat) : Int) := xor_u64 ho64 hx64
      have hlox : Gf2.len (o ^^^ x) < Gf2.len p := by
        have := Gf2.len_xor_le (a := o) (b := x) (k := Gf2.len p - 1) (by omega) (by omega); omega
      have Hc := Lib.hid hcast; have Hxp := Lib.hid hxp; have Hox := Lib.hid hox
      clear hcast hxp hox
      by_cases hy1 : y % 2 = 1
      · have hb1 := bit_true hy hy1
        rw [if_pos hy1] at hbit
        have HB := Lib.hid (show (o ^^^ x) ^^^ Gf2.mm p (Gf2.pmod (2 * x) p) (y / 2) = Gf2.mm p a b by rw [← hr, hbit, Nat.xor_assoc])
        by_cases hh : x / 2 ^ d % 2 = 1
        · have hb2 := bit_true (shr_lt (n := d) hx64) hh
          rw [← shr_cast] at hb2
          rw [if_pos hh] at hsh
          rw [hsh] at HB hlen
          clear hy1 hbit hr hh hsh
          go_wp2
          go_round
          case rel => exact ⟨_, y / 2, _, u_eq Hxp.out, rfl, u_eq Hox.out, hlen, by omega, hlox, HB.out⟩
          case measure => simp [intOf]; omega
        · have hb2 := bit_false (shr_lt (n := d) hx64) hh
          rw [← shr_cast] at hb2
          rw [if_neg hh] at hsh
          rw [hsh] at HB hlen
          clear hy1 hbit hr hh hsh
          go_wp2
          go_round
          case rel => exact ⟨_, y / 2, _, u_eq Hc.out, rfl, u_eq Hox.out, hlen, by omega, hlox, HB.out⟩
          case measure => simp [intOf]; omega
      · have hb1 := bit_false hy hy1
        rw [if_neg hy1, Nat.zero_xor] at hbit
        have HB := Lib.hid (show o ^^^ Gf2.mm p (Gf2.pmod (2 * x) p) (y / 2) = Gf2.mm p a b by rw [← hr, hbit])
        by_cases hh : x / 2 ^ d % 2 = 1
        · have hb2 := bit_true (shr_lt (n := d) hx64) hh
          rw [← shr_cast] at hb2
          rw [if_pos hh] at hsh
          rw [hsh] at HB hlen
          clear hy1 hbit hr hh hsh
          go_wp2
          go_round
          case rel => exact ⟨_, y / 2, _, u_eq Hxp.out, rfl, rfl, hlen, by omega, ho, HB.out⟩
          case measure => simp [intOf]; omega
        · have hb2 := bit_false (shr_lt (n := d) hx64) hh
          rw [← shr_cast] at hb2
          rw [if_neg hh] at hsh
          rw [hsh] at HB hlen
          clear hy1 hbit hr hh hsh
          go_wp2
          go_round
          case rel => exact ⟨_, y / 2, _, u_eq Hc.out, rfl, rfl, hlen, by omega, ho, HB.out⟩
          case measure => simp [intOf]; omega

set_option maxHeartbeats 800000 in
theorem rtimes_calls (p a b : Nat) (hp : 2 ≤ Gf2.len p) (hp' : p < 2 ^ 64) (ha : Gf2.len a < Gf2.len p) (hb : Gf2.len b < Gf2.len p) (w : World) :
    Calls Try.prog 61 #[U p, U a, U b] w fun e w' => e = .returned (U (Gf2.mm p a b)) ∧ w = w' := by
  have hlp := len_le_64 hp'
  have hp0 : p ≠ 0 := fun e => by rw [e, Gf2.len_zero] at hp; omega
  have ha64 : a < 2 ^ 64 := lt_of_len (by omega)
  have hb64 : b < 2 ^ 64 := lt_of_len (by omega)
  go_enter Try.func61, Try.ntmps61
  go_wp2_with (go_at_call 18; refine (rdegree_calls p hp' _).mono ?_; rintro e w' ⟨rfl, rfl⟩)
  go_loop [7, 8] (fun vo vi => ∃ i o : Nat, vi = I ((i : Int) - 1) ∧ vo = U o ∧ i ≤ 63 ∧ o = Gf2.mm p a (b / 2 ^ i)) (fun _ vi => (intOf vi + 1).toNat)
  case atStart => exact ⟨Gf2.len p - 1, 0, i_eq (by omega), rfl, by omega, by
      have : b / 2 ^ (Gf2.len p - 1) = 0 := Nat.div_eq_of_lt (Gf2.len_le_iff.1 (by omega))
      rw [this, Gf2.mm_zero]⟩
  case round =>
    obtain ⟨i, o, rfl, rfl, hi, ho⟩ := hrel
    have hlo : Gf2.len o < Gf2.len p := by rw [ho]; exact Gf2.mm_lt hp0 _ _
    by_cases h0 : i = 0
    · subst h0
      rw [Nat.pow_zero, Nat.div_one] at ho
      subst ho
      go_wp2
      go_ret
      exact ⟨rfl, rfl⟩
    · obtain ⟨j, rfl⟩ : ∃ j, i = j + 1 := ⟨i - 1, by omega⟩
      have hh := Gf2.mm_horner hp0 a b j ha
      rw [← ho] at hh
      have Hi := Lib.hid (show ((j + 1 : Nat) : Int) - 1 = (j : Int) by omega)
      have hsl : Gf2.len (Gf2.pmod (2 * o) p) < Gf2.len p := Gf2.len_mod_lt _ hp0
      have hs64 : Gf2.pmod (2 * o) p < 2 ^ 64 := lt_of_len (by omega)
      have Hx := Lib.hid (xor_u64 hs64 ha64)
      clear ho
      rw [Hi.out]
      by_cases hb1 : b / 2 ^ j % 2 = 1
      · have hb2 := bit_true (shr_lt (n := j) hb64) hb1
        rw [← shr_cast] at hb2
        rw [if_pos hb1] at hh
        have Hh := Lib.hid hh
        clear hh hb1
        go_wp2_with (go_at_call 85; refine (shift_calls p o hp hp' hlo _).mono ?_; rintro e w' ⟨rfl, rfl⟩)
        go_round
        case rel => exact ⟨j, _, rfl, u_eq Hx.out, by omega, Hh.out.symm⟩
        case measure => simp [intOf]
      · have hb2 := bit_false (shr_lt (n := j) hb64) hb1
        rw [← shr_cast] at hb2
        rw [if_neg hb1, Nat.xor_zero] at hh
        have Hh := Lib.hid hh
        clear hh hb1
        go_wp2_with (go_at_call 85; refine (shift_calls p o hp hp' hlo _).mono ?_; rintro e w' ⟨rfl, rfl⟩)
        go_round
        case rel => exact ⟨j, _, rfl, rfl, by omega, Hh.out.symm⟩
        case measure => simp [intOf]

set_option maxHeartbeats 400000 in
theorem mod_calls (a p : Nat) (ha : a < 2 ^ 64) (hp : p < 2 ^ 64) (hp0 : p ≠ 0) (w : World) :
    Calls Try.prog 63 #[U a, U p] w fun e w' => e = .returned (U (Gf2.pmod a p)) ∧ w = w' := by
  go_enter Try.func63, Try.ntmps63
  go_wp2_with (go_at_call 67; refine (divide_calls a p ha hp hp0 _).mono ?_; rintro e w' ⟨rfl, rfl⟩)
  go_ret
  exact ⟨rfl, rfl⟩

theorem mod_lt64 (a : Nat) {p : Nat} (hp : p < 2 ^ 64) (hp0 : p ≠ 0) : Gf2.pmod a p < 2 ^ 64 := by
  have := Gf2.len_mod_lt a hp0
  have := len_le_64 hp
  exact lt_of_len (by omega)

set_option maxHeartbeats 400000 in
theorem common_calls (a b : Nat) (ha : a < 2 ^ 64) (hb : b < 2 ^ 64) (w : World) :
    Calls Try.prog 19 #[U a, U b] w fun e w' => e = .returned (U (Gf2.gcd a b)) ∧ w = w' := by
  go_enter Try.func19, Try.ntmps19
  go_wp2
  go_loop [0, 1] (fun va vb => ∃ x y : Nat, va = U x ∧ vb = U y ∧ x < 2 ^ 64 ∧ y < 2 ^ 64 ∧ Gf2.gcd x y = Gf2.gcd a b) (fun _ vb => Gf2.len (intOf vb).toNat)
  case atStart => exact ⟨a, b, rfl, rfl, ha, hb, rfl⟩
  case round =>
    obtain ⟨x, y, rfl, rfl, hx, hy, hg⟩ := hrel
    by_cases h0 : y = 0
    · subst h0
      rw [Gf2.gcd_zero] at hg
      subst hg
      go_wp2
      go_ret
      exact ⟨rfl, rfl⟩
    · have hne : ((y : Int) != 0) = true := by simp; omega
      have hl := Gf2.len_mod_lt x h0
      have hm := mod_lt64 x hy h0
      rw [Gf2.gcd_step x h0] at hg
      replace hg := Lib.hid hg
      go_wp2_with (go_at_call 63; refine (mod_calls x y hx hy h0 _).mono ?_; rintro e w' ⟨rfl, rfl⟩)
      go_round
      case rel => exact ⟨y, _, rfl, rfl, hy, hm, hg.out⟩
      case measure => simpa [intOf] using hl

set_option maxHeartbeats 400000 in
theorem rcommon_calls (a b : Nat) (ha : a < 2 ^ 64) (hb : b < 2 ^ 64) (w : World) :
    Calls Try.prog 64 #[U a, U b] w fun e w' => e = .returned (U (Gf2.gcd a b)) ∧ w = w' := by
  go_enter Try.func64, Try.ntmps64
  go_wp2
  go_loop [0, 1, 5, 6] (fun va vb _ _ => ∃ x y : Nat, va = U x ∧ vb = U y ∧ x < 2 ^ 64 ∧ y < 2 ^ 64 ∧ Gf2.gcd x y = Gf2.gcd a b) (fun _ vb _ _ => Gf2.len (intOf vb).toNat)
  case atStart => exact ⟨a, b, rfl, rfl, ha, hb, rfl⟩
  case round =>
    obtain ⟨x, y, rfl, rfl, hx, hy, hg⟩ := hrel
    by_cases h0 : y = 0
    · subst h0
      rw [Gf2.gcd_zero] at hg
      subst hg
      go_wp2
      go_ret
      exact ⟨rfl, rfl⟩
    · have hne : ((y : Int) != 0) = true := by simp; omega
      have hl := Gf2.len_mod_lt x h0
      have hm := mod_lt64 x hy h0
      rw [Gf2.gcd_step x h0] at hg
      replace hg := Lib.hid hg
      go_wp2_with (go_at_call 68; refine (rdivide_calls x y hx hy h0 _).mono ?_; rintro e w' ⟨rfl, rfl⟩)
      go_round
      case rel => exact ⟨y, _, rfl, rfl, hy, hm, hg.out⟩
      case measure => simpa [intOf] using hl
end Go.Proofs.Ytjgfcnhnlaobcaa
