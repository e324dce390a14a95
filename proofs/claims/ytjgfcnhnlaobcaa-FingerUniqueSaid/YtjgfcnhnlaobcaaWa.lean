/- Walks of the leaf functions of finger and of its specification. -/
import Derived.Test.YtjgfcnhnlaobcaaBase
namespace Go.Proofs.Ytjgfcnhnlaobcaa
open Go.RowKit

set_option maxHeartbeats 400000 in
theorem degree_calls (a : Nat) (h : a < 2 ^ 64) (w : World) :
    Calls Try.prog 17 #[U a] w fun e w' => e = .returned (I ((Gf2.len a : Int) - 1)) ∧ w = w' := by
  have h1 : (a : Int) ≤ 18446744073709551615 := by omega
  have hl : Gf2.len a ≤ 64 := Gf2.len_le_iff.2 h
  go_enter Try.func17, Try.ntmps17
  go_wp2_with (go_at_call 62; refine (Try.bits_Len64 _ _ (by omega) h1).mono ?_; rintro e w' ⟨rfl, rfl⟩; simp only [Int.toNat_natCast, bitLen_eq a h])
  go_ret
  exact ⟨rfl, rfl⟩

theorem len_half {a : Nat} (h : a ≠ 0) : Gf2.len a = Gf2.len (a / 2) + 1 := by
  by_cases h1 : a / 2 = 0
  · have : a = 1 := by omega
    subst this; rfl
  · have e := Gf2.len_two_mul h1
    rcases Nat.mod_two_eq_zero_or_one a with hm | hm
    · have : a = 2 * (a / 2) := by omega
      conv => lhs; rw [this]
      omega
    · have : a = 2 * (a / 2) + 1 := by omega
      conv => lhs; rw [this, Gf2.bit_one, Gf2.len_xor_of_lt (by rw [e, Gf2.len_one]; have := Gf2.len_pos h1; omega)]
      omega

set_option maxHeartbeats 400000 in
theorem rdegree_calls (a : Nat) (h : a < 2 ^ 64) (w : World) :
    Calls Try.prog 18 #[U a] w fun e w' => e = .returned (I ((Gf2.len a : Int) - 1)) ∧ w = w' := by
  have hl : Gf2.len a ≤ 64 := Gf2.len_le_iff.2 h
  go_enter Try.func18, Try.ntmps18
  go_wp2
  go_loop [0, 3] (fun va vn => ∃ b n : Nat, va = U b ∧ vn = I ((n : Int) - 1) ∧ b < 2 ^ 64 ∧ n + Gf2.len b = Gf2.len a) (fun va _ => (intOf va).toNat)
  case atStart => exact ⟨a, 0, rfl, rfl, h, by omega⟩
  case round =>
    obtain ⟨b, n, rfl, rfl, hb, hn⟩ := hrel
    by_cases h0 : b = 0
    · subst h0
      have hn' : n = Gf2.len a := by rw [Gf2.len_zero] at hn; omega
      subst hn'
      clear hn
      go_wp2
      go_ret
      exact ⟨rfl, rfl⟩
    · have hlh := Lib.hid (len_half h0)
      have hn := Lib.hid hn
      have hpos : (0 : Int) < (b : Int) := by omega
      have hn1 : n ≤ 64 := by have := hn.out; omega
      go_wp2
      go_round
      case rel => exact ⟨b / 2, n + 1, rfl, by go_num, by omega, by have := hn.out; have := hlh.out; omega⟩
      case measure => simp [intOf]; omega

set_option maxHeartbeats 400000 in
theorem shift_calls (p a : Nat) (hp : 2 ≤ Gf2.len p) (hp' : p < 2 ^ 64) (ha : Gf2.len a < Gf2.len p) (w : World) :
    Calls Try.prog 85 #[U p, U a] w fun e w' => e = .returned (U (Gf2.pmod (2 * a) p)) ∧ w = w' := by
  have hl : Gf2.len p ≤ 64 := Gf2.len_le_iff.2 hp'
  have h2 : 2 * a < 2 ^ 64 := by
    have := Gf2.len_le_iff (n := a) (k := 63); omega
  obtain ⟨d, hd⟩ : ∃ d, Gf2.len p = d + 1 := ⟨Gf2.len p - 1, by omega⟩
  have hs := Gf2.shift_mod (p := p) (a := a) (d := d) (by omega) (by omega)
  have hdeg := rdegree_calls p hp' w
  rw [hd, show ((d + 1 : Nat) : Int) - 1 = (d : Int) by omega] at hdeg
  have hd1 : d ≤ 63 := by omega
  have hda : 2 * a / 2 ^ d < 2 ^ 64 := Nat.lt_of_le_of_lt (Nat.div_le_self _ _) h2
  have ec : (a : Int) * 2 / 2 ^ d = ((2 * a / 2 ^ d : Nat) : Int) := by rw [← shr_cast]; congr 1; omega
  have eb : bits .and .u64 ((a : Int) * 2 / 2 ^ d) 1 = ((2 * a / 2 ^ d % 2 : Nat) : Int) := by rw [ec, one_u64 hda]
  have ex : bits .xor .u64 ((a : Int) * 2) (p : Int) = ((2 * a ^^^ p : Nat) : Int) := by
    rw [show (a : Int) * 2 = ((2 * a : Nat) : Int) by omega, xor_u64 h2 hp']
  by_cases hb : 2 * a / 2 ^ d % 2 = 1
  · have hc : (bits .and .u64 ((a : Int) * 2 / 2 ^ d) 1 == 1) = true := by rw [eb, hb]; rfl
    rw [if_pos hb] at hs
    have Hs := Lib.hid hs; have Hx := Lib.hid ex; clear hs ex eb ec hd hda hb
    go_enter Try.func85, Try.ntmps85
    go_wp2_with (go_at_call 18; refine hdeg.mono ?_; rintro e w' ⟨rfl, rfl⟩)
    go_ret
    exact ⟨ret_u (by rw [Hs.out]; exact Hx.out), rfl⟩
  · have hc : (bits .and .u64 ((a : Int) * 2 / 2 ^ d) 1 == 1) = false := by rw [ec, bit_false hda hb]
    rw [if_neg hb] at hs
    have Hs := Lib.hid hs; clear hs ex eb ec hd hda hb
    go_enter Try.func85, Try.ntmps85
    go_wp2_with (go_at_call 18; refine hdeg.mono ?_; rintro e w' ⟨rfl, rfl⟩)
    go_ret
    exact ⟨ret_u (by rw [Hs.out]; omega), rfl⟩
theorem pow_le_64 {s : Nat} (h : s < 64) : 2 ^ s < 2 ^ 64 := Nat.pow_lt_pow_right (by decide) h
theorem shl_lt {s b k : Nat} (hb : b ≠ 0) (h : Gf2.len b + s ≤ k) : 2 ^ s * b < 2 ^ k := Gf2.len_le_iff.1 (by rw [Gf2.len_two_pow_mul hb]; omega)

set_option maxHeartbeats 400000 in
theorem divide_calls (a b : Nat) (ha : a < 2 ^ 64) (hb : b < 2 ^ 64) (hb0 : b ≠ 0) (w : World) :
    Calls Try.prog 67 #[U a, U b] w fun e w' => e = .returned (.tuple #[U (Gf2.pdiv a b), U (Gf2.pmod a b)]) ∧ w = w' := by
  have hlb := len_le_64 hb
  have hlb0 := Gf2.len_pos hb0
  go_enter Try.func67, Try.ntmps67
  go_wp2_with (go_at_call 17; refine (degree_calls _ hb _).mono ?_; rintro e w' ⟨rfl, rfl⟩)
  go_loop [0, 6, 8] (fun va vq _ => ∃ x q : Nat, va = U x ∧ vq = U q ∧ x < 2 ^ 64 ∧ q < 2 ^ 64 ∧ (Gf2.len b ≤ Gf2.len x → q % 2 ^ (Gf2.len x - Gf2.len b + 1) = 0) ∧ Gf2.dm b q x = (Gf2.pdiv a b, Gf2.pmod a b)) (fun va _ _ => Gf2.len (intOf va).toNat)
  case atStart => exact ⟨a, 0, rfl, rfl, ha, by decide, fun _ => Nat.zero_mod _, rfl⟩
  case round =>
    obtain ⟨x, q, rfl, rfl, hx, hq, hm, hd⟩ := hrel
    have hlx := len_le_64 hx
    by_cases hc : Gf2.len b ≤ Gf2.len x
    · obtain ⟨s, hs⟩ : ∃ s : Nat, Gf2.len x = Gf2.len b + s := ⟨Gf2.len x - Gf2.len b, by omega⟩
      have hs64 : s < 64 := by omega
      have hk : Gf2.len x - Gf2.len b = s := by omega
      have hd' := Gf2.dm_step hb0 hc (q := q)
      have hlt := Gf2.div_step_lt hb0 hc
      replace hm := hm hc
      rw [hk] at hm hd' hlt
      have hs2 : 2 ^ s * b < 2 ^ 64 := shl_lt hb0 (by omega)
      have HD := Lib.hid (hd'.trans hd)
      replace hm := Lib.hid hm
      replace hs := Lib.hid hs
      replace hk := Lib.hid hk
      clear hd hd'
      go_wp2_with (go_at_call 17; refine (degree_calls _ hx _).mono ?_; rintro e w' ⟨rfl, rfl⟩)
      have es : Gf2.len x - 1 - (Gf2.len b - 1) = s := by have := hs.out; omega
      simp only [es]
      have e1 : IntKind.u64.wrap ((2 : Int) ^ s) = ((2 ^ s : Nat) : Int) := by
        have := shl_u64 (a := 1) (n := s) (by have := pow_le_64 hs64; omega); simpa using this
      have ex' : bits .xor .u64 (x : Int) (IntKind.u64.wrap ((b : Int) * 2 ^ s)) = ((x ^^^ 2 ^ s * b : Nat) : Int) := by
        rw [← xor_u64 hx hs2, shl_u64 hs2]
      refine ⟨⟨x ^^^ 2 ^ s * b, q ^^^ 2 ^ s, u_eq (ex'), u_eq (by rw [e1, or_u64 hq (pow_le_64 hs64), Gf2.or_two_pow hm.out]), Nat.xor_lt_two_pow hx hs2, Nat.xor_lt_two_pow hq (pow_le_64 hs64), fun hle => Gf2.xor_two_pow_mod hm.out (by have := hs.out; omega), HD.out⟩, ?_⟩
      simp only [intOf, Int.toNat_natCast]
      rw [ex', Int.toNat_natCast]; exact hlt
    · have hst := Gf2.dm_stop (q := q) (a := x) (b := b) (by omega)
      rw [hst] at hd
      obtain ⟨hd1, hd2⟩ := Prod.mk.inj hd
      subst hd1 hd2
      clear hst hd
      go_wp2_with (go_at_call 17; refine (degree_calls _ hx _).mono ?_; rintro e w' ⟨rfl, rfl⟩)
      go_ret2
      exact ⟨rfl, rfl⟩

set_option maxHeartbeats 400000 in
theorem rdivide_calls (a b : Nat) (ha : a < 2 ^ 64) (hb : b < 2 ^ 64) (hb0 : b ≠ 0) (w : World) :
    Calls Try.prog 68 #[U a, U b] w fun e w' => e = .returned (.tuple #[U (Gf2.pdiv a b), U (Gf2.pmod a b)]) ∧ w = w' := by
  have hlb := len_le_64 hb
  have hlb0 := Gf2.len_pos hb0
  go_enter Try.func68, Try.ntmps68
  go_wp2_with (go_at_call 18; refine (rdegree_calls _ hb _).mono ?_; rintro e w' ⟨rfl, rfl⟩)
  go_loop [0, 6, 8] (fun va vq _ => ∃ x q : Nat, va = U x ∧ vq = U q ∧ x < 2 ^ 64 ∧ q < 2 ^ 64 ∧ (Gf2.len b ≤ Gf2.len x → q % 2 ^ (Gf2.len x - Gf2.len b + 1) = 0) ∧ Gf2.dm b q x = (Gf2.pdiv a b, Gf2.pmod a b)) (fun va _ _ => Gf2.len (intOf va).toNat)
  case atStart => exact ⟨a, 0, rfl, rfl, ha, by decide, fun _ => Nat.zero_mod _, rfl⟩
  case round =>
    obtain ⟨x, q, rfl, rfl, hx, hq, hm, hd⟩ := hrel
    have hlx := len_le_64 hx
    by_cases hc : Gf2.len b ≤ Gf2.len x
    · obtain ⟨s, hs⟩ : ∃ s : Nat, Gf2.len x = Gf2.len b + s := ⟨Gf2.len x - Gf2.len b, by omega⟩
      have hs64 : s < 64 := by omega
      have hk : Gf2.len x - Gf2.len b = s := by omega
      have hd' := Gf2.dm_step hb0 hc (q := q)
      have hlt := Gf2.div_step_lt hb0 hc
      replace hm := hm hc
      rw [hk] at hm hd' hlt
      have hs2 : 2 ^ s * b < 2 ^ 64 := shl_lt hb0 (by omega)
      have HD := Lib.hid (hd'.trans hd)
      replace hm := Lib.hid hm
      replace hs := Lib.hid hs
      replace hk := Lib.hid hk
      clear hd hd'
      go_wp2_with (go_at_call 18; refine (rdegree_calls _ hx _).mono ?_; rintro e w' ⟨rfl, rfl⟩)
      have es : Gf2.len x - 1 - (Gf2.len b - 1) = s := by have := hs.out; omega
      simp only [es]
      have e1 : IntKind.u64.wrap ((2 : Int) ^ s) = ((2 ^ s : Nat) : Int) := by
        have := shl_u64 (a := 1) (n := s) (by have := pow_le_64 hs64; omega); simpa using this
      have ex' : bits .xor .u64 (x : Int) (IntKind.u64.wrap ((b : Int) * 2 ^ s)) = ((x ^^^ 2 ^ s * b : Nat) : Int) := by
        rw [← xor_u64 hx hs2, shl_u64 hs2]
      refine ⟨⟨x ^^^ 2 ^ s * b, q ^^^ 2 ^ s, u_eq (ex'), u_eq (by rw [e1, xor_u64 hq (pow_le_64 hs64)]), Nat.xor_lt_two_pow hx hs2, Nat.xor_lt_two_pow hq (pow_le_64 hs64), fun hle => Gf2.xor_two_pow_mod hm.out (by have := hs.out; omega), HD.out⟩, ?_⟩
      simp only [intOf, Int.toNat_natCast]
      rw [ex', Int.toNat_natCast]; exact hlt
    · have hst := Gf2.dm_stop (q := q) (a := x) (b := b) (by omega)
      rw [hst] at hd
      obtain ⟨hd1, hd2⟩ := Prod.mk.inj hd
      subst hd1 hd2
      clear hst hd
      go_wp2_with (go_at_call 18; refine (rdegree_calls _ hx _).mono ?_; rintro e w' ⟨rfl, rfl⟩)
      go_ret2
      exact ⟨rfl, rfl⟩

end Go.Proofs.Ytjgfcnhnlaobcaa
