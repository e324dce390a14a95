/- Walks: Find by the specification; Poly. -/
import Derived.Test.YtjgfcnhnlaobcaaWo
namespace Go.Proofs.Ytjgfcnhnlaobcaa
open Go.RowKit

set_option maxHeartbeats 1600000 in
theorem RFind_calls (d : Int) (f : Nat) (hf : f < 2 ^ 64) (w : World) :
    Calls Try.prog 41 #[I d, U f] w fun e w' => e = .returned (.tuple #[U (tFind d f).1, I (tFind d f).2]) ∧ w = w' := by
  by_cases h1 : d < 1
  · rw [tFind, if_pos (.inl h1)]
    go_enter Try.func41, Try.ntmps41
    go_wp2
    go_ret2
    exact ⟨rfl, rfl⟩
  by_cases h2 : 63 < d
  · rw [tFind, if_pos (.inr h2)]
    go_enter Try.func41, Try.ntmps41
    go_wp2
    go_ret2
    exact ⟨rfl, rfl⟩
  obtain ⟨n, rfl⟩ : ∃ n : Nat, d = n := ⟨d.toNat, by omega⟩
  have h63 : n ≤ 63 := by omega
  rw [tFind, if_neg (by omega), Int.toNat_natCast]
  unfold irrFrom
  have hp64 : 2 ^ n < 2 ^ 64 := pow_le_64 (by omega)
  have hsh : IntKind.u64.wrap ((2 : Int) ^ n) = ((2 ^ n : Nat) : Int) := by
    have := shl_u64 (a := 1) (n := n) (by omega)
    simpa using this
  have hmx : max (f : Int) (2 ^ n) = ((max f (2 ^ n) : Nat) : Int) := by
    have : ((2 ^ n : Nat) : Int) = (2 : Int) ^ n := by simp
    rw [← this]; exact max_nat _ _
  have HX := Lib.hid hmx
  obtain ⟨hs1, hs2, hs3⟩ := irr_start (d := n) hf h63
  have HS := Lib.hid hs2
  have HT := Lib.hid hs3
  clear hs2 hs3 hmx hp64
  generalize max f (2 ^ n) = s at *
  obtain ⟨r, hr⟩ : ∃ r, tF (irrN (2 ^ (n + 1) - s) s) = r := ⟨_, rfl⟩
  rw [hr]
  have HR := Lib.hid hr
  clear hr
  go_enter Try.func41, Try.ntmps41
  go_wp2
  rw [HX.out]
  clear hsh
  go_loopg [6] (2 ^ (n + 1) - s) (fun g vq wr => wr = w ∧ ∃ q : Nat, vq = U q ∧ q < 2 ^ 64 ∧ (0 < g → Gf2.len q = n + 1 ∧ q + g = 2 ^ (n + 1)) ∧ (g = 0 → Gf2.len q ≠ n + 1) ∧ tF (irrN g q) = r)
  case atStart => exact ⟨rfl, s, rfl, hs1, HS.out, HT.out, HR.out⟩
  case round =>
    clear HS HT HR hs1
    obtain ⟨rfl, q, rfl, hq64, hg1, hg0, hL⟩ := hrel
    have hdeg := rdegree_calls q hq64
    cases gk with
    | zero =>
      have hne := hg0 rfl
      have hbe : ((Gf2.len q : Int) - 1 == (n : Int)) = false := beq_false (by omega)
      have Hr := Lib.hid (show (0, 3) = r from hL)
      clear hg1 hg0 hL hne
      go_wp2_with (go_at_call 18; refine (hdeg _).mono ?_; rintro e w1 ⟨rfl, rfl⟩)
      go_ret2
      exact ⟨by rw [← Hr.out]; rfl, rfl⟩
    | succ g =>
      obtain ⟨hlq, hqg⟩ := hg1 (by omega)
      have hbe : ((Gf2.len q : Int) - 1 == (n : Int)) = true := beq_true (by omega)
      obtain ⟨hn1, hn2, hn3⟩ := irr_next hqg h63 hlq
      have hirr := RIrreducible_calls q hq64
      have hwn := wrap_next q
      have hn64 : (q + 1) % 2 ^ 64 < 2 ^ 64 := Nat.mod_lt _ (by decide)
      have HN2 := Lib.hid hn2
      have HN3 := Lib.hid hn3
      have HNQ := Lib.hid hn64
      rw [irrN] at hL
      by_cases hI : Gf2.irrB q = true
      · rw [if_pos hI] at hL
        rw [hI] at hirr
        have Hr := Lib.hid (show (q, 0) = r from hL)
        clear hL hn1 hn2 hn3 hn64 hg1 hg0 hlq hqg hI
        go_wp2_with (first | (go_at_call 18; refine (hdeg _).mono ?_; rintro e w1 ⟨rfl, rfl⟩) | (go_at_call 29; refine (hirr _).mono ?_; rintro e w1 ⟨rfl, rfl⟩))
        go_ret2
        exact ⟨by rw [← Hr.out]; rfl, rfl⟩
      · rw [if_neg hI] at hL
        have hI' : Gf2.irrB q = false := by simpa using hI
        rw [hI'] at hirr
        rw [← hn1] at hL
        have HL2 := Lib.hid hL
        clear hL hn1 hn2 hn3 hn64 hg1 hg0 hlq hqg hI hI'
        go_wp2_with (first | (go_at_call 18; refine (hdeg _).mono ?_; rintro e w1 ⟨rfl, rfl⟩) | (go_at_call 29; refine (hirr _).mono ?_; rintro e w1 ⟨rfl, rfl⟩))
        go_roundg g
        case measure => omega
        case rel => exact ⟨rfl, (q + 1) % 2 ^ 64, u_eq hwn, HNQ.out, HN2.out, HN3.out, HL2.out⟩

def tPoly (i : Int) : Nat × Int := if i < 0 ∨ 999 < i then (0, 1) else tFind 63 (2 ^ 63 + 2 ^ 50 * i.toNat)

set_option maxHeartbeats 800000 in
theorem Poly_calls (i : Int) (w : World) :
    Calls Try.prog 42 #[I i] w fun e w' => e = .returned (.tuple #[U (tPoly i).1, I (tPoly i).2]) ∧ Below w.heap.size w w' := by
  by_cases h1 : i < 0
  · rw [tPoly, if_pos (.inl h1)]
    go_enter Try.func42, Try.ntmps42
    go_wp2
    go_ret2
    exact ⟨rfl, Below.refl _ _⟩
  by_cases h2 : 999 < i
  · rw [tPoly, if_pos (.inr h2)]
    go_enter Try.func42, Try.ntmps42
    go_wp2
    go_ret2
    exact ⟨rfl, Below.refl _ _⟩
  obtain ⟨n, rfl⟩ : ∃ n : Nat, i = n := ⟨i.toNat, by omega⟩
  rw [tPoly, if_neg (by omega), Int.toNat_natCast]
  have he : (9223372036854775808 + (n : Int) * 1125899906842624) = ((2 ^ 63 + 2 ^ 50 * n : Nat) : Int) := by omega
  have hf : ∀ w, Calls Try.prog 34 #[.int .i64 63, .int .u64 (9223372036854775808 + (n : Int) * 1125899906842624)] w fun e w' => e = .returned (.tuple #[U (tFind 63 (2 ^ 63 + 2 ^ 50 * n)).1, I (tFind 63 (2 ^ 63 + 2 ^ 50 * n)).2]) ∧ Below w.heap.size w w' := by
    rw [he]; exact fun w => Find_calls 63 (2 ^ 63 + 2 ^ 50 * n) (by omega) w
  clear he
  generalize tFind 63 (2 ^ 63 + 2 ^ 50 * n) = r at *
  obtain ⟨r1, r2⟩ := r
  dsimp only at hf ⊢
  go_enter Try.func42, Try.ntmps42
  go_wp2_with (go_at_call 34; refine (hf _).mono ?_; rintro e w1 ⟨rfl, hb⟩)
  go_ret2
  exact ⟨rfl, hb⟩

set_option maxHeartbeats 800000 in
theorem RPoly_calls (i : Int) (w : World) :
    Calls Try.prog 43 #[I i] w fun e w' => e = .returned (.tuple #[U (tPoly i).1, I (tPoly i).2]) ∧ w = w' := by
  by_cases h1 : i < 0
  · rw [tPoly, if_pos (.inl h1)]
    go_enter Try.func43, Try.ntmps43
    go_wp2
    go_ret2
    exact ⟨rfl, rfl⟩
  by_cases h2 : 999 < i
  · rw [tPoly, if_pos (.inr h2)]
    go_enter Try.func43, Try.ntmps43
    go_wp2
    go_ret2
    exact ⟨rfl, rfl⟩
  obtain ⟨n, rfl⟩ : ∃ n : Nat, i = n := ⟨i.toNat, by omega⟩
  rw [tPoly, if_neg (by omega), Int.toNat_natCast]
  have he : (9223372036854775808 + (n : Int) * 1125899906842624) = ((2 ^ 63 + 2 ^ 50 * n : Nat) : Int) := by omega
  have hf : ∀ w, Calls Try.prog 41 #[.int .i64 63, .int .u64 (9223372036854775808 + (n : Int) * 1125899906842624)] w fun e w' => e = .returned (.tuple #[U (tFind 63 (2 ^ 63 + 2 ^ 50 * n)).1, I (tFind 63 (2 ^ 63 + 2 ^ 50 * n)).2]) ∧ w = w' := by
    rw [he]; exact fun w => RFind_calls 63 (2 ^ 63 + 2 ^ 50 * n) (by omega) w
  clear he
  generalize tFind 63 (2 ^ 63 + 2 ^ 50 * n) = r at *
  obtain ⟨r1, r2⟩ := r
  dsimp only at hf ⊢
  go_enter Try.func43, Try.ntmps43
  go_wp2_with (go_at_call 41; refine (hf _).mono ?_; rintro e w1 ⟨rfl, rfl⟩)
  go_ret2
  exact ⟨rfl, rfl⟩
end Go.Proofs.Ytjgfcnhnlaobcaa
