/- Walks: fingerprints of bytes, and of parts. -/
import Derived.Test.YtjgfcnhnlaobcaaWh
namespace Go.Proofs.Ytjgfcnhnlaobcaa
open Go.RowKit

theorem pmod_bit {p g c : Nat} (hp : 2 ≤ Gf2.len p) (hc : c ≤ 1) : Gf2.pmod (2 * g + c) p = Gf2.pmod (2 * g) p ^^^ c := by
  have hp0 : p ≠ 0 := fun e => by rw [e, Gf2.len_zero] at hp; omega
  have : Gf2.len c ≤ 1 := Gf2.len_le_iff.2 (by omega)
  rw [Gf2.add_bit hc, Gf2.mod_xor _ _ hp0, Gf2.mod_of_lt (a := c) (by omega)]
theorem bit_test8 {x : Nat} (hx : x < 256) : (bits .and .u8 (x : Int) 1 == 1) = decide (x % 2 = 1) := by
  rw [one_u8 hx]
  rcases Nat.mod_two_eq_zero_or_one x with h | h <;> rw [h] <;> rfl

set_option maxHeartbeats 800000 in
theorem ron_calls (p f b : Nat) (hp2 : 2 ≤ Gf2.len p) (hp : p < 2 ^ 64) (hf : Gf2.len f < Gf2.len p) (hb : b < 256) (w : World) :
    Calls Try.prog 103 #[U p, U f, .int .u8 b] w fun e w' => e = .returned (U (Gf2.onByte p f b)) ∧ w = w' := by
  have hlp := len_le_64 hp
  have hp0 : p ≠ 0 := fun e => by rw [e, Gf2.len_zero] at hp2; omega
  go_enter Try.func103, Try.ntmps103
  go_wp2
  go_loop [1, 7] (fun vf vi => ∃ i g : Nat, vi = I ((i : Int) - 1) ∧ vf = U g ∧ i ≤ 8 ∧ Gf2.len g < Gf2.len p ∧ g = Gf2.pmod (2 ^ (8 - i) * f + b / 2 ^ i) p) (fun _ vi => (intOf vi + 1).toNat)
  case atStart => exact ⟨8, f, rfl, rfl, by omega, hf, by
    rw [Nat.div_eq_of_lt (show b < 2 ^ 8 by omega), Nat.sub_self, Nat.pow_zero, Nat.one_mul, Nat.add_zero, Gf2.mod_of_lt hf]⟩
  case round =>
    obtain ⟨i, g, rfl, rfl, hi, hg, hge⟩ := hrel
    by_cases h0 : i = 0
    · subst h0
      rw [Nat.pow_zero, Nat.div_one] at hge
      have HG := Lib.hid (show g = Gf2.onByte p f b from hge)
      clear hge
      go_wp2
      go_ret
      exact ⟨ret_u (by rw [HG.out]), rfl⟩
    · obtain ⟨j, rfl⟩ : ∃ j, i = j + 1 := ⟨i - 1, by omega⟩
      have hst := Gf2.bit_step (p := p) (f := f) (b := b) (j := j) hp0 (by omega)
      have hc : b / 2 ^ j % 2 ≤ 1 := by omega
      rw [← hge, pmod_bit hp2 hc] at hst
      have Hi := Lib.hid (show ((j + 1 : Nat) : Int) - 1 = (j : Int) by omega)
      clear hge
      have hbj : b / 2 ^ j < 256 := Nat.lt_of_le_of_lt (Nat.div_le_self _ _) hb
      have hbt := bit_test8 hbj
      rw [← shr_cast] at hbt
      have hs64 : Gf2.pmod (2 * g) p < 2 ^ 64 := mod_lt64 _ hp hp0
      have HX := Lib.hid (show bits .xor .u64 ((Gf2.pmod (2 * g) p : Nat) : Int) 1 = ((Gf2.pmod (2 * g) p ^^^ 1 : Nat) : Int) from xor_u64 (b := 1) hs64 (by decide))
      have hlen := Gf2.len_mod_lt (2 ^ (8 - j) * f + b / 2 ^ j) hp0
      rw [← hst] at hlen
      rw [Hi.out]
      by_cases hb1 : b / 2 ^ j % 2 = 1
      · rw [hb1] at hst hlen
        have HS := Lib.hid hst
        have HL := Lib.hid hlen
        simp only [hb1, decide_true] at hbt
        clear hst hb1 hlen
        go_wp2_with (go_at_call 85; refine (shift_calls p g hp2 hp hg _).mono ?_; rintro e w' ⟨rfl, rfl⟩)
        exact ⟨⟨j, _, rfl, u_eq HX.out, by omega, HL.out, HS.out⟩, by simp [intOf]⟩
      · rw [show b / 2 ^ j % 2 = 0 by omega, Nat.xor_zero] at hst hlen
        have HS := Lib.hid hst
        have HL := Lib.hid hlen
        simp only [hb1, decide_false] at hbt
        clear hst hb1 hlen
        go_wp2_with (go_at_call 85; refine (shift_calls p g hp2 hp hg _).mono ?_; rintro e w' ⟨rfl, rfl⟩)
        exact ⟨⟨j, _, rfl, rfl, by omega, HL.out, HS.out⟩, by simp [intOf]⟩

set_option maxHeartbeats 800000 in
theorem rof_calls (p f c : Nat) (a : Option Addr) (l : List Nat) (hp2 : 2 ≤ Gf2.len p) (hp : p < 2 ^ 64) (hf : Gf2.len f < Gf2.len p) (w : World) (hl : BytesAt w a l) (hn : l.length < 2 ^ 60) :
    Calls Try.prog 82 #[U p, U f, .slice a l.length c] w fun e w' => e = .returned (U (Gf2.onBytes p f l)) ∧ w = w' := by
  obtain ⟨hsm, hl⟩ := hl
  have hp0 : p ≠ 0 := fun e => by rw [e, Gf2.len_zero] at hp2; omega
  by_cases h0 : l = []
  · subst h0
    go_enter Try.func82, Try.ntmps82
    go_wp2
    refine wp_loop_rounds 1 ?_
    rw [rounds_succ]
    go_wp2
    go_ret
    exact ⟨rfl, rfl⟩
  · obtain ⟨b, off, rfl, hcell⟩ := hl.resolve_left h0
    go_enter Try.func82, Try.ntmps82
    go_wp2
    go_loop [1, 7] (fun vf vi => ∃ k g : Nat, vi = I k ∧ vf = U g ∧ k ≤ l.length ∧ Gf2.len g < Gf2.len p ∧ g = Gf2.onBytes p f (l.take k)) (fun _ vi => l.length - (intOf vi).toNat)
    case atStart => exact ⟨0, f, rfl, rfl, Nat.zero_le _, hf, rfl⟩
    case round =>
      obtain ⟨k, g, rfl, rfl, hk, hg, hge⟩ := hrel
      by_cases hlt : k < l.length
      · have hc := hcell k hlt
        obtain ⟨x, hxe⟩ : ∃ x, l.getD k 0 = x := ⟨_, rfl⟩
        rw [hxe] at hc
        have hx : x < 256 := hsm x (getD_mem hlt hxe)
        have ht := take_getD hlt hxe
        have HG := Lib.hid (show Gf2.onBytes p f (l.take (k + 1)) = Gf2.onByte p g x by rw [ht, Gf2.onBytes_snoc, hge])
        clear ht hge hxe hcell
        go_wp2_with (go_at_call 103; refine (ron_calls p g x hp2 hp hg hx _).mono ?_; rintro e w1 ⟨rfl, rfl⟩)
        go_round
        case rel => exact ⟨k + 1, _, by go_num, rfl, hlt, Gf2.onByte_lt hp0 g x, HG.out.symm⟩
        case measure => simp [intOf]; omega
      · obtain rfl : k = l.length := by omega
        rw [List.take_length] at hge
        subst hge
        go_wp2
        go_ret
        exact ⟨rfl, rfl⟩

/-- What Extend says. -/
def tExtend (p f : Nat) (l : List Nat) : Nat × Int := if Gf2.len p < 5 then (0, 200) else if Gf2.len p ≤ Gf2.len f then (0, 1) else if 100000 < l.length then (0, 2) else (Gf2.onBytes p f l, 0)
/-- What Join says. -/
def tJoin (p f g : Nat) (n : Int) : Nat × Int := if Gf2.len p < 5 then (0, 200) else if (Gf2.len p ≤ Gf2.len f ∨ Gf2.len p ≤ Gf2.len g) ∨ n < 0 ∨ 100000 < n then (0, 1) else (Gf2.mm p f (Gf2.powm p (Gf2.xr p) (8 * n).toNat) ^^^ g ^^^ Gf2.powm p (Gf2.xr p) (8 * n).toNat, 0)
/-- What Change says. -/
def tChange (p f : Nat) (n at_ : Int) (old new : Nat) : Nat × Int := if Gf2.len p < 5 then (0, 200) else if Gf2.len p ≤ Gf2.len f ∨ n < 0 ∨ 100000 < n ∨ at_ < 0 ∨ n ≤ at_ then (0, 1) else (f ^^^ Gf2.mm p (Gf2.pmod (old ^^^ new) p) (Gf2.powm p (Gf2.xr p) (8 * (n - 1 - at_)).toNat), 0)

theorem rest1_of (p f : Nat) (hp : p < 2 ^ 64) (hf : f < 2 ^ 64) (w : World) :
    Calls Try.prog 57 #[U p, .slice (some ⟨w.heap.size, 0, none⟩) 1 1] (w.alloc (.cells #[U f] 22)) fun e w' => e = .returned (.bool (!decide (Gf2.len p ≤ Gf2.len f))) ∧ Below w.heap.size w w' := by
  have hr := rest_calls p [f] w.heap.size 0 1 hp (by simp [hf]) (by simp) (w.alloc (.cells #[U f] 22)) (by simp) (by
    intro i hi
    obtain rfl : i = 0 := by simp at hi; omega
    unfold World.cell?; rw [alloc_new]; rfl)
  simp only [List.any_cons, List.any_nil, Bool.or_false, List.length_cons, List.length_nil] at hr
  exact hr.mono fun e w' ⟨h1, h2⟩ => ⟨h1, ((Below.refl _ _).alloc (Nat.le_refl _) _).trans (h2.mono (by simp))⟩
theorem rest2_of (p a b : Nat) (hp : p < 2 ^ 64) (ha : a < 2 ^ 64) (hb : b < 2 ^ 64) (w : World) :
    Calls Try.prog 57 #[U p, .slice (some ⟨w.heap.size, 0, none⟩) 2 2] (w.alloc (.cells #[U a, U b] 22)) fun e w' => e = .returned (.bool (!(decide (Gf2.len p ≤ Gf2.len a) || decide (Gf2.len p ≤ Gf2.len b)))) ∧ Below w.heap.size w w' := by
  have hr := rest_calls p [a, b] w.heap.size 0 2 hp (by simp [ha, hb]) (by simp) (w.alloc (.cells #[U a, U b] 22)) (by simp) (by
    intro i hi
    obtain rfl | rfl : i = 0 ∨ i = 1 := by simp at hi; omega
    · unfold World.cell?; rw [alloc_new]; rfl
    · unfold World.cell?; rw [alloc_new]; rfl)
  simp only [List.any_cons, List.any_nil, Bool.or_false, List.length_cons, List.length_nil] at hr
  exact hr.mono fun e w' ⟨h1, h2⟩ => ⟨h1, ((Below.refl _ _).alloc (Nat.le_refl _) _).trans (h2.mono (by simp))⟩

theorem on1_calls (p d B cap : Nat) (a : Option Addr) (l : List Nat) (hd : Gf2.len p = d + 1) (hd4 : 4 ≤ d) (hp : p < 2 ^ 64) (w : World) (hM : Mach B p d 256 (tab p) w) (hl : BytesAt w a l) (hn : l.length < 2 ^ 60) :
    Calls Try.prog 75 #[.pointer (some ⟨B, 0, none⟩), .int .u64 1, .slice a l.length cap] w fun e w' => e = .returned (U (Gf2.onBytes p 1 l)) ∧ ∃ n, w' = w.drewN n := on_calls p d 1 B cap a l hd hd4 hp (by rw [Gf2.len_one]; omega) w hM hl hn

set_option maxHeartbeats 1600000 in
theorem Of_calls (p c : Nat) (a : Option Addr) (l : List Nat) (hp : p < 2 ^ 64) (w : World) (hl : BytesAt w a l) (hn : l.length < 2 ^ 60) :
    Calls Try.prog 30 #[U p, .slice a l.length c] w fun e w' => e = .returned (.tuple #[U (tExtend p 1 l).1, I (tExtend p 1 l).2]) ∧ Below w.heap.size w w' := by
  have hc := isPoly_calls p hp w
  by_cases h5 : Gf2.len p < 5
  · have hd : decide (5 ≤ Gf2.len p) = false := by simp; omega
    have ht : tExtend p 1 l = (0, 200) := by rw [tExtend, if_pos h5]
    rw [hd] at hc
    rw [ht]
    clear ht hd
    go_enter Try.func30, Try.ntmps30
    go_wp2_with (first | (go_at_call 56; refine (hc).mono ?_; rintro e w0 ⟨rfl, rfl⟩))
    go_ret2
    exact ⟨rfl, Below.refl _ _⟩
  · have hd : decide (5 ≤ Gf2.len p) = true := by simp; omega
    rw [hd] at hc
    clear hd
    by_cases hbig : 100000 < l.length
    · have ht : tExtend p 1 l = (0, 2) := by rw [tExtend, if_neg h5, if_neg (show ¬ Gf2.len p ≤ Gf2.len 1 by rw [Gf2.len_one]; omega), if_pos hbig]
      rw [ht]
      clear ht
      go_enter Try.func30, Try.ntmps30
      go_wp2_with (first | (go_at_call 56; refine (hc).mono ?_; rintro e w0 ⟨rfl, rfl⟩))
      go_ret2
      exact ⟨rfl, Below.refl _ _⟩
    · have ht : tExtend p 1 l = (Gf2.onBytes p 1 l, 0) := by rw [tExtend, if_neg h5, if_neg (show ¬ Gf2.len p ≤ Gf2.len 1 by rw [Gf2.len_one]; omega), if_neg hbig]
      rw [ht]
      clear ht
      go_enter Try.func30, Try.ntmps30
      go_wp2_with (first | (go_at_call 56; refine (hc).mono ?_; rintro e w0 ⟨rfl, rfl⟩) | (go_at_call 74; refine (newMachine_calls p (by omega) hp _).mono ?_; rintro e w2 ⟨rfl, hB2, hlt2, hM⟩) | (go_at_call 75; refine (on1_calls p (Gf2.len p - 1) _ c a l (by omega) (by omega) hp _ hM (hl.below' hB2) hn).mono ?_; rintro e w3 ⟨rfl, n3, rfl⟩))
      go_ret2
      exact ⟨rfl, below_drewN hB2 _⟩

set_option maxHeartbeats 1600000 in
theorem Extend_calls (p f c : Nat) (a : Option Addr) (l : List Nat) (hp : p < 2 ^ 64) (hf : f < 2 ^ 64) (w : World) (hl : BytesAt w a l) (hn : l.length < 2 ^ 60) :
    Calls Try.prog 46 #[U p, U f, .slice a l.length c] w fun e w' => e = .returned (.tuple #[U (tExtend p f l).1, I (tExtend p f l).2]) ∧ Below w.heap.size w w' := by
  have hc := isPoly_calls p hp w
  by_cases h5 : Gf2.len p < 5
  · have hd : decide (5 ≤ Gf2.len p) = false := by simp; omega
    have ht : tExtend p f l = (0, 200) := by rw [tExtend, if_pos h5]
    rw [hd] at hc
    rw [ht]
    clear ht hd
    go_enter Try.func46, Try.ntmps46
    go_wp2_with (first | (go_at_call 56; refine (hc).mono ?_; rintro e w0 ⟨rfl, rfl⟩))
    go_ret2
    exact ⟨rfl, Below.refl _ _⟩
  · have hd : decide (5 ≤ Gf2.len p) = true := by simp; omega
    rw [hd] at hc
    clear hd
    have hr := rest1_of p f hp hf w
    by_cases hr1 : Gf2.len p ≤ Gf2.len f
    · have hx : (!decide (Gf2.len p ≤ Gf2.len f)) = false := by simp; omega
      have ht : tExtend p f l = (0, 1) := by rw [tExtend, if_neg h5, if_pos hr1]
      rw [hx] at hr
      rw [ht]
      clear ht hx
      go_enter Try.func46, Try.ntmps46
      go_wp2_with (first | (go_at_call 56; refine (hc).mono ?_; rintro e w0 ⟨rfl, rfl⟩) | (go_at_call 57; refine (hr).mono ?_; rintro e w1 ⟨rfl, hB⟩))
      go_ret2
      exact ⟨rfl, hB⟩
    · have hx : (!decide (Gf2.len p ≤ Gf2.len f)) = true := by simp; omega
      rw [hx] at hr
      clear hx
      by_cases hbig : 100000 < l.length
      · have ht : tExtend p f l = (0, 2) := by rw [tExtend, if_neg h5, if_neg hr1, if_pos hbig]
        rw [ht]
        clear ht
        go_enter Try.func46, Try.ntmps46
        go_wp2_with (first | (go_at_call 56; refine (hc).mono ?_; rintro e w0 ⟨rfl, rfl⟩) | (go_at_call 57; refine (hr).mono ?_; rintro e w1 ⟨rfl, hB⟩))
        go_ret2
        exact ⟨rfl, hB⟩
      · have ht : tExtend p f l = (Gf2.onBytes p f l, 0) := by rw [tExtend, if_neg h5, if_neg hr1, if_neg hbig]
        rw [ht]
        clear ht
        go_enter Try.func46, Try.ntmps46
        go_wp2_with (first | (go_at_call 56; refine (hc).mono ?_; rintro e w0 ⟨rfl, rfl⟩) | (go_at_call 57; refine (hr).mono ?_; rintro e w1 ⟨rfl, hB⟩) | (go_at_call 74; refine (newMachine_calls p (by omega) hp _).mono ?_; rintro e w2 ⟨rfl, hB2, hlt2, hM⟩) | (go_at_call 75; refine (on_calls p (Gf2.len p - 1) f _ c a l (by omega) (by omega) hp (by omega) _ hM ((hl.below' hB).below' hB2) hn).mono ?_; rintro e w3 ⟨rfl, n3, rfl⟩))
        go_ret2
        exact ⟨rfl, below_drewN (hB.trans (hB2.mono hB.size)) _⟩

set_option maxHeartbeats 1600000 in
theorem RExtend_calls (p f c : Nat) (a : Option Addr) (l : List Nat) (hp : p < 2 ^ 64) (hf : f < 2 ^ 64) (w : World) (hl : BytesAt w a l) (hn : l.length < 2 ^ 60) :
    Calls Try.prog 47 #[U p, U f, .slice a l.length c] w fun e w' => e = .returned (.tuple #[U (tExtend p f l).1, I (tExtend p f l).2]) ∧ w = w' := by
  have hc := fits_calls p hp w
  by_cases h5 : Gf2.len p < 5
  · have hd : decide (5 ≤ Gf2.len p) = false := by simp; omega
    have ht : tExtend p f l = (0, 200) := by rw [tExtend, if_pos h5]
    rw [hd] at hc
    rw [ht]
    clear ht hd
    go_enter Try.func47, Try.ntmps47
    go_wp2_with (first | (go_at_call 59; refine (hc).mono ?_; rintro e w0 ⟨rfl, rfl⟩))
    go_ret2
    exact ⟨rfl, rfl⟩
  · have hd : decide (5 ≤ Gf2.len p) = true := by simp; omega
    rw [hd] at hc
    clear hd
    have hr := rrest_calls p f hp hf w
    by_cases hr1 : Gf2.len p ≤ Gf2.len f
    · have hx : decide (Gf2.len f < Gf2.len p) = false := by simp; omega
      have ht : tExtend p f l = (0, 1) := by rw [tExtend, if_neg h5, if_pos hr1]
      rw [hx] at hr
      rw [ht]
      clear ht hx
      go_enter Try.func47, Try.ntmps47
      go_wp2_with (first | (go_at_call 59; refine (hc).mono ?_; rintro e w0 ⟨rfl, rfl⟩) | (go_at_call 60; refine (hr).mono ?_; rintro e w1 ⟨rfl, rfl⟩))
      go_ret2
      exact ⟨rfl, rfl⟩
    · have hx : decide (Gf2.len f < Gf2.len p) = true := by simp; omega
      rw [hx] at hr
      clear hx
      by_cases hbig : 100000 < l.length
      · have ht : tExtend p f l = (0, 2) := by rw [tExtend, if_neg h5, if_neg hr1, if_pos hbig]
        rw [ht]
        clear ht
        go_enter Try.func47, Try.ntmps47
        go_wp2_with (first | (go_at_call 59; refine (hc).mono ?_; rintro e w0 ⟨rfl, rfl⟩) | (go_at_call 60; refine (hr).mono ?_; rintro e w1 ⟨rfl, rfl⟩))
        go_ret2
        exact ⟨rfl, rfl⟩
      · have ht : tExtend p f l = (Gf2.onBytes p f l, 0) := by rw [tExtend, if_neg h5, if_neg hr1, if_neg hbig]
        rw [ht]
        clear ht
        go_enter Try.func47, Try.ntmps47
        go_wp2_with (first | (go_at_call 59; refine (hc).mono ?_; rintro e w0 ⟨rfl, rfl⟩) | (go_at_call 60; refine (hr).mono ?_; rintro e w1 ⟨rfl, rfl⟩) | (go_at_call 82; refine (rof_calls p f c a l (by omega) hp (show Gf2.len f < Gf2.len p by omega) _ hl hn).mono ?_; rintro e w2 ⟨rfl, rfl⟩))
        go_ret2
        exact ⟨rfl, rfl⟩

set_option maxHeartbeats 400000 in
theorem ROf_calls (p c : Nat) (a : Option Addr) (l : List Nat) (hp : p < 2 ^ 64) (w : World) (hl : BytesAt w a l) (hn : l.length < 2 ^ 60) :
    Calls Try.prog 45 #[U p, .slice a l.length c] w fun e w' => e = .returned (.tuple #[U (tExtend p 1 l).1, I (tExtend p 1 l).2]) ∧ w = w' := by
  have h : Calls Try.prog 47 #[U p, .int .u64 1, .slice a l.length c] w fun e w' => e = .returned (.tuple #[U (tExtend p 1 l).1, I (tExtend p 1 l).2]) ∧ w = w' := RExtend_calls p 1 c a l hp (by decide) w hl hn
  go_enter Try.func45, Try.ntmps45
  go_wp2_with (go_at_call 47; refine h.mono ?_; rintro e w1 ⟨rfl, rfl⟩)
  go_ret2
  exact ⟨rfl, rfl⟩

theorem tup_ui {a b : Int} {e : Int} (h : a = b) : Ending.returned (.tuple #[.int .u64 a, .int .i64 e]) = .returned (.tuple #[.int .u64 b, .int .i64 e]) := by rw [h]

set_option maxHeartbeats 1600000 in
theorem Join_calls (p f g : Nat) (n : Int) (hp : p < 2 ^ 64) (hf : f < 2 ^ 64) (hg : g < 2 ^ 64) (w : World) :
    Calls Try.prog 48 #[U p, U f, U g, I n] w fun e w' => e = .returned (.tuple #[U (tJoin p f g n).1, I (tJoin p f g n).2]) ∧ Below w.heap.size w w' := by
  have hc := isPoly_calls p hp w
  by_cases h5 : Gf2.len p < 5
  · have hd : decide (5 ≤ Gf2.len p) = false := by simp; omega
    have ht : tJoin p f g n = (0, 200) := by rw [tJoin, if_pos h5]
    rw [hd] at hc
    rw [ht]
    clear ht hd
    go_enter Try.func48, Try.ntmps48
    go_wp2_with (first | (go_at_call 56; refine (hc).mono ?_; rintro e w0 ⟨rfl, rfl⟩))
    go_ret2
    exact ⟨rfl, Below.refl _ _⟩
  · have hd : decide (5 ≤ Gf2.len p) = true := by simp; omega
    rw [hd] at hc
    clear hd
    have hr := rest2_of p f g hp hf hg w
    by_cases hr1 : Gf2.len p ≤ Gf2.len f ∨ Gf2.len p ≤ Gf2.len g
    · have hx : (!(decide (Gf2.len p ≤ Gf2.len f) || decide (Gf2.len p ≤ Gf2.len g))) = false := by rcases hr1 with h | h <;> simp [h]
      have ht : tJoin p f g n = (0, 1) := by rw [tJoin, if_neg h5, if_pos (by omega)]
      rw [hx] at hr
      rw [ht]
      clear ht hx hr1
      go_enter Try.func48, Try.ntmps48
      go_wp2_with (first | (go_at_call 56; refine (hc).mono ?_; rintro e w0 ⟨rfl, rfl⟩) | (go_at_call 57; refine (hr).mono ?_; rintro e w1 ⟨rfl, hB⟩))
      go_ret2
      exact ⟨rfl, hB⟩
    have hx : (!(decide (Gf2.len p ≤ Gf2.len f) || decide (Gf2.len p ≤ Gf2.len g))) = true := by simp; omega
    rw [hx] at hr
    have hlf : Gf2.len f < Gf2.len p := by omega
    have hlg : Gf2.len g < Gf2.len p := by omega
    clear hx hr1
    by_cases hn0 : n < 0
    · have ht : tJoin p f g n = (0, 1) := by rw [tJoin, if_neg h5, if_pos (by omega)]
      rw [ht]
      clear ht
      go_enter Try.func48, Try.ntmps48
      go_wp2_with (first | (go_at_call 56; refine (hc).mono ?_; rintro e w0 ⟨rfl, rfl⟩) | (go_at_call 57; refine (hr).mono ?_; rintro e w1 ⟨rfl, hB⟩))
      go_ret2
      exact ⟨rfl, hB⟩
    by_cases hn1 : 100000 < n
    · have ht : tJoin p f g n = (0, 1) := by rw [tJoin, if_neg h5, if_pos (by omega)]
      rw [ht]
      clear ht
      go_enter Try.func48, Try.ntmps48
      go_wp2_with (first | (go_at_call 56; refine (hc).mono ?_; rintro e w0 ⟨rfl, rfl⟩) | (go_at_call 57; refine (hr).mono ?_; rintro e w1 ⟨rfl, hB⟩))
      go_ret2
      exact ⟨rfl, hB⟩
    have ht : tJoin p f g n = (Gf2.mm p f (Gf2.powm p (Gf2.xr p) (8 * n).toNat) ^^^ g ^^^ Gf2.powm p (Gf2.xr p) (8 * n).toNat, 0) := by rw [tJoin, if_neg h5, if_neg (by omega)]
    rw [ht]
    clear ht
    obtain ⟨m, rfl⟩ := Int.eq_ofNat_of_zero_le (show 0 ≤ n by omega)
    have hm : m ≤ 100000 := by omega
    have hme : 8 * (m : Int) = ((8 * m : Nat) : Int) := by omega
    rw [hme, Int.toNat_natCast]
    have hpl := Gf2.powm_lt (p := p) (by omega) (Gf2.xr p) (8 * m)
    have hpw : Gf2.powm p (Gf2.xr p) (8 * m) < 2 ^ 64 := lt_of_len (by have := len_le_64 hp; omega)
    have hmm := mm_lt64 (p := p) (by omega) hp f (Gf2.powm p (Gf2.xr p) (8 * m))
    have HX := Lib.hid (show bits .xor .u64 (bits .xor .u64 ((Gf2.mm p f (Gf2.powm p (Gf2.xr p) (8 * m)) : Nat) : Int) (g : Int)) ((Gf2.powm p (Gf2.xr p) (8 * m) : Nat) : Int) = ((Gf2.mm p f (Gf2.powm p (Gf2.xr p) (8 * m)) ^^^ g ^^^ Gf2.powm p (Gf2.xr p) (8 * m) : Nat) : Int) by rw [xor_u64 hmm hg, xor_u64 (Nat.xor_lt_two_pow hmm hg) hpw])
    have Hme := Lib.hid hme
    clear hme hn0 hn1
    go_enter Try.func48, Try.ntmps48
    go_wp2_with (first | (go_at_call 56; refine (hc).mono ?_; rintro e w0 ⟨rfl, rfl⟩) | (go_at_call 57; refine (hr).mono ?_; rintro e w1 ⟨rfl, hB⟩) | (go_at_call 65; rw [Hme.out]; refine (power_calls p (8 * m) (by omega) hp (by omega) _).mono ?_; rintro e w2 ⟨rfl, hB2⟩) | (go_at_call 58; refine (times_calls p f _ (by omega) hp hlf hpw _).mono ?_; rintro e w3 ⟨rfl, rfl⟩))
    go_ret2
    exact ⟨tup_ui HX.out, hB.trans (hB2.mono hB.size)⟩

set_option maxHeartbeats 1600000 in
theorem RJoin_calls (p f g : Nat) (n : Int) (hp : p < 2 ^ 64) (hf : f < 2 ^ 64) (hg : g < 2 ^ 64) (w : World) :
    Calls Try.prog 49 #[U p, U f, U g, I n] w fun e w' => e = .returned (.tuple #[U (tJoin p f g n).1, I (tJoin p f g n).2]) ∧ w = w' := by
  have hc := fits_calls p hp w
  by_cases h5 : Gf2.len p < 5
  · have hd : decide (5 ≤ Gf2.len p) = false := by simp; omega
    have ht : tJoin p f g n = (0, 200) := by rw [tJoin, if_pos h5]
    rw [hd] at hc
    rw [ht]
    clear ht hd
    go_enter Try.func49, Try.ntmps49
    go_wp2_with (first | (go_at_call 59; refine (hc).mono ?_; rintro e w0 ⟨rfl, rfl⟩))
    go_ret2
    exact ⟨rfl, rfl⟩
  · have hd : decide (5 ≤ Gf2.len p) = true := by simp; omega
    rw [hd] at hc
    clear hd
    by_cases hlf : Gf2.len f < Gf2.len p
    rotate_left
    · have ht : tJoin p f g n = (0, 1) := by rw [tJoin, if_neg h5, if_pos (by omega)]
      rw [ht]
      clear ht
      have hdf : decide (Gf2.len f < Gf2.len p) = false := decide_eq_false hlf
      go_enter Try.func49, Try.ntmps49
      go_wp2_with (first | (go_at_call 59; refine (hc).mono ?_; rintro e w0 ⟨rfl, rfl⟩) | (go_at_call 60; refine (rrest_calls _ _ (by assumption) (by assumption) _).mono ?_; rintro e w1 ⟨rfl, rfl⟩))
      go_ret2
      exact ⟨rfl, rfl⟩
    have hdf : decide (Gf2.len f < Gf2.len p) = true := decide_eq_true hlf
    by_cases hlg : Gf2.len g < Gf2.len p
    rotate_left
    · have ht : tJoin p f g n = (0, 1) := by rw [tJoin, if_neg h5, if_pos (by omega)]
      rw [ht]
      clear ht
      have hdg : decide (Gf2.len g < Gf2.len p) = false := decide_eq_false hlg
      go_enter Try.func49, Try.ntmps49
      go_wp2_with (first | (go_at_call 59; refine (hc).mono ?_; rintro e w0 ⟨rfl, rfl⟩) | (go_at_call 60; refine (rrest_calls _ _ (by assumption) (by assumption) _).mono ?_; rintro e w1 ⟨rfl, rfl⟩))
      go_ret2
      exact ⟨rfl, rfl⟩
    have hdg : decide (Gf2.len g < Gf2.len p) = true := decide_eq_true hlg
    by_cases hn0 : n < 0
    · have ht : tJoin p f g n = (0, 1) := by rw [tJoin, if_neg h5, if_pos (by omega)]
      rw [ht]
      clear ht
      go_enter Try.func49, Try.ntmps49
      go_wp2_with (first | (go_at_call 59; refine (hc).mono ?_; rintro e w0 ⟨rfl, rfl⟩) | (go_at_call 60; refine (rrest_calls _ _ (by assumption) (by assumption) _).mono ?_; rintro e w1 ⟨rfl, rfl⟩))
      go_ret2
      exact ⟨rfl, rfl⟩
    by_cases hn1 : 100000 < n
    · have ht : tJoin p f g n = (0, 1) := by rw [tJoin, if_neg h5, if_pos (by omega)]
      rw [ht]
      clear ht
      go_enter Try.func49, Try.ntmps49
      go_wp2_with (first | (go_at_call 59; refine (hc).mono ?_; rintro e w0 ⟨rfl, rfl⟩) | (go_at_call 60; refine (rrest_calls _ _ (by assumption) (by assumption) _).mono ?_; rintro e w1 ⟨rfl, rfl⟩))
      go_ret2
      exact ⟨rfl, rfl⟩
    have ht : tJoin p f g n = (Gf2.mm p f (Gf2.powm p (Gf2.xr p) (8 * n).toNat) ^^^ g ^^^ Gf2.powm p (Gf2.xr p) (8 * n).toNat, 0) := by rw [tJoin, if_neg h5, if_neg (by omega)]
    rw [ht]
    clear ht
    obtain ⟨m, rfl⟩ := Int.eq_ofNat_of_zero_le (show 0 ≤ n by omega)
    have hm : m ≤ 100000 := by omega
    have hme : 8 * (m : Int) = ((8 * m : Nat) : Int) := by omega
    rw [hme, Int.toNat_natCast]
    have hpl := Gf2.powm_lt (p := p) (by omega) (Gf2.xr p) (8 * m)
    have hpw : Gf2.powm p (Gf2.xr p) (8 * m) < 2 ^ 64 := lt_of_len (by have := len_le_64 hp; omega)
    have hmm := mm_lt64 (p := p) (by omega) hp f (Gf2.powm p (Gf2.xr p) (8 * m))
    have HX := Lib.hid (show bits .xor .u64 (bits .xor .u64 ((Gf2.mm p f (Gf2.powm p (Gf2.xr p) (8 * m)) : Nat) : Int) (g : Int)) ((Gf2.powm p (Gf2.xr p) (8 * m) : Nat) : Int) = ((Gf2.mm p f (Gf2.powm p (Gf2.xr p) (8 * m)) ^^^ g ^^^ Gf2.powm p (Gf2.xr p) (8 * m) : Nat) : Int) by rw [xor_u64 hmm hg, xor_u64 (Nat.xor_lt_two_pow hmm hg) hpw])
    have Hme := Lib.hid hme
    clear hme hn0 hn1
    go_enter Try.func49, Try.ntmps49
    go_wp2_with (first | (go_at_call 59; refine (hc).mono ?_; rintro e w0 ⟨rfl, rfl⟩) | (go_at_call 60; refine (rrest_calls _ _ (by assumption) (by assumption) _).mono ?_; rintro e w1 ⟨rfl, rfl⟩) | (go_at_call 66; rw [Hme.out]; refine (rpower_calls p (8 * m) (by omega) hp (by omega) _).mono ?_; rintro e w2 ⟨rfl, rfl⟩) | (go_at_call 61; refine (rtimes_calls p f _ (by omega) hp hlf hpl _).mono ?_; rintro e w3 ⟨rfl, rfl⟩))
    go_ret2
    exact ⟨tup_ui HX.out, rfl⟩

theorem xor_u8 {a b : Nat} (ha : a < 256) (hb : b < 256) : bits .xor .u8 (a : Int) (b : Int) = ((a ^^^ b : Nat) : Int) := by
  have ha' : a % 2 ^ 8 = a := Nat.mod_eq_of_lt ha
  have hb' : b % 2 ^ 8 = b := Nat.mod_eq_of_lt hb
  show IntKind.u8.wrap (((BitVec.ofInt 8 (a : Int)) ^^^ (BitVec.ofInt 8 (b : Int))).toNat : Int) = _
  rw [BitVec.toNat_xor, BitVec.ofInt_natCast, BitVec.ofInt_natCast, BitVec.toNat_ofNat, BitVec.toNat_ofNat, ha', hb']
  exact wraps_u8b _ (Int.natCast_nonneg _) (by exact_mod_cast Nat.xor_lt_two_pow (n := 8) ha hb)

set_option maxHeartbeats 1600000 in
theorem Change_calls (p f : Nat) (n q : Int) (old new : Nat) (hp : p < 2 ^ 64) (hf : f < 2 ^ 64) (ho : old < 256) (hnw : new < 256) (w : World) :
    Calls Try.prog 50 #[U p, U f, I n, I q, .int .u8 old, .int .u8 new] w fun e w' => e = .returned (.tuple #[U (tChange p f n q old new).1, I (tChange p f n q old new).2]) ∧ Below w.heap.size w w' := by
  have hc := isPoly_calls p hp w
  by_cases h5 : Gf2.len p < 5
  · have hd : decide (5 ≤ Gf2.len p) = false := by simp; omega
    have ht : tChange p f n q old new = (0, 200) := by rw [tChange, if_pos h5]
    rw [hd] at hc
    rw [ht]
    clear ht hd
    go_enter Try.func50, Try.ntmps50
    go_wp2_with (first | (go_at_call 56; refine (hc).mono ?_; rintro e w0 ⟨rfl, rfl⟩))
    go_ret2
    exact ⟨rfl, Below.refl _ _⟩
  · have hd : decide (5 ≤ Gf2.len p) = true := by simp; omega
    rw [hd] at hc
    clear hd
    have hr := rest1_of p f hp hf w
    by_cases hr1 : Gf2.len p ≤ Gf2.len f
    · have hx : (!decide (Gf2.len p ≤ Gf2.len f)) = false := by simp; omega
      have ht : tChange p f n q old new = (0, 1) := by rw [tChange, if_neg h5, if_pos (by omega)]
      rw [hx] at hr
      rw [ht]
      clear ht hx
      go_enter Try.func50, Try.ntmps50
      go_wp2_with (first | (go_at_call 56; refine (hc).mono ?_; rintro e w0 ⟨rfl, rfl⟩) | (go_at_call 57; refine (hr).mono ?_; rintro e w1 ⟨rfl, hB⟩))
      go_ret2
      exact ⟨rfl, hB⟩
    have hx : (!decide (Gf2.len p ≤ Gf2.len f)) = true := by simp; omega
    rw [hx] at hr
    have hlf : Gf2.len f < Gf2.len p := by omega
    clear hx hr1
    by_cases hn0 : n < 0
    · have ht : tChange p f n q old new = (0, 1) := by rw [tChange, if_neg h5, if_pos (by omega)]
      rw [ht]
      clear ht
      go_enter Try.func50, Try.ntmps50
      go_wp2_with (first | (go_at_call 56; refine (hc).mono ?_; rintro e w0 ⟨rfl, rfl⟩) | (go_at_call 57; refine (hr).mono ?_; rintro e w1 ⟨rfl, hB⟩))
      go_ret2
      exact ⟨rfl, hB⟩
    by_cases hn1 : 100000 < n
    · have ht : tChange p f n q old new = (0, 1) := by rw [tChange, if_neg h5, if_pos (by omega)]
      rw [ht]
      clear ht
      go_enter Try.func50, Try.ntmps50
      go_wp2_with (first | (go_at_call 56; refine (hc).mono ?_; rintro e w0 ⟨rfl, rfl⟩) | (go_at_call 57; refine (hr).mono ?_; rintro e w1 ⟨rfl, hB⟩))
      go_ret2
      exact ⟨rfl, hB⟩
    by_cases hq0 : q < 0
    · have ht : tChange p f n q old new = (0, 1) := by rw [tChange, if_neg h5, if_pos (by omega)]
      rw [ht]
      clear ht
      go_enter Try.func50, Try.ntmps50
      go_wp2_with (first | (go_at_call 56; refine (hc).mono ?_; rintro e w0 ⟨rfl, rfl⟩) | (go_at_call 57; refine (hr).mono ?_; rintro e w1 ⟨rfl, hB⟩))
      go_ret2
      exact ⟨rfl, hB⟩
    by_cases hq1 : n ≤ q
    · have ht : tChange p f n q old new = (0, 1) := by rw [tChange, if_neg h5, if_pos (by omega)]
      rw [ht]
      clear ht
      go_enter Try.func50, Try.ntmps50
      go_wp2_with (first | (go_at_call 56; refine (hc).mono ?_; rintro e w0 ⟨rfl, rfl⟩) | (go_at_call 57; refine (hr).mono ?_; rintro e w1 ⟨rfl, hB⟩))
      go_ret2
      exact ⟨rfl, hB⟩
    have ht : tChange p f n q old new = (f ^^^ Gf2.mm p (Gf2.pmod (old ^^^ new) p) (Gf2.powm p (Gf2.xr p) (8 * (n - 1 - q)).toNat), 0) := by rw [tChange, if_neg h5, if_neg (by omega)]
    rw [ht]
    clear ht
    obtain ⟨m, hm⟩ := Int.eq_ofNat_of_zero_le (show 0 ≤ n - 1 - q by omega)
    have hml : m ≤ 100000 := by omega
    have hme : 8 * (m : Int) = ((8 * m : Nat) : Int) := by omega
    rw [hm, hme, Int.toNat_natCast]
    have hp0 : p ≠ 0 := fun e => by subst e; rw [Gf2.len_zero] at h5; omega
    have hxo : old ^^^ new < 256 := by have := Nat.xor_lt_two_pow (n := 8) ho hnw; omega
    have hbx : bits .xor .u8 (old : Int) (new : Int) = ((old ^^^ new : Nat) : Int) := xor_u8 ho hnw
    have hpl := Gf2.powm_lt (p := p) (by omega) (Gf2.xr p) (8 * m)
    have hpw : Gf2.powm p (Gf2.xr p) (8 * m) < 2 ^ 64 := lt_of_len (by have := len_le_64 hp; omega)
    have hdl := Gf2.len_mod_lt (old ^^^ new) hp0
    have hmm := mm_lt64 (p := p) (by omega) hp (Gf2.pmod (old ^^^ new) p) (Gf2.powm p (Gf2.xr p) (8 * m))
    have HX := Lib.hid (show bits .xor .u64 (f : Int) ((Gf2.mm p (Gf2.pmod (old ^^^ new) p) (Gf2.powm p (Gf2.xr p) (8 * m)) : Nat) : Int) = ((f ^^^ Gf2.mm p (Gf2.pmod (old ^^^ new) p) (Gf2.powm p (Gf2.xr p) (8 * m)) : Nat) : Int) by rw [xor_u64 hf hmm])
    have Hm := Lib.hid (show 8 * (n - 1 - q) = ((8 * m : Nat) : Int) by omega)
    obtain ⟨d, hd⟩ : ∃ d, old ^^^ new = d := ⟨_, rfl⟩
    rw [hd] at hxo hbx hdl hmm HX
    rw [hd]
    clear hme hm hd
    have hd64 : d < 2 ^ 64 := by omega
    go_enter Try.func50, Try.ntmps50
    go_wp2_with (first | (go_at_call 56; refine (hc).mono ?_; rintro e w0 ⟨rfl, rfl⟩) | (go_at_call 57; refine (hr).mono ?_; rintro e w1 ⟨rfl, hB⟩) | (go_at_call 63; refine (mod_calls d p hd64 hp hp0 _).mono ?_; rintro e w4 ⟨rfl, rfl⟩) | (go_at_call 65; rw [Hm.out]; refine (power_calls p (8 * m) (by omega) hp (by omega) _).mono ?_; rintro e w2 ⟨rfl, hB2⟩) | (go_at_call 58; refine (times_calls p _ _ (by omega) hp hdl hpw _).mono ?_; rintro e w3 ⟨rfl, rfl⟩))
    go_ret2
    exact ⟨tup_ui HX.out, hB.trans (hB2.mono hB.size)⟩

set_option maxHeartbeats 1600000 in
theorem RChange_calls (p f : Nat) (n q : Int) (old new : Nat) (hp : p < 2 ^ 64) (hf : f < 2 ^ 64) (ho : old < 256) (hnw : new < 256) (w : World) :
    Calls Try.prog 51 #[U p, U f, I n, I q, .int .u8 old, .int .u8 new] w fun e w' => e = .returned (.tuple #[U (tChange p f n q old new).1, I (tChange p f n q old new).2]) ∧ w = w' := by
  have hc := fits_calls p hp w
  by_cases h5 : Gf2.len p < 5
  · have hd : decide (5 ≤ Gf2.len p) = false := by simp; omega
    have ht : tChange p f n q old new = (0, 200) := by rw [tChange, if_pos h5]
    rw [hd] at hc
    rw [ht]
    clear ht hd
    go_enter Try.func51, Try.ntmps51
    go_wp2_with (first | (go_at_call 59; refine (hc).mono ?_; rintro e w0 ⟨rfl, rfl⟩))
    go_ret2
    exact ⟨rfl, rfl⟩
  · have hd : decide (5 ≤ Gf2.len p) = true := by simp; omega
    rw [hd] at hc
    clear hd
    by_cases hlf : Gf2.len f < Gf2.len p
    rotate_left
    · have ht : tChange p f n q old new = (0, 1) := by rw [tChange, if_neg h5, if_pos (by omega)]
      rw [ht]
      clear ht
      have hdf : decide (Gf2.len f < Gf2.len p) = false := decide_eq_false hlf
      go_enter Try.func51, Try.ntmps51
      go_wp2_with (first | (go_at_call 59; refine (hc).mono ?_; rintro e w0 ⟨rfl, rfl⟩) | (go_at_call 60; refine (rrest_calls _ _ (by assumption) (by assumption) _).mono ?_; rintro e w1 ⟨rfl, rfl⟩))
      go_ret2
      exact ⟨rfl, rfl⟩
    have hdf : decide (Gf2.len f < Gf2.len p) = true := decide_eq_true hlf
    by_cases hn0 : n < 0
    · have ht : tChange p f n q old new = (0, 1) := by rw [tChange, if_neg h5, if_pos (by omega)]
      rw [ht]
      clear ht
      go_enter Try.func51, Try.ntmps51
      go_wp2_with (first | (go_at_call 59; refine (hc).mono ?_; rintro e w0 ⟨rfl, rfl⟩) | (go_at_call 60; refine (rrest_calls _ _ (by assumption) (by assumption) _).mono ?_; rintro e w1 ⟨rfl, rfl⟩))
      go_ret2
      exact ⟨rfl, rfl⟩
    by_cases hn1 : 100000 < n
    · have ht : tChange p f n q old new = (0, 1) := by rw [tChange, if_neg h5, if_pos (by omega)]
      rw [ht]
      clear ht
      go_enter Try.func51, Try.ntmps51
      go_wp2_with (first | (go_at_call 59; refine (hc).mono ?_; rintro e w0 ⟨rfl, rfl⟩) | (go_at_call 60; refine (rrest_calls _ _ (by assumption) (by assumption) _).mono ?_; rintro e w1 ⟨rfl, rfl⟩))
      go_ret2
      exact ⟨rfl, rfl⟩
    by_cases hq0 : q < 0
    · have ht : tChange p f n q old new = (0, 1) := by rw [tChange, if_neg h5, if_pos (by omega)]
      rw [ht]
      clear ht
      go_enter Try.func51, Try.ntmps51
      go_wp2_with (first | (go_at_call 59; refine (hc).mono ?_; rintro e w0 ⟨rfl, rfl⟩) | (go_at_call 60; refine (rrest_calls _ _ (by assumption) (by assumption) _).mono ?_; rintro e w1 ⟨rfl, rfl⟩))
      go_ret2
      exact ⟨rfl, rfl⟩
    by_cases hq1 : n ≤ q
    · have ht : tChange p f n q old new = (0, 1) := by rw [tChange, if_neg h5, if_pos (by omega)]
      rw [ht]
      clear ht
      go_enter Try.func51, Try.ntmps51
      go_wp2_with (first | (go_at_call 59; refine (hc).mono ?_; rintro e w0 ⟨rfl, rfl⟩) | (go_at_call 60; refine (rrest_calls _ _ (by assumption) (by assumption) _).mono ?_; rintro e w1 ⟨rfl, rfl⟩))
      go_ret2
      exact ⟨rfl, rfl⟩
    have ht : tChange p f n q old new = (f ^^^ Gf2.mm p (Gf2.pmod (old ^^^ new) p) (Gf2.powm p (Gf2.xr p) (8 * (n - 1 - q)).toNat), 0) := by rw [tChange, if_neg h5, if_neg (by omega)]
    rw [ht]
    clear ht
    obtain ⟨m, hm⟩ := Int.eq_ofNat_of_zero_le (show 0 ≤ n - 1 - q by omega)
    have hml : m ≤ 100000 := by omega
    have hme : 8 * (m : Int) = ((8 * m : Nat) : Int) := by omega
    rw [hm, hme, Int.toNat_natCast]
    have hp0 : p ≠ 0 := fun e => by subst e; rw [Gf2.len_zero] at h5; omega
    have hxo : old ^^^ new < 256 := by have := Nat.xor_lt_two_pow (n := 8) ho hnw; omega
    have hbx : bits .xor .u8 (old : Int) (new : Int) = ((old ^^^ new : Nat) : Int) := xor_u8 ho hnw
    have hpl := Gf2.powm_lt (p := p) (by omega) (Gf2.xr p) (8 * m)
    have hpw : Gf2.powm p (Gf2.xr p) (8 * m) < 2 ^ 64 := lt_of_len (by have := len_le_64 hp; omega)
    have hdl := Gf2.len_mod_lt (old ^^^ new) hp0
    have hmm := mm_lt64 (p := p) (by omega) hp (Gf2.pmod (old ^^^ new) p) (Gf2.powm p (Gf2.xr p) (8 * m))
    have HX := Lib.hid (show bits .xor .u64 (f : Int) ((Gf2.mm p (Gf2.pmod (old ^^^ new) p) (Gf2.powm p (Gf2.xr p) (8 * m)) : Nat) : Int) = ((f ^^^ Gf2.mm p (Gf2.pmod (old ^^^ new) p) (Gf2.powm p (Gf2.xr p) (8 * m)) : Nat) : Int) by rw [xor_u64 hf hmm])
    have Hm := Lib.hid (show 8 * (n - 1 - q) = ((8 * m : Nat) : Int) by omega)
    obtain ⟨d, hd⟩ : ∃ d, old ^^^ new = d := ⟨_, rfl⟩
    rw [hd] at hxo hbx hdl hmm HX
    rw [hd]
    clear hme hm hd
    have hd64 : d < 2 ^ 64 := by omega
    go_enter Try.func51, Try.ntmps51
    go_wp2_with (first | (go_at_call 59; refine (hc).mono ?_; rintro e w0 ⟨rfl, rfl⟩) | (go_at_call 60; refine (rrest_calls _ _ (by assumption) (by assumption) _).mono ?_; rintro e w1 ⟨rfl, rfl⟩) | (go_at_call 68; refine (rdivide_calls d p hd64 hp hp0 _).mono ?_; rintro e w4 ⟨rfl, rfl⟩) | (go_at_call 66; rw [Hm.out]; refine (rpower_calls p (8 * m) (by omega) hp (by omega) _).mono ?_; rintro e w2 ⟨rfl, rfl⟩) | (go_at_call 61; refine (rtimes_calls p _ _ (by omega) hp hdl hpl _).mono ?_; rintro e w3 ⟨rfl, rfl⟩))
    go_ret2
    exact ⟨tup_ui HX.out, rfl⟩

end Go.Proofs.Ytjgfcnhnlaobcaa
