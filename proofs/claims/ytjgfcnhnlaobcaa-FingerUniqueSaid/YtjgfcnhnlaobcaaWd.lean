/- Walks: powers. -/
import Derived.Test.YtjgfcnhnlaobcaaWc
import Derived.Test.YtjgfcnhnlaobcaaReg
import Derived.Deep.RegionWith
namespace Go.Proofs.Ytjgfcnhnlaobcaa
open Go.RowKit

theorem mod1_calls (p : Nat) (hp : p < 2 ^ 64) (hp0 : p ≠ 0) (w : World) :
    Calls Try.prog 63 #[.int .u64 1, U p] w fun e w' => e = .returned (U (Gf2.pmod 1 p)) ∧ w = w' := mod_calls 1 p (by decide) hp hp0 w
theorem mod2_calls (p : Nat) (hp : p < 2 ^ 64) (hp0 : p ≠ 0) (w : World) :
    Calls Try.prog 63 #[.int .u64 2, U p] w fun e w' => e = .returned (U (Gf2.pmod 2 p)) ∧ w = w' := mod_calls 2 p (by decide) hp hp0 w

/-- What the statement 'out, x := mod(1, p), mod(2, p)' has done so far. -/
def PowJ (p : Nat) (n : Int) (B : Nat) (w0 : World) (L : Nat → Bool) (a : Act) (w : World) : Prop :=
  ∃ v5 v6 v7 v8 v9 v10 : Value,
    a = { tmps := #[U p, I n, .pointer (some ⟨B, 0, none⟩), undef, U 0, v5, v6, v7, v8, v9, v10, undef, undef, undef, undef, undef], defers := [] } ∧
    Below (B + 1) w0 w ∧ w.heap[B]? = some (.cells #[U p] 22 (0, 0)) ∧
    (L 0 = true → v7 = U p) ∧ (L 1 = true → v8 = U (Gf2.pmod 1 p)) ∧ (L 2 = true → v9 = U p) ∧ (L 3 = true → v10 = U (Gf2.pmod 2 p)) ∧
    (L 4 = true → ∃ b, v5 = .pointer (some ⟨b, 0, none⟩) ∧ B < b ∧ (L 6 = false → w.heap[b]? = some (.cells #[U 0] 22 (0, 0))) ∧ (L 6 = true → w.heap[b]? = some (.cells #[U (Gf2.pmod 1 p)] 22 (0, 0)))) ∧
    (L 5 = true → ∃ b, v6 = .pointer (some ⟨b, 0, none⟩) ∧ B < b ∧ (L 7 = false → w.heap[b]? = some (.cells #[U 0] 22 (0, 0))) ∧ (L 7 = true → w.heap[b]? = some (.cells #[U (Gf2.pmod 2 p)] 22 (0, 0)))) ∧
    (L 4 = true → L 5 = true → v5 ≠ v6) ∧ (L 6 = true → L 4 = true) ∧ (L 7 = true → L 5 = true)

theorem block_ne {w : World} {b c : Nat} {x : Obj} (h1 : w.heap[b]? = some x) (h2 : w.heap[c]? = none) : b ≠ c := fun e => by subst e; rw [h1] at h2; cases h2
theorem block_fresh {w : World} {b : Nat} {x : Obj} (h : w.heap[b]? = some x) : b ≠ w.heap.size := Nat.ne_of_lt (lt_of_block h)
theorem set_other {w : World} {b c : Nat} {u : Value} {x : Obj} (h : w.heap[b]? = some x) (hne : b ≠ c) : (w.setCell ⟨c, 0, none⟩ u).heap[b]? = some x := by
  rw [Below.heap_setCell _ _ _ _ hne]; exact h

set_option maxHeartbeats 400000 in
theorem square_calls (p o N b : Nat) (hp : 2 ≤ Gf2.len p) (hp' : p < 2 ^ 64) (ho : Gf2.len o < Gf2.len p) (w : World)
    (hP : w.heap[N]? = some (.cells #[U p] 22 (0, 0))) (hx : w.heap[b]? = some (.cells #[U o] 22 (0, 0))) :
    Calls Try.prog 87 #[.pointer (some ⟨N, 0, none⟩), .pointer (some ⟨b, 0, none⟩)] w fun e w' => e = .returned (.tuple #[]) ∧ Upd b (.cells #[U (Gf2.mm p o o)] 22 (0, 0)) w w' := by
  have cP := cell_of_one hP
  have cx := cell_of_one hx
  have fx := free_of_one hx
  have ho64 : o < 2 ^ 64 := lt_of_len (by have := len_le_64 hp'; omega)
  have hU := Upd.setCell (u := U (Gf2.mm p o o)) hx
  go_enter Try.func87, Try.ntmps87
  go_wp2_with (go_at_call 58; refine (times_calls p o o hp hp' ho ho64 _).mono ?_; rintro e w' ⟨rfl, rfl⟩)
  go_end0
  exact ⟨rfl, hU⟩

set_option maxHeartbeats 400000 in
theorem more_calls (p o x N b c : Nat) (hp : 2 ≤ Gf2.len p) (hp' : p < 2 ^ 64) (ho : Gf2.len o < Gf2.len p) (hx64 : x < 2 ^ 64) (w : World)
    (hP : w.heap[N]? = some (.cells #[U p] 22 (0, 0))) (hx : w.heap[b]? = some (.cells #[U o] 22 (0, 0))) (hy : w.heap[c]? = some (.cells #[U x] 22 (0, 0))) :
    Calls Try.prog 88 #[.pointer (some ⟨N, 0, none⟩), .pointer (some ⟨b, 0, none⟩), .pointer (some ⟨c, 0, none⟩)] w fun e w' => e = .returned (.tuple #[]) ∧ Upd b (.cells #[U (Gf2.mm p o x)] 22 (0, 0)) w w' := by
  have cP := cell_of_one hP
  have cx := cell_of_one hx
  have cy := cell_of_one hy
  have fx := free_of_one hx
  have hU := Upd.setCell (u := U (Gf2.mm p o x)) hx
  go_enter Try.func88, Try.ntmps88
  go_wp2_with (go_at_call 58; refine (times_calls p o x hp hp' ho hx64 _).mono ?_; rintro e w' ⟨rfl, rfl⟩)
  go_end0
  exact ⟨rfl, hU⟩

theorem powm_bit {p : Nat} (h2 : 2 ≤ Gf2.len p) (x m : Nat) : Gf2.powm p x m = if m % 2 = 1 then Gf2.mm p (Gf2.mm p (Gf2.powm p x (m / 2)) (Gf2.powm p x (m / 2))) x else Gf2.mm p (Gf2.powm p x (m / 2)) (Gf2.powm p x (m / 2)) := by
  have hp : p ≠ 0 := fun e => by rw [e, Gf2.len_zero] at h2; omega
  rw [← Gf2.powm_add h2]
  rcases Nat.mod_two_eq_zero_or_one m with h | h
  · rw [if_neg (by omega)]; congr 1; omega
  · rw [if_pos h]
    conv => lhs; rw [show m = (m / 2 + m / 2) + 1 by omega]
    rw [Gf2.powm, Gf2.mm_comm]

theorem i64_bit {n j : Nat} (hn : n < 2 ^ 63) : (bits .and .i64 ((n : Int) / 2 ^ j) 1 == 1) = decide (n / 2 ^ j % 2 = 1) := by
  have hlt : n / 2 ^ j < 2 ^ 63 := Nat.lt_of_le_of_lt (Nat.div_le_self _ _) hn
  have h := (bits_nat .i64 63 (by decide) (fun n h0 h1 => IntWalk.i64_in n (by omega)) (n / 2 ^ j) 1 hlt (by decide)).1
  rw [Nat.and_one_is_mod, ← shr_cast] at h
  have h : bits .and .i64 ((n : Int) / 2 ^ j) 1 = ((n / 2 ^ j % 2 : Nat) : Int) := h
  rw [h]
  rcases Nat.mod_two_eq_zero_or_one (n / 2 ^ j) with h | h <;> rw [h] <;> rfl

theorem Upd.old {b k : Nat} {o x : Obj} {w w' : World} (h : Upd b o w w') (hne : k ≠ b) (hk : w.heap[k]? = some x) : w'.heap[k]? = some x := (h.block k hne).trans hk

set_option maxHeartbeats 800000 in
theorem raised_calls (p n x N b c : Nat) (hp : 2 ≤ Gf2.len p) (hp' : p < 2 ^ 64) (hn : n < 2 ^ 63) (hx : Gf2.len x < Gf2.len p) (w : World) (hNb : N ≠ b) (hcb : c ≠ b)
    (hP : w.heap[N]? = some (.cells #[U p] 22 (0, 0))) (ho : w.heap[b]? = some (.cells #[U 1] 22 (0, 0))) (hy : w.heap[c]? = some (.cells #[U x] 22 (0, 0))) :
    Calls Try.prog 86 #[I n, .func (.func 87) #[] #[.pointer (some ⟨N, 0, none⟩), .pointer (some ⟨b, 0, none⟩)], .func (.func 88) #[] #[.pointer (some ⟨N, 0, none⟩), .pointer (some ⟨b, 0, none⟩), .pointer (some ⟨c, 0, none⟩)]] w fun e w' =>
      e = .returned (.tuple #[]) ∧ Upd b (.cells #[U (Gf2.powm p x n)] 22 (0, 0)) w w' := by
  have hn64 : n < 2 ^ 64 := Nat.lt_trans hn (by decide)
  have hx64 : x < 2 ^ 64 := lt_of_len (by have := len_le_64 hp'; omega)
  have hln : Gf2.len n ≤ 63 := Gf2.len_le_iff.2 hn
  have hw : IntKind.u64.wrap (n : Int) = (n : Int) := wraps_u64 _ (by omega) (by omega)
  have hp0 : p ≠ 0 := fun e => by rw [e, Gf2.len_zero] at hp; omega
  have hl64 := (Try.bits_Len64 (n : Int) w (by omega) (by omega))
  rw [Int.toNat_natCast, bitLen_eq n hn64] at hl64
  have Hl := Lib.hid hl64
  clear hl64
  go_enter Try.func86, Try.ntmps86
  go_wp2_with (go_at_call 62; refine Hl.out.mono ?_; rintro e w' ⟨rfl, rfl⟩)
  clear hw Hl
  go_loopw [6] (fun vi wr => ∃ i o : Nat, vi = I ((i : Int) - 1) ∧ Upd b (.cells #[U o] 22 (0, 0)) w' wr ∧ o = Gf2.powm p x (n / 2 ^ i) ∧ i ≤ 63) (fun vi _ => (intOf vi + 1).toNat)
  case atStart =>
    exact ⟨Gf2.len n, 1, rfl, Upd.refl ho, by rw [Nat.div_eq_of_lt (Gf2.lt_two_pow_len n)]; rfl, hln⟩
  case round =>
    obtain ⟨i, o, rfl, hU, hoe, hi⟩ := hrel
    by_cases h0 : i = 0
    · subst h0
      rw [Nat.pow_zero, Nat.div_one] at hoe
      subst hoe
      go_wp2
      go_end0
      exact ⟨rfl, hU⟩
    · obtain ⟨j, rfl⟩ : ∃ j, i = j + 1 := ⟨i - 1, by omega⟩
      have Hi := Lib.hid (show ((j + 1 : Nat) : Int) - 1 = (j : Int) by omega)
      have hlo : Gf2.len o < Gf2.len p := by rw [hoe]; exact Gf2.powm_lt hp _ _
      have hbit := powm_bit hp x (n / 2 ^ j)
      rw [show n / 2 ^ j / 2 = n / 2 ^ (j + 1) by rw [Nat.pow_succ, Nat.div_div_eq_div_mul], ← hoe] at hbit
      have hlm : Gf2.len (Gf2.mm p o o) < Gf2.len p := Gf2.mm_lt hp0 _ _
      have hib := i64_bit (j := j) hn
      have hP1 := hU.old hNb hP
      have hy1 := hU.old hcb hy
      have ho1 := hU.at_
      have hs := square_calls p o N b hp hp' hlo _ hP1 ho1
      clear hoe
      rw [Hi.out]
      by_cases hb1 : n / 2 ^ j % 2 = 1
      · rw [if_pos hb1] at hbit
        simp only [hb1, decide_true] at hib
        have Hb := Lib.hid hbit
        clear hbit hb1
        go_wp2_with (first | (go_at_call 87; refine hs.mono ?_; rintro e w1 ⟨rfl, hU1⟩) | (go_at_call 88; refine (more_calls p _ x N b c hp hp' hlm hx64 _ (hU1.old hNb hP1) hU1.at_ (hU1.old hcb hy1)).mono ?_; rintro e w2 ⟨rfl, hU2⟩))
        go_roundw
        case rel => exact ⟨j, _, rfl, (hU.trans hU1).trans hU2, Hb.out.symm, by omega⟩
        case measure => simp [intOf]
      · rw [if_neg hb1] at hbit
        simp only [hb1, decide_false] at hib
        have Hb := Lib.hid hbit
        clear hbit hb1
        go_wp2_with (go_at_call 87; refine hs.mono ?_; rintro e w1 ⟨rfl, hU1⟩)
        go_roundw
        case rel => exact ⟨j, _, rfl, hU.trans hU1, Hb.out.symm, by omega⟩
        case measure => simp [intOf]

set_option maxHeartbeats 1600000 in
theorem power_calls (p n : Nat) (hp2 : 2 ≤ Gf2.len p) (hp : p < 2 ^ 64) (hn : n < 2 ^ 63) (w : World) :
    Calls Try.prog 65 #[U p, I n] w fun e w' => e = .returned (U (Gf2.powm p (Gf2.xr p) n)) ∧ Below w.heap.size w w' := by
  have hp0 : p ≠ 0 := fun e => by rw [e, Gf2.len_zero] at hp2; omega
  have hone := Lib.hid (show Gf2.pmod 1 p = 1 from Gf2.mod_of_lt (by rw [Gf2.len_one]; omega))
  go_enter Try.func65, Try.ntmps65
  go_wp2
  have hm1 := mod1_calls p hp hp0
  have hm2 := mod2_calls p hp hp0
  refine region_inv (by kernel_rfl) (PowJ p n w.heap.size (w.alloc (.cells #[U p] 22))) (by kernel_rfl) ?_ ?_ ?_
  · exact ⟨_, _, _, _, _, _, rfl, ((Below.refl _ _).drew), by exact alloc_new _ _, by simp, by simp, by simp, by simp, by simp, by simp, by simp, by simp, by simp⟩
  · rintro i o L a w' ho hL hd ⟨v5, v6, v7, v8, v9, v10, rfl, hB, hP, f0, f1, f2, f3, f4, f5, f6, g4, g5⟩
    have hi : i < 8 := (Array.getElem?_eq_some_iff.1 ho).1
    have cP := cell_of_one hP
    have hsz := lt_of_block hP
    obtain rfl | rfl | rfl | rfl | rfl | rfl | rfl | rfl : i = 0 ∨ i = 1 ∨ i = 2 ∨ i = 3 ∨ i = 4 ∨ i = 5 ∨ i = 6 ∨ i = 7 := by omega
    · clear ho hd hm1 hm2
      refine .inl ?_
      go_simp
      exact ⟨_, _, _, _, _, _, rfl, hB, hP, by simp, fun h => f1 (by simpa using h), fun h => f2 (by simpa using h), fun h => f3 (by simpa using h), fun h => f4 (by simpa using h), fun h => f5 (by simpa using h), fun h h' => f6 (by simpa using h) (by simpa using h'), fun h => by have := g4 (by simpa using h); simp [this], fun h => by have := g5 (by simpa using h); simp [this]⟩
    · obtain rfl := Option.some.inj ho
      simp [Region.binds] at hd
      obtain rfl := f0 (by simp [hd])
      clear ho hm2
      have hm1 := Lib.hid hm1
      refine .inl ?_
      go_simp
      refine (hm1.out w').mono ?_
      rintro e w'' ⟨rfl, rfl⟩
      exact ⟨_, _, _, _, _, _, rfl, hB, hP, by simp, by simp, fun h => f2 (by simpa using h), fun h => f3 (by simpa using h), fun h => f4 (by simpa using h), fun h => f5 (by simpa using h), fun h h' => f6 (by simpa using h) (by simpa using h'), fun h => by have := g4 (by simpa using h); simp [this], fun h => by have := g5 (by simpa using h); simp [this]⟩
    · clear ho hd hm1 hm2
      refine .inl ?_
      go_simp
      exact ⟨_, _, _, _, _, _, rfl, hB, hP, fun h => f0 (by simpa using h), fun h => f1 (by simpa using h), by simp, fun h => f3 (by simpa using h), fun h => f4 (by simpa using h), fun h => f5 (by simpa using h), fun h h' => f6 (by simpa using h) (by simpa using h'), fun h => by have := g4 (by simpa using h); simp [this], fun h => by have := g5 (by simpa using h); simp [this]⟩
    · obtain rfl := Option.some.inj ho
      simp [Region.binds] at hd
      obtain rfl := f2 (by simp [hd])
      clear ho hm1
      have hm2 := Lib.hid hm2
      refine .inl ?_
      go_simp
      refine (hm2.out w').mono ?_
      rintro e w'' ⟨rfl, rfl⟩
      exact ⟨_, _, _, _, _, _, rfl, hB, hP, fun h => f0 (by simpa using h), fun _ => rfl, by simp, by simp, fun h => f4 (by simpa using h), fun h => f5 (by simpa using h), fun h h' => f6 (by simpa using h) (by simpa using h'), fun h => by have := g4 (by simpa using h); simp [this], fun h => by have := g5 (by simpa using h); simp [this]⟩
    · clear ho hd hm1 hm2
      have h6 : L 6 = false := by cases h : L 6 with | false => rfl | true => rw [g4 h] at hL; cases hL
      refine .inl ?_
      go_simp
      refine ⟨_, _, _, _, _, _, rfl, hB.alloc hsz _, alloc_old hP, fun h => f0 (by simpa using h), fun h => f1 (by simpa using h), fun h => f2 (by simpa using h), fun h => f3 (by simpa using h), ?_, ?_, ?_, by simp, fun h => by have := g5 (by simpa using h); simp [this]⟩
      · exact fun _ => ⟨_, rfl, hsz, fun _ => alloc_new _ _, fun h => by simp [h6] at h⟩
      · intro h5
        obtain ⟨b, rfl, hb, x1, x2⟩ := f5 (by simpa using h5)
        exact ⟨b, rfl, hb, fun h => alloc_old (x1 (by simpa using h)), fun h => alloc_old (x2 (by simpa using h))⟩
      · intro _ h5 he
        obtain ⟨b, rfl, hb, x1, x2⟩ := f5 (by simpa using h5)
        have hbe : w'.heap.size = b := by simpa using he
        cases h : L 7 with
        | false => exact block_fresh (x1 h) hbe.symm
        | true => exact block_fresh (x2 h) hbe.symm
    · clear ho hd hm1 hm2
      have h7 : L 7 = false := by cases h : L 7 with | false => rfl | true => rw [g5 h] at hL; cases hL
      refine .inl ?_
      go_simp
      refine ⟨_, _, _, _, _, _, rfl, hB.alloc hsz _, alloc_old hP, fun h => f0 (by simpa using h), fun h => f1 (by simpa using h), fun h => f2 (by simpa using h), fun h => f3 (by simpa using h), ?_, ?_, ?_, fun h => by have := g4 (by simpa using h); simp [this], by simp⟩
      · intro h4
        obtain ⟨b, rfl, hb, x1, x2⟩ := f4 (by simpa using h4)
        exact ⟨b, rfl, hb, fun h => alloc_old (x1 (by simpa using h)), fun h => alloc_old (x2 (by simpa using h))⟩
      · exact fun _ => ⟨_, rfl, hsz, fun _ => alloc_new _ _, fun h => by simp [h7] at h⟩
      · intro h4 _ he
        obtain ⟨b, rfl, hb, x1, x2⟩ := f4 (by simpa using h4)
        have hbe : b = w'.heap.size := by simpa using he
        cases h : L 6 with
        | false => exact block_fresh (x1 h) hbe
        | true => exact block_fresh (x2 h) hbe
    · obtain rfl := Option.some.inj ho
      simp [Region.binds] at hd
      obtain rfl := f1 (by simp [hd])
      obtain ⟨b, rfl, hb, x1, _⟩ := f4 (by simp [hd])
      have hx := x1 hL
      have cx := cell_of_one hx
      have fx := free_of_one hx
      clear ho hm1 hm2 x1
      refine .inl ?_
      go_simp
      refine ⟨_, _, _, _, _, _, rfl, hB.setCell (p := ⟨b, 0, none⟩) hb _, set_other hP (Nat.ne_of_lt hb), fun _ => rfl, by simp, fun h => f2 (by simpa using h), fun _ => rfl, ?_, ?_, fun h h' => f6 (by simpa using h) (by simpa using h'), by simp [hd], fun h => by have := g5 (by simpa using h); simp [this]⟩
      · exact fun _ => ⟨_, rfl, hb, fun h => by simp at h, fun _ => one_setCell hx⟩
      · intro h5
        obtain ⟨c, rfl, hc, y1, y2⟩ := f5 (by simpa using h5)
        have hne : c ≠ b := fun e => f6 (by simp [hd]) (by simpa using h5) (by rw [e])
        exact ⟨c, rfl, hc, fun h => set_other (y1 (by simpa using h)) hne, fun h => set_other (y2 (by simpa using h)) hne⟩
    · obtain rfl := Option.some.inj ho
      simp [Region.binds] at hd
      obtain rfl := f3 (by simp [hd])
      obtain ⟨b, rfl, hb, x1, _⟩ := f5 (by simp [hd])
      have hx := x1 hL
      have cx := cell_of_one hx
      have fx := free_of_one hx
      clear ho hm1 hm2 x1
      refine .inl ?_
      go_simp
      refine ⟨_, _, _, _, _, _, rfl, hB.setCell (p := ⟨b, 0, none⟩) hb _, set_other hP (Nat.ne_of_lt hb), fun _ => rfl, fun _ => rfl, fun _ => rfl, by simp, ?_, ?_, fun h h' => f6 (by simpa using h) (by simpa using h'), fun h => by have := g4 (by simpa using h); simp [this], by simp [hd]⟩
      · intro h4
        obtain ⟨c, rfl, hc, y1, y2⟩ := f4 (by simpa using h4)
        have hne : c ≠ b := fun e => f6 (by simpa using h4) (by simp [hd]) (by rw [e])
        exact ⟨c, rfl, hc, fun h => set_other (y1 (by simpa using h)) hne, fun h => set_other (y2 (by simpa using h)) hne⟩
      · exact fun _ => ⟨_, rfl, hb, fun h => by simp at h, fun _ => one_setCell hx⟩
  · rintro L a w' hall ⟨v5, v6, v7, v8, v9, v10, rfl, hB, hP, f0, f1, f2, f3, f4, f5, f6, -, -⟩
    obtain rfl := f0 (hall 0 (by simp))
    obtain rfl := f1 (hall 1 (by simp))
    obtain rfl := f2 (hall 2 (by simp))
    obtain rfl := f3 (hall 3 (by simp))
    obtain ⟨b, rfl, hb, -, x⟩ := f4 (hall 4 (by simp))
    obtain ⟨c, rfl, hc, -, y⟩ := f5 (hall 5 (by simp))
    have hx := x (hall 6 (by simp))
    have hy := y (hall 7 (by simp))
    have hne : b ≠ c := fun e => f6 (hall 4 (by simp)) (hall 5 (by simp)) (by rw [e])
    clear hall x y f6 hm1 hm2
    rw [hone.out] at hx
    clear hone
    have hr := raised_calls p n (Gf2.pmod 2 p) w.heap.size b c hp2 hp hn (Gf2.len_mod_lt 2 hp0) w' (Nat.ne_of_lt hb) (Ne.symm hne) hP hx hy
    go_wp2_with (go_at_call 86; refine hr.mono ?_; rintro e w1 ⟨rfl, hU⟩; have cU := cell_of_one hU.at_)
    go_ret
    refine ⟨rfl, ?_⟩
    have h1 : Below w.heap.size (w.alloc (.cells #[U p] 22)) w1 := (hB.mono (by omega)).trans (hU.below (by omega))
    exact ((Below.refl w.heap.size w).alloc (Nat.le_refl _) _).trans h1
end Go.Proofs.Ytjgfcnhnlaobcaa
