/- Walks: the irreducible polynomials of a degree. -/
import Derived.Test.YtjgfcnhnlaobcaaWm
namespace Go.Proofs.Ytjgfcnhnlaobcaa
open Go.RowKit Go.Shelf
attribute [local go_sem] Oper.semAt_some

/-- The irreducible polynomials among f numbers from p on. -/
def irrN : Nat → Nat → List Nat
  | 0, _ => []
  | f + 1, p => if Gf2.irrB p then p :: irrN f (p + 1) else irrN f (p + 1)
/-- Those of a degree, from a number on. -/
def irrFrom (d from_ : Nat) : List Nat := irrN (2 ^ (d + 1) - max from_ (2 ^ d)) (max from_ (2 ^ d))

theorem irreducibles_calls (d f : Int) (w : World) :
    Calls Try.prog 70 #[I d, .int .u64 f] w fun e w' => e = .returned (.func (.func 91) #[] #[.pointer (some ⟨w.heap.size + 1, 0, none⟩), .pointer (some ⟨w.heap.size, 0, none⟩)]) ∧ w' = (w.alloc (.cells #[I d] 3)).alloc (.cells #[.int .u64 f] 22) := by
  go_enter Try.func70, Try.ntmps70
  go_wp2
  go_ret
  exact ⟨rfl, rfl⟩

theorem grownBy_below {A C : World} (h : Below A.heap.size A C) : A.grownBy C none := ⟨h.os, h.tape, h.output, h.size, fun k hk _ => h.block k hk⟩
theorem grownBy_drewN (A : World) (n : Nat) : A.grownBy (A.drewN n) none := ⟨rfl, rfl, rfl, Nat.le_refl _, fun _ _ _ => rfl⟩

theorem max_nat (a b : Nat) : max (a : Int) (b : Int) = ((max a b : Nat) : Int) := by omega

theorem irr_start {d f : Nat} (hf : f < 2 ^ 64) (h63 : d ≤ 63) : max f (2 ^ d) < 2 ^ 64 ∧ (0 < 2 ^ (d + 1) - max f (2 ^ d) → Gf2.len (max f (2 ^ d)) = d + 1 ∧ max f (2 ^ d) + (2 ^ (d + 1) - max f (2 ^ d)) = 2 ^ (d + 1)) ∧ (2 ^ (d + 1) - max f (2 ^ d) = 0 → Gf2.len (max f (2 ^ d)) ≠ d + 1) := by
  have h1 : 2 ^ d < 2 ^ 64 := pow_le_64 (by omega)
  refine ⟨by omega, fun h => ⟨Gf2.len_eq (by omega) (by omega), by omega⟩, fun h e => ?_⟩
  have := Gf2.lt_two_pow_len (max f (2 ^ d))
  rw [e] at this
  omega

theorem irr_next {d q g : Nat} (h : q + (g + 1) = 2 ^ (d + 1)) (h63 : d ≤ 63) (hl : Gf2.len q = d + 1) :
    irrN g ((q + 1) % 2 ^ 64) = irrN g (q + 1) ∧ (0 < g → Gf2.len ((q + 1) % 2 ^ 64) = d + 1 ∧ (q + 1) % 2 ^ 64 + g = 2 ^ (d + 1)) ∧ (g = 0 → Gf2.len ((q + 1) % 2 ^ 64) ≠ d + 1) := by
  have h1 : 2 ^ (d + 1) ≤ 2 ^ 64 := Nat.pow_le_pow_right (by decide) (by omega)
  have h0 : 2 ^ d ≤ q := by
    have := Gf2.two_pow_len_le (n := q) (fun e => by rw [e, Gf2.len_zero] at hl; omega)
    rwa [hl] at this
  rcases Nat.eq_zero_or_pos g with hg | hg
  · subst hg
    refine ⟨rfl, fun h => absurd h (by omega), fun _ => ?_⟩
    rw [show q + 1 = 2 ^ (d + 1) by omega]
    by_cases h2 : d = 63
    · subst h2
      rw [show (2 ^ (63 + 1) % 2 ^ 64) = 0 by decide, Gf2.len_zero]; omega
    · rw [Nat.mod_eq_of_lt (pow_le_64 (by omega)), Gf2.len_two_pow]; omega
  · rw [Nat.mod_eq_of_lt (by omega)]
    refine ⟨rfl, fun _ => ⟨Gf2.len_eq (by omega) (by omega), by omega⟩, fun h => absurd h (by omega)⟩
theorem wrap_next (q : Nat) : IntKind.u64.wrap ((q : Int) + 1) = (((q + 1) % 2 ^ 64 : Nat) : Int) := by
  rw [IntKind.wrap_u64]; omega

set_option maxHeartbeats 1600000 in
theorem irr1_iter (d f Bf Bd : Nat) (hd1 : 1 ≤ d) (h63 : d ≤ 63) (hf : f < 2 ^ 64) (w0 : World) (hbf : w0.heap[Bf]? = some (.cells #[U f] 22 (0, 0))) (hbd : w0.heap[Bd]? = some (.cells #[I d] 3 (0, 0))) :
    Iter Try.prog 91 #[.pointer (some ⟨Bf, 0, none⟩), .pointer (some ⟨Bd, 0, none⟩)] (fun q : Nat => #[U q]) none [Bf, Bd] (irrFrom d f) w0 := by
  intro l J Jx W hks hsz hJ hJx hY h0
  have hbfW : W.heap[Bf]? = some (.cells #[U f] 22 (0, 0)) := (hks Bf (by simp)).trans hbf
  have hbdW : W.heap[Bd]? = some (.cells #[I d] 3 (0, 0)) := (hks Bd (by simp)).trans hbd
  have HJ := Lib.hid hJ
  have HY := Lib.hid hY
  clear hJ hY hJx hks hsz hbf hbd
  obtain ⟨L, hL⟩ : ∃ L, irrFrom d f = L := ⟨_, rfl⟩
  rw [hL] at HY ⊢
  have HL := Lib.hid hL
  clear hL
  have hp64 : 2 ^ d < 2 ^ 64 := pow_le_64 (by omega)
  have hsh : IntKind.u64.wrap ((2 : Int) ^ d) = ((2 ^ d : Nat) : Int) := by
    have := shl_u64 (a := 1) (n := d) (by omega)
    simpa using this
  have cf := cell_of_one hbfW
  have cd := cell_of_one hbdW
  refine callsIn_of_wp Try.func91 rfl trivial ?_ rfl
  simp only [Try.ntmps91, List.size_toArray, List.length_cons, List.length_nil, Nat.reduceAdd, Nat.reduceSub, Array.replicate_succ, Array.replicate_zero, List.push_toArray, List.append_toArray, List.nil_append, List.cons_append]
  gi_wp2_with (refine wpIn_wide.2 ?_; go_quiet (fail))
  have hmx : max (f : Int) (2 ^ d) = ((max f (2 ^ d) : Nat) : Int) := by
    have : ((2 ^ d : Nat) : Int) = (2 : Int) ^ d := by simp
    rw [← this]; exact max_nat _ _
  rw [hmx]
  obtain ⟨hs1, hs2, hs3⟩ := irr_start (d := d) hf h63
  have HS := Lib.hid hs2
  have HT := Lib.hid hs3
  have hL := HL.out
  unfold irrFrom at hL
  have HM := Lib.hid hL
  clear hs2 hs3 hL hsh hp64 HL hmx
  generalize max f (2 ^ d) = s at *
  gi_loopg [4] (2 ^ (d + 1) - s) (fun g vq wr => ∃ (q : Nat) (pre : List Nat), vq = U q ∧ q < 2 ^ 64 ∧ (0 < g → Gf2.len q = d + 1 ∧ q + g = 2 ^ (d + 1)) ∧ (g = 0 → Gf2.len q ≠ d + 1) ∧ pre ++ irrN g q = L ∧ J pre wr ∧ wr.heap[Bd]? = some (.cells #[I d] 3 (0, 0)))
  case atStart => exact ⟨s, [], rfl, hs1, HS.out, HT.out, HM.out, HJ.out _ _ _ _ h0 (grownBy_drewN _ _) (.inl rfl), hbdW⟩
  case round =>
    clear HS HT HM hbdW hbfW h0 cf cd
    obtain ⟨q, pre, rfl, hq64, hg1, hg0, hL, hJp, hbd⟩ := hrel
    have cd := cell_of_one hbd
    have hdeg := degree_calls q hq64
    have hdq := fun w => sw (hdeg w)
    cases gk with
    | zero =>
      have hne := hg0 rfl
      have hbe : ((Gf2.len q : Int) - 1 == (d : Int)) = false := beq_false (by omega)
      have hLp : pre = L := by simpa [irrN] using hL
      clear hg1 hg0 hL hne
      subst hLp
      gi_wp2_with (refine wpIn_wide.2 ?_; go_quiet ((go_at_call 17; exact Calls.quiet_of_same (hdq _))))
      go_end0
      exact ⟨⟨_, rfl⟩, .inl (HJ.out _ _ _ _ hJp (grownBy_drewN _ _) (.inl rfl))⟩
    | succ g =>
      obtain ⟨hlq, hqg⟩ := hg1 (by omega)
      have hbe : ((Gf2.len q : Int) - 1 == (d : Int)) = true := beq_true (by omega)
      obtain ⟨hn1, hn2, hn3⟩ := irr_next hqg h63 hlq
      have hirr := Irreducible_calls q hq64
      have hwn := wrap_next q
      have hn64 : (q + 1) % 2 ^ 64 < 2 ^ 64 := Nat.mod_lt _ (by decide)
      have HN1 := Lib.hid hn1
      have HN2 := Lib.hid hn2
      have HN3 := Lib.hid hn3
      have HNQ := Lib.hid hn64
      rw [irrN] at hL
      by_cases hI : Gf2.irrB q = true
      · rw [if_pos hI] at hL
        rw [hI] at hirr
        have hpre : pre ++ [q] <+: L := ⟨irrN g (q + 1), by rw [List.append_assoc]; exact hL⟩
        have hL2 : (pre ++ [q]) ++ irrN g ((q + 1) % 2 ^ 64) = L := by rw [hn1, List.append_assoc]; exact hL
        have HP := Lib.hid hpre
        have HL2 := Lib.hid hL2
        clear hL hL2 hpre hn1 hn2 hn3 hn64 hg1 hg0 hlq hqg hI
        gi_wp2_with (first | (refine wpIn_wide.2 ?_; go_quiet ((go_at_call 17; exact Calls.quiet_of_same (hdq _)))) | (refine ⟨trivial, rfl, ?_⟩; gi_at_call 35; refine (callsIn_wide.2 (hirr _)).mono ?_; rintro e w1 ⟨rfl, hb1⟩; have hj1 := HJ.out _ _ _ _ (HJ.out _ _ _ _ hJp (grownBy_drewN _ nq) (.inl rfl)) (grownBy_below hb1) (.inl rfl); have hbd1 : w1.heap[Bd]? = some (.cells #[I d] 3 (0, 0)) := (hb1.block Bd (lt_of_block hbd)).trans hbd; obtain ⟨fn, tmps, assign, body, hy, hR⟩ := HY.out pre q _ HP.out hj1; have hR := Lib.hid hR; have Hbd := Lib.hid hbd1; clear hj1 hbd1 hbd cd hdeg hdq hirr hJp hb1))
        refine ⟨rfl, hR.out.mono ?_⟩
        rintro e W' (⟨rfl, hJ', hk', _⟩ | ⟨rfl, hJx'⟩)
        · have hbd2 := (hk' Bd (by simp)).trans Hbd.out
          gi_wp2
          gi_roundg g
          case measure => omega
          case rel => exact ⟨(q + 1) % 2 ^ 64, pre ++ [q], u_eq hwn, HNQ.out, HN2.out, HN3.out, HL2.out, hJ', hbd2⟩
        · gi_wp2
          refine bodyPost_ret (results_none rfl _ _ _) rfl ?_
          exact ⟨⟨_, rfl⟩, .inr ⟨pre ++ [q], HP.out, hJx'⟩⟩
      · rw [if_neg hI] at hL
        have hI' : Gf2.irrB q = false := by simpa using hI
        rw [hI'] at hirr
        have hL2 : pre ++ irrN g ((q + 1) % 2 ^ 64) = L := by rw [hn1]; exact hL
        have HL2 := Lib.hid hL2
        clear hL hL2 hn1 hn2 hn3 hn64 hg1 hg0 hlq hqg hI hI'
        gi_wp2_with (first | (refine wpIn_wide.2 ?_; go_quiet ((go_at_call 17; exact Calls.quiet_of_same (hdq _)))) | (refine ⟨trivial, rfl, ?_⟩; gi_at_call 35; refine (callsIn_wide.2 (hirr _)).mono ?_; rintro e w1 ⟨rfl, hb1⟩))
        have hj1 := HJ.out _ _ _ _ (HJ.out _ _ _ _ hJp (grownBy_drewN _ nq) (.inl rfl)) (grownBy_below hb1) (.inl rfl)
        have hbd1 : w1.heap[Bd]? = some (.cells #[I d] 3 (0, 0)) := (hb1.block Bd (lt_of_block hbd)).trans hbd
        refine ⟨fun _ h => (by cases h), ?_⟩
        clear hbd cd hdeg hdq hirr hJp hb1
        gi_wp2
        gi_roundg g
        case measure => omega
        case rel => exact ⟨(q + 1) % 2 ^ 64, pre, u_eq hwn, HNQ.out, HN2.out, HN3.out, HL2.out, hj1, hbd1⟩
end Go.Proofs.Ytjgfcnhnlaobcaa
