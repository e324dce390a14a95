/- Walks: Count, by the program and by the specification. -/
import Derived.Test.YtjgfcnhnlaobcaaWq
import Derived.Test.YtjgfcnhnlaobcaaRnb
namespace Go.Proofs.Ytjgfcnhnlaobcaa
open Go.RowKit

/-- A number of moebius as a uint64. -/
def muU (n : Nat) : Nat := if mu n = -1 then 2 ^ 64 - 1 else (mu n).toNat
theorem muU_wrap : ∀ n : Fin 64, IntKind.u64.wrap (mu n.val) = (muU n.val : Int) := by decide +kernel
def stepC (d k s : Nat) : Nat := if d % k = 0 then (s + muU k * 2 ^ (d / k) % 2 ^ 64) % 2 ^ 64 else s
def sumC : Nat → Nat → Nat → Nat → Nat
  | 0, _, _, s => s
  | f + 1, d, k, s => sumC f d (k + 1) (stepC d k s)
theorem sumC_all : ∀ d : Fin 64, 1 ≤ d.val → sumC d.val d.val 1 0 / d.val = cnt d.val := by decide +kernel
theorem cnt_lt : ∀ d : Fin 64, cnt d.val < 2 ^ 63 := by decide +kernel
theorem stepC_lt {d k s : Nat} (h : s < 2 ^ 64) : stepC d k s < 2 ^ 64 := by
  unfold stepC; split
  · exact Nat.mod_lt _ (by decide)
  · exact h

theorem stepC_wrap {d k s : Nat} (h : d % k = 0) : IntKind.u64.wrap ((s : Int) + IntKind.u64.wrap ((muU k : Int) * 2 ^ (d / k))) = (stepC d k s : Int) := by
  rw [stepC, if_pos h, IntKind.wrap_u64, IntKind.wrap_u64]
  have : ((muU k * 2 ^ (d / k) : Nat) : Int) = (muU k : Int) * 2 ^ (d / k) := by simp
  rw [← this]
  generalize muU k * 2 ^ (d / k) = x
  omega

set_option maxHeartbeats 1600000 in
theorem count_calls (d : Nat) (h1 : 1 ≤ d) (h63 : d ≤ 63) (w : World) :
    Calls Try.prog 73 #[I d] w fun e w' => e = .returned (I (cnt d)) ∧ Below w.heap.size w w' := by
  have hall := sumC_all ⟨d, by omega⟩ h1
  have hclt := cnt_lt ⟨d, by omega⟩
  obtain ⟨t, ht⟩ : ∃ t, sumC d d 1 0 = t := ⟨_, rfl⟩
  have hall : sumC d d 1 0 / d = cnt d := hall
  have hclt : cnt d < 2 ^ 63 := hclt
  rw [ht] at hall
  generalize cnt d = c at *
  have HT := Lib.hid ht
  have HA := Lib.hid hall
  have HC := Lib.hid hclt
  clear ht hall hclt
  go_enter Try.func73, Try.ntmps73
  go_wp2
  go_loopg [3, 4] d (fun g vs vk wr => Below w.heap.size w wr ∧ ∃ k s : Nat, vk = I k ∧ vs = U s ∧ s < 2 ^ 64 ∧ 1 ≤ k ∧ k + g = d + 1 ∧ sumC g d k s = t)
  case atStart => exact ⟨Below.refl _ _, 1, 0, rfl, rfl, by decide, by omega, by omega, HT.out⟩
  case round =>
    clear HT
    obtain ⟨hB, k, s, rfl, rfl, hs, hk1, hkg, hsum⟩ := hrel
    cases gk with
    | zero =>
      have hk : k = d + 1 := by omega
      subst hk
      have Hs := Lib.hid (show s = t from hsum)
      have hd0 : ¬ d = 0 := by omega
      clear hsum
      have hfin : wrap64 (IntKind.u64.wrap ((s : Int) / (d : Int))) = (c : Int) := by
        have h2 := HA.out
        rw [← Hs.out] at h2
        have h3 := HC.out
        rw [← Int.natCast_ediv, h2, IntKind.wrap_u64]
        unfold wrap64; omega
      have HF := Lib.hid hfin
      clear hfin
      go_wp2
      go_ret
      exact ⟨ret_i HF.out, hB⟩
    | succ g =>
      rw [sumC] at hsum
      have hk0 : ¬ k = 0 := by omega
      have hle : (k : Int) ≤ (d : Int) := by omega
      by_cases hd : d % k = 0
      · have hdn : d / k ≤ d := Nat.div_le_self _ _
        have hw : wrap64 ((d : Int) / (k : Int)) = ((d / k : Nat) : Int) := by
          rw [← Int.natCast_ediv]; generalize d / k = j at *; unfold wrap64; omega
        have hmu : IntKind.u64.wrap (mu k) = (muU k : Int) := muU_wrap ⟨k, by omega⟩
        have h0q : (0 : Int) ≤ (d : Int) / (k : Int) := by rw [← Int.natCast_ediv]; exact Int.natCast_nonneg _
        have h1q : (d : Int) / (k : Int) ≤ 64 := by rw [← Int.natCast_ediv]; exact Int.ofNat_le.2 (Nat.le_trans hdn (show d ≤ 64 by omega))
        have h2q : ((d : Int) / (k : Int)).toNat = d / k := by rw [← Int.natCast_ediv]; exact Int.toNat_natCast _
        have hmk := fun w => moebius_calls k hk1 (by omega) w
        have hq : ((d : Int) % (k : Int) == 0) = true := by
          have : (d : Int) % (k : Int) = ((d % k : Nat) : Int) := by simp
          rw [this, hd]; rfl
        have Hs := Lib.hid hsum
        have HL := Lib.hid (stepC_lt (d := d) (k := k) hs)
        have HV := Lib.hid (stepC_wrap (s := s) hd)
        clear hsum hd
        go_wp2
        (refine wp_region_below_lit (by kernel_rfl) (by kernel_rfl) ?_; (repeat (go_big_quiet_step ((go_at_call 92; exact Calls.below_of (hmk _))))); refine wpQuiet_nil ?_; rintro _ ⟨⟨wq, hbq⟩, rfl⟩; try dsimp only)
        go_wp2
        go_roundg g
        case measure => omega
        case rel => exact ⟨hB.trans (hbq.mono hB.size), k + 1, stepC d k s, by go_num, u_eq HV.out, HL.out, by omega, by omega, Hs.out⟩
      · have hq : ((d : Int) % (k : Int) == 0) = false := by
          have : (d : Int) % (k : Int) = ((d % k : Nat) : Int) := by simp
          rw [this]; exact beq_false (by omega)
        rw [stepC, if_neg hd] at hsum
        have Hs := Lib.hid hsum
        clear hsum hd
        go_wp2
        go_roundg g
        case measure => omega
        case rel => exact ⟨hB, k + 1, s, by go_num, rfl, hs, by omega, by omega, Hs.out⟩


def stepR (d k n : Nat) : Nat := if d % k = 0 then n - k * cnt k else n
def remR : Nat → Nat → Nat → Nat → Nat
  | 0, _, _, n => n
  | f + 1, d, k, n => remR f d (k + 1) (stepR d k n)
def okR : Nat → Nat → Nat → Nat → Bool
  | 0, _, _, _ => true
  | f + 1, d, k, n => (d % k != 0 || decide (k * cnt k ≤ n)) && okR f d (k + 1) (stepR d k n)
theorem remR_all : ∀ d : Fin 64, 1 ≤ d.val → (okR (d.val - 1) d.val 1 (2 ^ d.val) = true ∧ remR (d.val - 1) d.val 1 (2 ^ d.val) / d.val = cnt d.val) := by decide +kernel

set_option maxHeartbeats 1600000 in
theorem rcount_calls : ∀ (d : Nat), 1 ≤ d → d ≤ 63 → ∀ (w : World), Calls Try.prog 81 #[I d] w fun e w' => e = .returned (U (cnt d)) ∧ w = w' := by
  intro d
  induction d using Nat.strongRecOn with
  | ind d ih =>
  intro h1 h63 w
  have hok : okR (d - 1) d 1 (2 ^ d) = true := (remR_all ⟨d, by omega⟩ h1).1
  have hfin : remR (d - 1) d 1 (2 ^ d) / d = cnt d := (remR_all ⟨d, by omega⟩ h1).2
  obtain ⟨t, ht⟩ : ∃ t, remR (d - 1) d 1 (2 ^ d) = t := ⟨_, rfl⟩
  rw [ht] at hfin
  have hp64 : 2 ^ d < 2 ^ 64 := pow_le_64 (by omega)
  have hsh : IntKind.u64.wrap ((2 : Int) ^ d) = ((2 ^ d : Nat) : Int) := by
    have := shl_u64 (a := 1) (n := d) (by omega)
    simpa using this
  have hpc : (2 : Int) ^ d = ((2 ^ d : Nat) : Int) := by simp
  generalize 2 ^ d = s at *
  have hclt : cnt d < 2 ^ 63 := cnt_lt ⟨d, by omega⟩
  generalize hcd : cnt d = c at *
  have HT := Lib.hid ht
  have HF := Lib.hid hfin
  have HO := Lib.hid hok
  have HC := Lib.hid hclt
  have IH := Lib.hid ih
  have HP := Lib.hid hpc
  clear ht hfin hok hclt ih hcd hpc
  go_enter Try.func81, Try.ntmps81
  go_wp2
  clear hsh
  go_loopg [3, 4] (d - 1) (fun g vn vk wr => wr = w ∧ ∃ k n : Nat, vk = I k ∧ vn = U n ∧ n < 2 ^ 64 ∧ 1 ≤ k ∧ k + g = d ∧ okR g d k n = true ∧ remR g d k n = t)
  case atStart => exact ⟨rfl, 1, s, rfl, rfl, hp64, by omega, by omega, HO.out, HT.out⟩
  case round =>
    clear HO HT HP hp64
    obtain ⟨rfl, k, n, rfl, rfl, hn, hk1, hkg, hok, hrem⟩ := hrel
    cases gk with
    | zero =>
      have hk : k = d := by omega
      subst hk
      have Hs := Lib.hid (show n = t from hrem)
      have hd0 : ¬ k = 0 := by omega
      have hfin : IntKind.u64.wrap ((n : Int) / (k : Int)) = (c : Int) := by
        have h2 := HF.out
        rw [← Hs.out] at h2
        have h3 := HC.out
        rw [← Int.natCast_ediv, h2, IntKind.wrap_u64]
        omega
      have HF := Lib.hid hfin
      clear hok hrem hfin
      go_wp2
      go_ret
      exact ⟨ret_u HF.out, rfl⟩
    | succ g =>
      rw [remR] at hrem
      rw [okR, Bool.and_eq_true] at hok
      obtain ⟨hok1, hok2⟩ := hok
      have hk0 : ¬ k = 0 := by omega
      have hlt : (k : Int) < (d : Int) := by omega
      have hmod : (d : Int) % (k : Int) = ((d % k : Nat) : Int) := by simp
      by_cases hd : d % k = 0
      · have hq : ((d : Int) % (k : Int) == 0) = true := by rw [hmod, hd]; rfl
        have hle : k * cnt k ≤ n := by simpa [hd] using hok1
        have hm := IH.out k (by omega) hk1 (by omega)
        have hv : IntKind.u64.wrap ((n : Int) - IntKind.u64.wrap ((k : Int) * (cnt k : Int))) = (stepR d k n : Int) := by
          rw [stepR, if_pos hd, IntKind.wrap_u64, IntKind.wrap_u64, ← Int.natCast_mul]
          generalize k * cnt k = y at *
          omega
        have hsl : stepR d k n < 2 ^ 64 := by rw [stepR, if_pos hd]; omega
        have Hv := Lib.hid hv
        have Hs := Lib.hid hsl
        have Ho := Lib.hid hok2
        have Hr := Lib.hid hrem
        clear hok1 hok2 hrem hd hmod hle hv hsl
        generalize cnt k = ck at *
        go_wp2_with (go_at_call 81; refine (hm _).mono ?_; rintro e w1 ⟨rfl, rfl⟩)
        go_roundg g
        case measure => omega
        case rel => exact ⟨rfl, k + 1, stepR d k n, by go_num, u_eq Hv.out, Hs.out, by omega, by omega, Ho.out, Hr.out⟩
      · have hq : ((d : Int) % (k : Int) == 0) = false := by rw [hmod]; exact beq_false (by omega)
        rw [stepR, if_neg hd] at hrem hok2
        have Ho := Lib.hid hok2
        have Hr := Lib.hid hrem
        clear hok1 hok2 hrem hd hmod
        go_wp2
        go_roundg g
        case measure => omega
        case rel => exact ⟨rfl, k + 1, n, by go_num, rfl, hn, by omega, by omega, Ho.out, Hr.out⟩

def tCount (d : Int) : Nat × Int := if d < 1 ∨ 63 < d then (0, 1) else (cnt d.toNat, 0)

set_option maxHeartbeats 800000 in
theorem Count_calls (d : Int) (w : World) :
    Calls Try.prog 28 #[I d] w fun e w' => e = .returned (.tuple #[I (tCount d).1, I (tCount d).2]) ∧ Below w.heap.size w w' := by
  have hdg := isDegree_calls d
  by_cases hd : d < 1 ∨ 63 < d
  · have hb : (decide (1 ≤ d) && decide (d ≤ 63)) = false := by
      rcases hd with h | h
      · rw [show decide (1 ≤ d) = false by simp; omega]; rfl
      · rw [show decide (d ≤ 63) = false by simp; omega]; simp
    rw [hb] at hdg
    rw [tCount, if_pos hd]
    clear hd hb
    go_enter Try.func28, Try.ntmps28
    go_wp2_with (go_at_call 72; refine (hdg _).mono ?_; rintro e w1 ⟨rfl, rfl⟩)
    go_ret2
    exact ⟨rfl, Below.refl _ _⟩
  · have hb : (decide (1 ≤ d) && decide (d ≤ 63)) = true := by simp; omega
    obtain ⟨n, rfl⟩ : ∃ n : Nat, d = n := ⟨d.toNat, by omega⟩
    rw [hb] at hdg
    rw [tCount, if_neg hd, Int.toNat_natCast]
    have hc := count_calls n (by omega) (by omega)
    generalize cnt n = c at *
    clear hd hb
    go_enter Try.func28, Try.ntmps28
    go_wp2_with (first | (go_at_call 72; refine (hdg _).mono ?_; rintro e w1 ⟨rfl, rfl⟩) | (go_at_call 73; refine (hc _).mono ?_; rintro e w1 ⟨rfl, hbw⟩))
    go_ret2
    exact ⟨rfl, hbw⟩

set_option maxHeartbeats 800000 in
theorem RCount_calls (d : Int) (w : World) :
    Calls Try.prog 40 #[I d] w fun e w' => e = .returned (.tuple #[I (tCount d).1, I (tCount d).2]) ∧ w = w' := by
  by_cases h1 : d < 1
  · rw [tCount, if_pos (.inl h1)]
    go_enter Try.func40, Try.ntmps40
    go_wp2
    go_ret2
    exact ⟨rfl, rfl⟩
  by_cases h2 : 63 < d
  · rw [tCount, if_pos (.inr h2)]
    go_enter Try.func40, Try.ntmps40
    go_wp2
    go_ret2
    exact ⟨rfl, rfl⟩
  obtain ⟨n, rfl⟩ : ∃ n : Nat, d = n := ⟨d.toNat, by omega⟩
  rw [tCount, if_neg (by omega), Int.toNat_natCast]
  have hc := rcount_calls n (by omega) (by omega)
  have hclt := cnt_lt ⟨n, by omega⟩
  have hclt : cnt n < 2 ^ 63 := hclt
  generalize cnt n = c at *
  go_enter Try.func40, Try.ntmps40
  go_wp2_with (first | (go_at_call 81; refine (hc _).mono ?_; rintro e w1 ⟨rfl, rfl⟩))
  go_ret2
  exact ⟨rfl, rfl⟩
end Go.Proofs.Ytjgfcnhnlaobcaa
