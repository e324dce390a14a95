/- Walk of the sixth law: how many irreducible polynomials there are. -/
import Derived.Test.YtjgfcnhnlaobcaaSb
import Derived.Test.YtjgfcnhnlaobcaaCnt12
import Derived.Test.YtjgfcnhnlaobcaaWv
namespace Go.Proofs.Ytjgfcnhnlaobcaa
open Go.RowKit

theorem irrN_cons : ∀ (g p : Nat) {q : Nat} {rest : List Nat}, irrN g p = q :: rest → rest = irrN (p + g - (q + 1)) (q + 1) ∧ p ≤ q ∧ q < p + g
  | 0, p, q, rest, h => by simp [irrN] at h
  | g + 1, p, q, rest, h => by
    rw [irrN] at h
    split at h
    · obtain ⟨rfl, rfl⟩ := List.cons.inj h
      exact ⟨by rw [show p + (g + 1) - (p + 1) = g by omega], Nat.le_refl _, by omega⟩
    · obtain ⟨h1, h2, h3⟩ := irrN_cons g (p + 1) h
      exact ⟨by rw [h1, show p + (g + 1) - (q + 1) = p + 1 + g - (q + 1) by omega], by omega, by omega⟩
theorem irrFrom_cons {d f q : Nat} {rest : List Nat} (h : irrFrom d f = q :: rest) : rest = irrFrom d (q + 1) ∧ f ≤ q ∧ q < 2 ^ (d + 1) ∧ Gf2.len q = d + 1 ∧ Gf2.irrB q = true := by
  obtain ⟨h1, h2, h3⟩ := irrN_cons _ _ h
  have hm := irrFrom_mem (d := d) (f := f) (q := q) (by rw [h]; simp)
  have hq : q < 2 ^ (d + 1) := Gf2.len_le_iff.1 (by omega)
  refine ⟨?_, hm.1, hq, hm.2.1, hm.2.2⟩
  rw [h1, irrFrom, show max (q + 1) (2 ^ d) = q + 1 by omega]
  congr 1
  omega

/-- The sum that the law makes, up to k. -/
def sK (D : Nat) : Nat → Nat
  | 0 => 0
  | k + 1 => if D % (k + 1) = 0 then sK D k + (k + 1) * cnt (k + 1) else sK D k
theorem sK_le : ∀ D k : Fin 63, D.val < k.val ∨ sK D.val k.val ≤ 2 ^ 62 := by decide +kernel
theorem sK_all : ∀ D : Fin 63, 1 ≤ D.val → sK D.val D.val = 2 ^ D.val := by decide +kernel

set_option maxRecDepth 100000 in
set_option maxHeartbeats 3200000 in
theorem counted_walk (d : Int) (w : World) :
    Calls Try.prog 8 #[I d] w fun e w' => e = .returned (.bool true) ∧ Below w.heap.size w w' := by
  have hB : Below w.heap.size w w := Below.refl _ _
  by_cases hd : d < 1
  · go_enter Try.func8, Try.ntmps8
    go_wp2_with (first
      | (go_at_call 14; refine (sane_calls _).mono ?_; rintro e w1 ⟨rfl, hb⟩; replace hB := hB.trans (hb.mono hB.size); clear hb))
    go_ret
    exact ⟨rfl, hB⟩
  by_cases hd2 : 62 < d
  · go_enter Try.func8, Try.ntmps8
    go_wp2_with (first
      | (go_at_call 14; refine (sane_calls _).mono ?_; rintro e w1 ⟨rfl, hb⟩; replace hB := hB.trans (hb.mono hB.size); clear hb))
    go_ret
    exact ⟨rfl, hB⟩
  obtain ⟨D, rfl⟩ : ∃ D : Nat, d = (D : Int) := ⟨d.toNat, by omega⟩
  have hD1 : 1 ≤ D := by omega
  have hD62 : D ≤ 62 := by omega
  have hall := sK_all ⟨D, by omega⟩ hD1
  have hle := fun (k : Nat) (hk : k ≤ D) => (sK_le ⟨D, by omega⟩ ⟨k, by omega⟩).resolve_left (Nat.not_lt.2 hk)
  dsimp only at hall hle
  have HALL := Lib.hid hall
  have HLE := Lib.hid hle
  clear hall hle
  go_enter Try.func8, Try.ntmps8
  go_wp2_with (first
    | (go_at_call 14; refine (sane_calls _).mono ?_; rintro e w1 ⟨rfl, hb⟩; replace hB := hB.trans (hb.mono hB.size); clear hb))
  go_loopw [3, 4] (fun vs vk wr => ∃ k : Nat, vk = I ((k : Int) + 1) ∧ k ≤ D ∧ vs = I (sK D k) ∧ Below w.heap.size w wr) (fun _ vk _ => D + 1 - (intOf vk).toNat)
  case atStart => exact ⟨0, rfl, Nat.zero_le _, rfl, hB⟩
  case round =>
    clear hB
    obtain ⟨k, rfl, hk, rfl, hB⟩ := hrel
    by_cases hkD : k < D
    · have c28 := Count_calls ((k : Int) + 1)
      rw [show tCount ((k : Int) + 1) = (cnt (k + 1), 0) by rw [tCount, if_neg (by omega), show ((k : Int) + 1).toNat = k + 1 by omega]] at c28
      have hin : (k : Int) + 1 ≤ (D : Int) := by omega
      have hs1 := HLE.out k hk
      have hs2 := HLE.out (k + 1) (by omega)
      have hsk : sK D (k + 1) = if D % (k + 1) = 0 then sK D k + (k + 1) * cnt (k + 1) else sK D k := rfl
      have hnn : ¬ (cnt (k + 1) : Int) < 0 := by omega
      generalize cnt (k + 1) = C at *
      have hf28 : ∀ x, Calls Try.prog 28 #[I ((k : Int) + 1)] x fun e w' => e = .returned (.tuple #[I C, I 0]) ∧ Below x.heap.size x w' := c28
      clear c28
      have hme : (D : Int) % ((k : Int) + 1) = ((D % (k + 1) : Nat) : Int) := by rw [Int.natCast_emod]; simp
      by_cases hdv : D % (k + 1) = 0
      · have ht : ((D : Int) % ((k : Int) + 1) == 0) = true := beq_true (by rw [hme, hdv]; rfl)
        rw [if_pos hdv] at hsk
        clear hme
        obtain ⟨M, hM⟩ : ∃ M, (k + 1) * C = M := ⟨_, rfl⟩
        have hw : wrap64 (((k : Int) + 1) * (C : Int)) = (M : Int) := by
          rw [show ((k : Int) + 1) * (C : Int) = (M : Int) by rw [← hM]; simp, IntWalk.wrap64_in _ (by omega)]
        rw [hM] at hsk
        have HS := Lib.hid (show (sK D (k + 1) : Int) = (sK D k : Int) + (M : Int) by omega)
        have hb1 : (sK D k : Int) + (M : Int) ≤ 9223372036854775807 := by omega
        clear hsk hM hdv hs1 hs2
        generalize hS : sK D k = S at *
        clear hS
        go_wp2_with (first
          | (go_at_call 28; refine (hf28 _).mono ?_; clear hf28; rintro e w2 ⟨rfl, hb⟩; replace hB := hB.trans (hb.mono hB.size); clear hb))
        go_roundw
        case rel => exact ⟨k + 1, by go_num, by omega, i_eq HS.out.symm, hB⟩
        case measure => simp [intOf]; omega
      · have ht : ((D : Int) % ((k : Int) + 1) == 0) = false := beq_false (by rw [hme]; omega)
        rw [if_neg hdv] at hsk
        clear hme
        have HS := Lib.hid hsk
        clear hsk hdv hs1 hs2
        go_wp2_with (first
          | (go_at_call 28; refine (hf28 _).mono ?_; clear hf28; rintro e w2 ⟨rfl, hb⟩; replace hB := hB.trans (hb.mono hB.size); clear hb))
        go_roundw
        case rel => exact ⟨k + 1, by go_num, by omega, by rw [HS.out], hB⟩
        case measure => simp [intOf]; omega
    · obtain rfl : k = D := by omega
      have hin : ¬ (k : Int) + 1 ≤ (k : Int) := by omega
      rw [HALL.out]
      have h62 : (2 : Nat) ^ k ≤ 2 ^ 62 := Nat.pow_le_pow_right (by decide) (by omega)
      obtain ⟨Z, hZ⟩ : ∃ Z : Nat, 2 ^ k = Z := ⟨_, rfl⟩
      have hpow : (2 : Int) ^ k = (Z : Int) := by rw [← hZ]; simp
      rw [hZ] at h62 ⊢
      have hsh : IntKind.i64.wrap ((2 : Int) ^ k) = (Z : Int) := by rw [hpow, IntWalk.i64_in _ (by omega)]
      clear HALL HLE hZ
      by_cases h9 : 9 < k
      · go_wp2
        go_ret
        exact ⟨rfl, hB⟩
      have hcnt := irr_count hD1 (show k ≤ 12 by omega)
      have hc200 : cnt k ≤ 200 := by
        obtain rfl | rfl | rfl | rfl | rfl | rfl | rfl | rfl | rfl : k = 1 ∨ k = 2 ∨ k = 3 ∨ k = 4 ∨ k = 5 ∨ k = 6 ∨ k = 7 ∨ k = 8 ∨ k = 9 := by omega
        all_goals decide
      have c28 := Count_calls (k : Int)
      rw [show tCount (k : Int) = (cnt k, 0) by rw [tCount, if_neg (by omega)]; simp] at c28
      have c34 := fun f (hf : f < 2 ^ 64) => Find_calls (k : Int) f hf
      have htf : ∀ f, tFind (k : Int) f = tF (irrFrom k f) := fun f => by rw [tFind, if_neg (by omega)]; simp
      simp only [htf] at c34
      have hk2 : 2 ^ (k + 1) < 2 ^ 60 := Nat.pow_lt_pow_right (by decide) (by omega)
      generalize hC : cnt k = C at *
      have HC := Lib.hid hcnt
      clear hcnt htf hC
      dsimp only at c28
      have hf28 : ∀ x, Calls Try.prog 28 #[I (k : Int)] x fun e w' => e = .returned (.tuple #[I C, I 0]) ∧ Below x.heap.size x w' := c28
      clear c28
      go_wp2
      go_loopw [7, 8] (fun vm vf wo => ∃ m f : Nat, vm = I m ∧ vf = U f ∧ m + (irrFrom k f).length = C ∧ f < 2 ^ 61 ∧ Below w.heap.size w wo) (fun vm _ _ => 300 - (intOf vm).toNat)
      case atStart => exact ⟨0, 0, rfl, rfl, by rw [HC.out]; omega, by omega, hB⟩
      case round =>
        clear hB
        obtain ⟨m, f, rfl, rfl, hmf, hf, hB⟩ := hrel
        have hm200 : (m : Int) ≤ 200 := by omega
        have hfind := c34 f (by omega)
        clear c34
        match hI : irrFrom k f with
        | [] =>
          rw [hI] at hfind hmf
          have hmC : m = C := by simpa using hmf
          subst hmC
          have hfi : ∀ x, Calls Try.prog 34 #[I (k : Int), U f] x fun e w' => e = .returned (.tuple #[.int .u64 0, I 3]) ∧ Below x.heap.size x w' := hfind
          clear hfind hI hmf HC
          go_wp2_with (first
            | (go_at_call 34; refine (hfi _).mono ?_; clear hfi; rintro e w2 ⟨rfl, hb⟩; replace hB := hB.trans (hb.mono hB.size); clear hb)
            | (go_at_call 28; refine (hf28 _).mono ?_; clear hf28; rintro e w2 ⟨rfl, hb⟩; replace hB := hB.trans (hb.mono hB.size); clear hb))
          go_ret
          exact ⟨by simp, hB⟩
        | q :: rest =>
          obtain ⟨hr, h1, h2, h3, h4⟩ := irrFrom_cons hI
          rw [hI] at hfind hmf
          have hfi : ∀ x, Calls Try.prog 34 #[I (k : Int), U f] x fun e w' => e = .returned (.tuple #[U q, I 0]) ∧ Below x.heap.size x w' := hfind
          have c17 := degreeN_calls (p := q) (n := k) (by omega) h3
          have c35 := Irreducible_calls q (by omega)
          rw [h4] at c35
          have hlt : ¬ (q : Int) < (f : Int) := by omega
          have HM := Lib.hid (show m + 1 + (irrFrom k (q + 1)).length = C by rw [← hr]; simp at hmf; omega)
          have hq61 : q + 1 < 2 ^ 61 := by omega
          clear hfind hI hmf hr h1 h2 h3 h4 HC
          go_wp2_with (first
            | (go_at_call 34; refine (hfi _).mono ?_; clear hfi; rintro e w2 ⟨rfl, hb⟩; replace hB := hB.trans (hb.mono hB.size); clear hb)
            | (go_at_call 17; refine (c17 _).mono ?_; rintro e w2 ⟨rfl, rfl⟩)
            | (go_at_call 35; refine (c35 _).mono ?_; rintro e w2 ⟨rfl, hb⟩; replace hB := hB.trans (hb.mono hB.size); clear hb))
          go_roundw
          case rel => exact ⟨m + 1, q + 1, by go_num, by go_num, HM.out, hq61, hB⟩
          case measure => simp [intOf]; omega
end Go.Proofs.Ytjgfcnhnlaobcaa
