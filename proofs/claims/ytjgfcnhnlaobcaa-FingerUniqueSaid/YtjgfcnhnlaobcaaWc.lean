/- Walks: remainders, powers. -/
import Derived.Test.YtjgfcnhnlaobcaaWb
import Derived.Deep.QuietTactic
import Derived.BigQuiet
namespace Go.Proofs.Ytjgfcnhnlaobcaa
open Go.RowKit

theorem degree_quiet (a : Nat) (h : a < 2 ^ 64) (w : World) :
    Calls Try.prog 17 #[U a] w fun e w' => e = .returned (I ((Gf2.len a : Int) - 1)) ∧ w' = w :=
  (degree_calls a h w).mono fun _ _ ⟨h1, h2⟩ => ⟨h1, h2.symm⟩

set_option maxHeartbeats 400000 in
theorem rest1_calls (p a : Nat) (B : Nat) (hp : p < 2 ^ 64) (ha : a < 2 ^ 64) (w : World) (hc : w.cell? ⟨B, 0, none⟩ = some (U p)) :
    Calls Try.prog 84 #[U a, .pointer (some ⟨B, 0, none⟩)] w fun e w' => e = .returned (.bool (decide (Gf2.len p ≤ Gf2.len a))) ∧ ∃ n, w' = w.drewN n := by
  go_enter Try.func84, Try.ntmps84
  go_wp2
  go_quiet ((go_at_call 17; exact Calls.quiet_of_same (degree_quiet _ (by assumption) _)))
  go_wp2
  go_ret
  exact ⟨rfl, _, rfl⟩

/-- The place of the first one that is no remainder by p, -1 if there is none. -/
def badAt (p : Nat) (l : List Nat) : Int := match l.findIdx? (fun a => decide (Gf2.len p ≤ Gf2.len a)) with | some i => i | none => -1

theorem badAt_here {p : Nat} {zs : List Nat} {k x : Nat} (h : (zs.take k).findIdx? (fun a => decide (Gf2.len p ≤ Gf2.len a)) = none) (hk : k < zs.length) (hx : zs.getD k 0 = x) (hb : Gf2.len p ≤ Gf2.len x) : badAt p zs = k := by
  have hx' : zs[k] = x := by simpa [hk] using hx
  have e : zs = zs.take k ++ x :: zs.drop (k + 1) := by rw [← hx']; simp
  have : zs.findIdx? (fun a => decide (Gf2.len p ≤ Gf2.len a)) = some k := by
    rw [e, List.findIdx?_append, h]
    simp [List.findIdx?_cons, hb]; omega
  rw [badAt, this]
theorem badAt_step {p : Nat} {zs : List Nat} {k x : Nat} (h : (zs.take k).findIdx? (fun a => decide (Gf2.len p ≤ Gf2.len a)) = none) (hk : k < zs.length) (hx : zs.getD k 0 = x) (hb : ¬ Gf2.len p ≤ Gf2.len x) : (zs.take (k + 1)).findIdx? (fun a => decide (Gf2.len p ≤ Gf2.len a)) = none := by
  have hx' : zs[k] = x := by simpa [hk] using hx
  rw [List.take_succ_eq_append_getElem hk, List.findIdx?_append, h, hx']
  simp [List.findIdx?_cons, hb]
theorem badAt_none {p : Nat} {zs : List Nat} (h : (zs.take zs.length).findIdx? (fun a => decide (Gf2.len p ≤ Gf2.len a)) = none) : badAt p zs = -1 := by
  rw [List.take_length] at h; rw [badAt, h]
theorem badAt_any (p : Nat) (zs : List Nat) : decide (0 ≤ badAt p zs) = zs.any (fun a => decide (Gf2.len p ≤ Gf2.len a)) := by
  unfold badAt
  cases h : zs.findIdx? (fun a => decide (Gf2.len p ≤ Gf2.len a)) with
  | none => rw [List.findIdx?_eq_none_iff] at h; simp; intro x hx; simpa using h x hx
  | some i =>
    have := List.findIdx?_eq_some_iff_getElem.1 h
    obtain ⟨hi, h1, _⟩ := this
    simp only [Int.natCast_nonneg, decide_true]
    exact (List.any_eq_true.2 ⟨zs[i], List.getElem_mem _, h1⟩).symm

set_option maxHeartbeats 800000 in
theorem indexFunc_calls (p : Nat) (zs : List Nat) (B b off cap : Nat) (hp : p < 2 ^ 64) (hz : ∀ x ∈ zs, x < 2 ^ 64) (hn : zs.length < 2 ^ 40) (w : World)
    (hc : w.cell? ⟨B, 0, none⟩ = some (U p)) (hl : ∀ i, i < zs.length → w.cell? ⟨b, off + i, none⟩ = some (U (zs.getD i 0))) :
    Calls Try.prog 104 #[.slice (some ⟨b, off, none⟩) zs.length cap, .func (.func 84) #[] #[.pointer (some ⟨B, 0, none⟩)]] w fun e w' => e = .returned (I (badAt p zs)) ∧ ∃ n, w' = w.drewN n := by
  go_enter Try.func104, Try.ntmps104
  go_wp2
  go_loopw [5, 8] (fun _ vi w' => ∃ k n : Nat, vi = I k ∧ w' = w.drewN n ∧ k ≤ zs.length ∧ (zs.take k).findIdx? (fun a => decide (Gf2.len p ≤ Gf2.len a)) = none) (fun _ vi _ => zs.length - (intOf vi).toNat)
  case atStart => exact ⟨0, 0, rfl, rfl, Nat.zero_le _, by simp⟩
  case round =>
    obtain ⟨k, n, rfl, rfl, hk, hf⟩ := hrel
    have hf := Lib.hid hf
    by_cases hlt : k < zs.length
    · have hcell := hl k hlt
      obtain ⟨x, hxe⟩ : ∃ x, zs.getD k 0 = x := ⟨_, rfl⟩
      have hx : x < 2 ^ 64 := by
        have : zs.getD k 0 = zs[k] := by simp [hlt]
        rw [← hxe, this]; exact hz _ (List.getElem_mem _)
      rw [hxe] at hcell
      replace hxe := Lib.hid hxe
      clear hl
      go_wp2_with (go_at_call 84; refine (rest1_calls p _ B hp hx _ (by simpa using hc)).mono ?_; rintro e w' ⟨rfl, m, rfl⟩)
      · go_ret
        refine ⟨ret_i ?_, _, rfl⟩
        exact (badAt_here hf.out hlt hxe.out (by assumption)).symm
      · go_roundw
        case rel => exact ⟨k + 1, _, by go_num, rfl, hlt, badAt_step hf.out hlt hxe.out (by assumption)⟩
        case measure => simp [intOf]; omega
    · obtain rfl : k = zs.length := by omega
      go_wp2
      go_ret
      exact ⟨ret_i (badAt_none hf.out).symm, _, rfl⟩

set_option maxHeartbeats 400000 in
theorem containsFunc_calls (p : Nat) (zs : List Nat) (B b off cap : Nat) (hp : p < 2 ^ 64) (hz : ∀ x ∈ zs, x < 2 ^ 64) (hn : zs.length < 2 ^ 40) (w : World)
    (hc : w.cell? ⟨B, 0, none⟩ = some (U p)) (hl : ∀ i, i < zs.length → w.cell? ⟨b, off + i, none⟩ = some (U (zs.getD i 0))) :
    Calls Try.prog 83 #[.slice (some ⟨b, off, none⟩) zs.length cap, .func (.func 84) #[] #[.pointer (some ⟨B, 0, none⟩)]] w fun e w' => e = .returned (.bool (zs.any fun a => decide (Gf2.len p ≤ Gf2.len a))) ∧ ∃ n, w' = w.drewN n := by
  have H := indexFunc_calls p zs B b off cap hp hz hn w hc hl
  have hany := badAt_any p zs
  generalize (zs.any fun a => decide (Gf2.len p ≤ Gf2.len a)) = r at *
  clear hl hc hz
  generalize badAt p zs = q at *
  have HA := Lib.hid hany
  clear hany
  go_enter Try.func83, Try.ntmps83
  go_wp2_with (go_at_call 104; refine H.mono ?_; rintro e w' ⟨rfl, m, rfl⟩)
  go_ret
  exact ⟨by rw [← HA.out]; rfl, _, rfl⟩

set_option maxHeartbeats 400000 in
theorem rest_calls (p : Nat) (zs : List Nat) (b off cap : Nat) (hp : p < 2 ^ 64) (hz : ∀ x ∈ zs, x < 2 ^ 64) (hn : zs.length < 2 ^ 40) (w : World)
    (hb : b < w.heap.size) (hl : ∀ i, i < zs.length → w.cell? ⟨b, off + i, none⟩ = some (U (zs.getD i 0))) :
    Calls Try.prog 57 #[U p, .slice (some ⟨b, off, none⟩) zs.length cap] w fun e w' => e = .returned (.bool (!(zs.any fun a => decide (Gf2.len p ≤ Gf2.len a)))) ∧ Below w.heap.size w w' := by
  have H := containsFunc_calls p zs w.heap.size b off cap hp hz hn (w.alloc (.cells #[U p] 22)) (by simp) (fun i hi => by
    rw [← hl i hi]; exact (Below.alloc (Below.refl w.heap.size w) (Nat.le_refl _) _).cell (p := ⟨b, off + i, none⟩) hb)
  generalize (zs.any fun a => decide (Gf2.len p ≤ Gf2.len a)) = r at *
  clear hl hz
  go_enter Try.func57, Try.ntmps57
  go_wp2_with (go_at_call 83; refine H.mono ?_; rintro e w' ⟨rfl, m, rfl⟩)
  go_ret
  exact ⟨rfl, by first | exact below_drewN ((Below.refl _ _).alloc (Nat.le_refl _) _) _ | skip⟩
end Go.Proofs.Ytjgfcnhnlaobcaa
