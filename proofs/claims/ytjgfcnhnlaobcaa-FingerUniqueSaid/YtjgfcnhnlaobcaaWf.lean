/- Walks: the machine with a table. -/
import Derived.Test.YtjgfcnhnlaobcaaWe
import Derived.StillTailTactics
namespace Go.Proofs.Ytjgfcnhnlaobcaa
open Go.RowKit

/-- A machine at block B: its polynomial, its degree, the first k remainders of its table. -/
def Mach (B p d k : Nat) (T : Nat → Nat) (w : World) : Prop :=
  ∃ C : Array Value, w.heap[B]? = some (.cells C 101 (0, 0)) ∧ C.size = 258 ∧ C[0]? = some (U p) ∧ C[1]? = some (I d) ∧ ∀ j, j < k → C[2 + j]? = some (U (T j))

theorem Mach.cell0 {B p d k : Nat} {T : Nat → Nat} {w : World} (h : Mach B p d k T w) : w.cell? ⟨B, 0, none⟩ = some (U p) := by
  obtain ⟨C, h1, h2, h3, h4, h5⟩ := h
  simp [World.cell?, h1, h3]
theorem Mach.cell1 {B p d k : Nat} {T : Nat → Nat} {w : World} (h : Mach B p d k T w) : w.cell? ⟨B, 1, none⟩ = some (I d) := by
  obtain ⟨C, h1, h2, h3, h4, h5⟩ := h
  simp [World.cell?, h1, h4]
theorem Mach.cellT {B p d k : Nat} {T : Nat → Nat} {w : World} (h : Mach B p d k T w) {j : Nat} (hj : j < k) : w.cell? ⟨B, 2 + j, none⟩ = some (U (T j)) := by
  obtain ⟨C, h1, h2, h3, h4, h5⟩ := h
  have := h5 j hj
  simp [World.cell?, h1, this]
theorem Mach.free {B p d k : Nat} {T : Nat → Nat} {w : World} (h : Mach B p d k T w) (o : Nat) : w.frozen? ⟨B, o, none⟩ = false := by
  obtain ⟨C, h1, h2, h3, h4, h5⟩ := h
  simp [World.frozen?, h1]
theorem Mach.some_cell {B p d k : Nat} {T : Nat → Nat} {w : World} (h : Mach B p d k T w) {o : Nat} (ho : o < 258) : ∃ v, w.cell? ⟨B, o, none⟩ = some v := by
  obtain ⟨C, h1, h2, h3, h4, h5⟩ := h
  exact ⟨C[o], by simp [World.cell?, h1, h2, ho]⟩
theorem Mach.of_below {B n p d k : Nat} {T : Nat → Nat} {w w' : World} (h : Mach B p d k T w) (hb : Below n w w') (hlt : B < n) : Mach B p d k T w' := by
  obtain ⟨C, h1, r⟩ := h
  exact ⟨C, (hb.block B hlt).trans h1, r⟩
theorem Mach.drew {B p d k : Nat} {T : Nat → Nat} {w : World} (h : Mach B p d k T w) (n : Nat) : Mach B p d k T (w.drewN n) := h
theorem Mach.store {B p d k : Nat} {T : Nat → Nat} {w : World} (h : Mach B p d k T w) (hk : k < 256) : Mach B p d (k + 1) T (w.setCell ⟨B, 2 + k, none⟩ (U (T k))) := by
  obtain ⟨C, h1, h2, h3, h4, h5⟩ := h
  refine ⟨C.setIfInBounds (2 + k) (U (T k)), ?_, by simpa using h2, ?_, ?_, ?_⟩
  · have hlt := lt_of_block h1
    have h' : w.heap[B] = .cells C 101 (0, 0) := by simpa [Array.getElem?_eq_getElem hlt] using h1
    show (w.heap.modify B _)[B]? = _
    rw [Array.getElem?_eq_getElem (by simpa using hlt), Array.getElem_modify_self, h']
    rfl
  · rw [Array.getElem?_setIfInBounds_ne (by omega)]; exact h3
  · rw [Array.getElem?_setIfInBounds_ne (by omega)]; exact h4
  · intro j hj
    by_cases e : j = k
    · rw [e, Array.getElem?_setIfInBounds, if_pos rfl, if_pos (by omega)]
    · rw [Array.getElem?_setIfInBounds_ne (by omega)]; exact h5 j (by omega)

/-- The table of a machine. -/
def tab (p : Nat) (j : Nat) : Nat := Gf2.mm p (Gf2.pmod j p) (Gf2.powm p (Gf2.xr p) (Gf2.len p - 1))

theorem sw {P : Program} {f : FuncId} {args : Array Value} {w : World} {r : Ending} (h : Calls P f args w fun e w' => e = r ∧ w = w') : Calls P f args w fun e w' => e = r ∧ w' = w :=
  h.mono fun _ _ ⟨h1, h2⟩ => ⟨h1, h2.symm⟩

theorem zero_size : Try.zeroCells101.size = 258 := by kernel_rfl

set_option maxRecDepth 100000 in
set_option maxHeartbeats 1600000 in
theorem newMachine_calls (p : Nat) (hp5 : 5 ≤ Gf2.len p) (hp : p < 2 ^ 64) (w : World) :
    Calls Try.prog 74 #[U p] w fun e w' => e = .returned (.pointer (some ⟨w.heap.size, 0, none⟩)) ∧ Below w.heap.size w w' ∧ w.heap.size < w'.heap.size ∧ Mach w.heap.size p (Gf2.len p - 1) 256 (tab p) w' := by
  have hl := len_le_64 hp
  have hp0 : p ≠ 0 := fun e => by rw [e, Gf2.len_zero] at hp5; omega
  obtain ⟨d, hd⟩ : ∃ d, Gf2.len p = d + 1 := ⟨Gf2.len p - 1, by omega⟩
  have hdeg := degree_calls p hp w
  rw [hd, show ((d + 1 : Nat) : Int) - 1 = (d : Int) by omega] at hdeg
  have hd63 : d ≤ 63 := by omega
  have HT := Lib.hid (show tab p = fun j => Gf2.mm p (Gf2.pmod j p) (Gf2.powm p (Gf2.xr p) d) by funext j; rw [tab, hd]; rfl)
  have Hd := Lib.hid hd
  clear hd
  have hpw : Gf2.len (Gf2.powm p (Gf2.xr p) d) < Gf2.len p := Gf2.powm_lt (by have := Hd.out; omega) _ _
  have hpw64 : Gf2.powm p (Gf2.xr p) d < 2 ^ 64 := lt_of_len (by omega)
  have hstart : Mach w.heap.size p d 0 (tab p) (w.alloc (Obj.cells ((Try.zeroCells101.setIfInBounds 0 (U p)).setIfInBounds 1 (I d)) 101)) :=
    ⟨_, alloc_new _ _, by simp, by rw [Array.getElem?_setIfInBounds_ne (by omega)]; simp, by simp, fun j h => absurd h (by omega)⟩
  have hbelow : Below w.heap.size w (w.alloc (Obj.cells ((Try.zeroCells101.setIfInBounds 0 (U p)).setIfInBounds 1 (I d)) 101)) := (Below.refl _ _).alloc (Nat.le_refl _) _
  have hsz : (w.alloc (Obj.cells ((Try.zeroCells101.setIfInBounds 0 (U p)).setIfInBounds 1 (I d)) 101)).heap.size = w.heap.size + 1 := by simp
  have HS := Lib.hid hstart; have HB := Lib.hid hbelow; have HZ := Lib.hid hsz
  clear hstart hbelow hsz
  go_enter Try.func74, Try.ntmps74
  go_wp2_with (first | (go_at_call 17; refine hdeg.mono ?_; rintro e w' ⟨rfl, rfl⟩) | (go_at_call 65; refine (power_calls p d (by omega) hp (by omega) _).mono ?_; rintro e w1 ⟨rfl, hB1⟩))
  have hM1 := HS.out.of_below hB1 (by rw [HZ.out]; omega)
  have hb1 := HB.out.trans (hB1.mono (by rw [HZ.out]; omega))
  have hs1 : w.heap.size < w1.heap.size := by have := hB1.size; rw [HZ.out] at this; omega
  clear hB1 HS HB HZ hdeg
  go_loopw [5, 17] (fun _ vi wr => ∃ k : Nat, vi = I k ∧ k ≤ 256 ∧ Below w.heap.size w wr ∧ w.heap.size < wr.heap.size ∧ Mach w.heap.size p d k (tab p) wr) (fun _ vi _ => 256 - (intOf vi).toNat)
  case atStart => exact ⟨0, rfl, by omega, hb1, hs1, hM1⟩
  case round =>
    clear hb1 hs1 hM1 w1
    obtain ⟨k, rfl, hk, hb, hs, hM⟩ := hrel
    by_cases hlt : k < 256
    · have hk64 : k < 2 ^ 64 := Nat.lt_trans hlt (by decide)
      have hw : IntKind.u64.wrap (k : Int) = (k : Int) := wraps_u64 _ (by omega) (by omega)
      have hml := Gf2.len_mod_lt k hp0
      have hfr := hM.free (2 + k)
      obtain ⟨v, hv⟩ := hM.some_cell (o := 2 + k) (by omega)
      go_wp2
      refine wp_region_still_tail 12 (by kernel_rfl) (by kernel_rfl) ?_
      simp only [List.take_succ_cons, List.take_zero, List.drop_succ_cons, List.drop_zero]
      change wpStill _ _ (World.drew _) _ _ _
      still_step
      still_step
      still_step
      still_step
      still_step
      still_step
      still_call (sw (mod_calls k p hk64 hp hp0 _))
      still_step
      still_call (sw (times_calls p _ _ (by omega) hp hml hpw64 _))
      still_step
      still_step
      still_step
      refine wpStill_nil ?_
      have ht : tab p k = Gf2.mm p (Gf2.pmod k p) (Gf2.powm p (Gf2.xr p) d) := by rw [HT.out]
      have hst := hM.store hlt
      have hs1 : w.heap.size < (wr.setCell ⟨w.heap.size, 2 + k, none⟩ (U (tab p k))).heap.size := by simpa [World.setCell] using hs
      have hb2 := hb.setCell (p := ⟨w.heap.size, 2 + k, none⟩) (Nat.le_refl _) (U (tab p k))
      rw [ht] at hs1 hb2 hst
      clear ht
      have HS := Lib.hid hst
      clear hst
      go_wp2
      exact ⟨⟨k + 1, by go_num, hlt, hb2.drew, hs1, HS.out.drew 1⟩, by simp [intOf]; omega⟩
    · obtain rfl : k = 256 := by omega
      go_wp2
      go_ret
      exact ⟨rfl, hb, hs, by rw [Hd.out]; exact hM⟩
end Go.Proofs.Ytjgfcnhnlaobcaa
