/- Walk of the fourth law: the fingerprint of the exclusive or of two texts. -/
import Derived.Test.YtjgfcnhnlaobcaaRow8
namespace Go.Proofs.Ytjgfcnhnlaobcaa
open Go.RowKit

set_option maxRecDepth 100000 in
set_option maxHeartbeats 1600000 in
theorem linear_walk (p c1 c2 : Nat) (a1 a2 : Option Addr) (l m : List Nat) (hp : p < 2 ^ 64) (w : World) (hl : BytesAt w a1 l) (hm : BytesAt w a2 m) (hc1 : l.length ≤ c1) (hc2 : m.length ≤ c2) (hx1 : l.length < 2 ^ 60) (hx2 : m.length < 2 ^ 60)
    :
    Calls Try.prog 6 #[U p, .slice a1 l.length c1, .slice a2 m.length c2] w fun e w' => e = .returned (.bool true) ∧ Below w.heap.size w w' := by
  have hB : Below w.heap.size w w := Below.refl _ _
  obtain ⟨n, hn⟩ : ∃ n, min (min l.length m.length) 3000 = n := ⟨_, rfl⟩
  have hn1 : n ≤ l.length := by omega
  have hn2 : n ≤ m.length := by omega
  have hn3 : n ≤ 3000 := by omega
  have hmin : ∀ w, (Builtin.min_ #[3, 3, 3] 3 #[.int .i64 (l.length : Int), .int .i64 (m.length : Int), .int .i64 3000]).run Try.prog w = .ok (.int .i64 (n : Int)) w := fun w => by
    rw [run_min_int3, show (if (3000 : Int) < (if (m.length : Int) < (l.length : Int) then (m.length : Int) else (l.length : Int)) then (3000 : Int) else (if (m.length : Int) < (l.length : Int) then (m.length : Int) else (l.length : Int))) = (n : Int) by split <;> split <;> omega]
  have hmk := make8 n (by omega)
  have hnc1 : (n : Int) ≤ (c1 : Int) := by omega
  have hnc2 : (n : Int) ≤ (c2 : Int) := by omega
  have hn0 : 0 ≤ (n : Int) := by omega
  go_enter Try.func6, Try.ntmps6
  go_wp2_with (first
    | (go_at_call 14; refine (sane_calls _).mono ?_; rintro e w1 ⟨rfl, hb⟩; replace hB := hB.trans (hb.mono hB.size); clear hb))
  go_quiet (fail)
  go_wp2
  have hR : Row8 w1.heap.size n 0 (fun j => l.getD j 0 ^^^ m.getD j 0) ((w1.drewN nq).alloc (.cells (madeCells #[.int .u8 0] n) 5)) := Row8.made n _ (w1.drewN nq)
  have hB' : Below w.heap.size w ((w1.drewN nq).alloc (.cells (madeCells #[.int .u8 0] n) 5)) := (below_drewN hB nq).alloc hB.size _
  have hg := hB.size
  generalize hg1 : w1.heap.size = g at *
  clear hmk hmin
  go_loopw [35] (fun vi wr => ∃ k : Nat, vi = I k ∧ k ≤ n ∧ Row8 g n k (fun j => l.getD j 0 ^^^ m.getD j 0) wr ∧ Below w.heap.size w wr) (fun vi _ => n - (intOf vi).toNat)
  case atStart => exact ⟨0, rfl, by omega, hR, hB'⟩
  case round =>
    clear hR hB' hB
    obtain ⟨k, rfl, hk, hR, hB⟩ := hrel
    by_cases hkn : k < n
    · have hin : (k : Int) < (n : Int) := by omega
      obtain ⟨x, hx, hx256, hxc⟩ := (hl.below' hB).at k (by omega)
      obtain ⟨y, hy, hy256, hyc⟩ := (hm.below' hB).at k (by omega)
      obtain ⟨b1, o1, rfl, hxc⟩ := hxc
      obtain ⟨b2, o2, rfl, hyc⟩ := hyc
      have hfr := hR.free k
      obtain ⟨v0, hcell⟩ := hR.some_cell hkn
      have hnew := hR.store hkn
      simp only [hx, hy] at hnew
      have hxe := xor_u8 hx256 hy256
      have hBn := hB.setCell (p := ⟨g, k, none⟩) hg (.int .u8 ((x ^^^ y : Nat) : Int))
      rw [← hxe] at hnew hBn
      clear hR hB hx hy hxe hl hm hk hkn
      go_wp2
      refine wp_region_still_tail 12 (by kernel_rfl) (by kernel_rfl) ?_
      simp only [List.take_succ_cons, List.take_zero, List.drop_succ_cons, List.drop_zero]
      change wpStill _ _ (World.drew _) _ _ _
      repeat still_step
      refine wpStill_nil ?_
      go_wp2
      go_roundw
      case rel => exact ⟨k + 1, by go_num, by omega, hnew.drew, hBn.drew⟩
      case measure => simp [intOf]; omega
    · obtain rfl : k = n := by omega
      have hin : ¬ (k : Int) < (k : Int) := by omega
      have hl' := hl.take k
      have hm' := hm.take k
      have el : (l.take k).length = k := by simp; omega
      have em : (m.take k).length = k := by simp; omega
      have hN : k < 2 ^ 60 := by omega
      have c1' := fun x (hb : Below w.heap.size w x) => Of_n p c1 k a1 _ hp x (hl'.below' hb) el hN
      have c2' := fun x (hb : Below w.heap.size w x) => Of_n p c2 k a2 _ hp x (hm'.below' hb) em hN
      have ex : (Gf2.xorL (l.take k) (m.take k)).length = k := by rw [Gf2.xorL_length (by omega), el]
      have hT : ∀ j, j < k → l.getD j 0 ^^^ m.getD j 0 = (Gf2.xorL (l.take k) (m.take k)).getD j 0 := fun j hj => by
        simp [Gf2.xorL, List.getD, List.getElem?_zipWith, hj, show j < l.length by omega, show j < m.length by omega]
      have c3' := fun x (hr : Row8 g k k (fun j => l.getD j 0 ^^^ m.getD j 0) x) => Of_n p k k (some ⟨g, 0, none⟩) _ hp x (hr.bytes ex (Gf2.xorL_lt _ _ hl'.1 hm'.1) hT) ex hN
      have c4' := Power_calls p (8 * (k : Int)) hp (by omega)
      have h8 : (8 * (k : Int)).toNat = 8 * k := by omega
      by_cases h5 : Gf2.len p < 5
      · simp only [tExtend_bad h5] at c1' c2' c3'
        rw [show tPower p (8 * (k : Int)) = (0, 200) by rw [tPower, if_pos h5]] at c4'
        clear hl hm hl' hm' el em ex hT h5 hg1 hk h8 hN
        go_wp2_with (first
          | (go_at_call 30; refine (c1' _ hB).mono ?_; clear c1'; rintro e w1 ⟨rfl, hb⟩; replace hR := hR.below' hb; replace hB := hB.trans (hb.mono hB.size); clear hb)
          | (go_at_call 30; refine (c2' _ hB).mono ?_; clear c2'; rintro e w2 ⟨rfl, hb⟩; replace hR := hR.below' hb; replace hB := hB.trans (hb.mono hB.size); clear hb)
          | (go_at_call 30; refine (c3' _ hR).mono ?_; clear c3'; rintro e w3 ⟨rfl, hb⟩; replace hB := hB.trans (hb.mono hB.size); clear hb)
          | (go_at_call 21; refine (c4' _).mono ?_; rintro e w4 ⟨rfl, hb⟩; replace hB := hB.trans (hb.mono hB.size); clear hb))
        go_ret
        exact ⟨rfl, hB⟩
      · have hp5 : 5 ≤ Gf2.len p := by omega
        have hlin := Gf2.fp_linear (p := p) (by omega) (l.take k) (m.take k) (by omega) hl'.1 hm'.1
        rw [tExtend_one hp5 (by omega)] at c1' c2' c3'
        rw [show tPower p (8 * (k : Int)) = (Gf2.powm p (Gf2.xr p) (8 * k), 0) by rw [tPower, if_neg h5, if_neg (by omega), h8]] at c4'
        rw [el] at hlin
        rw [hlin] at c3'
        have hp64 : ∀ q, Gf2.len q < Gf2.len p → q < 2 ^ 64 := fun q hq => lt_of_len (by have := len_le_64 hp; omega)
        have hp0 : p ≠ 0 := fun e => by rw [e, Gf2.len_zero] at hp5; omega
        have b1 := hp64 _ (Gf2.onBytes_lt hp0 (l.take k) 1 (Gf2.one_lt (by omega)))
        have b2 := hp64 _ (Gf2.onBytes_lt hp0 (m.take k) 1 (Gf2.one_lt (by omega)))
        have b3 := hp64 _ (Gf2.powm_lt (show 2 ≤ Gf2.len p by omega) (Gf2.xr p) (8 * k))
        generalize Gf2.onBytes p 1 (l.take k) = f1 at *
        generalize Gf2.onBytes p 1 (m.take k) = f2 at *
        generalize Gf2.powm p (Gf2.xr p) (8 * k) = f4 at *
        have e12 := xor_u64 b1 b2
        have e124 := xor_u64 (Nat.xor_lt_two_pow b1 b2) b3
        dsimp only at c1' c2' c3' c4'
        clear hl hm hl' hm' el em ex hT h5 hg1 hk h8 hN hlin hp64 hp0 b1 b2 b3 hp5
        go_wp2_with (first
          | (go_at_call 30; refine (c1' _ hB).mono ?_; clear c1'; rintro e w1 ⟨rfl, hb⟩; replace hR := hR.below' hb; replace hB := hB.trans (hb.mono hB.size); clear hb)
          | (go_at_call 30; refine (c2' _ hB).mono ?_; clear c2'; rintro e w2 ⟨rfl, hb⟩; replace hR := hR.below' hb; replace hB := hB.trans (hb.mono hB.size); clear hb)
          | (go_at_call 30; refine (c3' _ hR).mono ?_; clear c3'; rintro e w3 ⟨rfl, hb⟩; replace hB := hB.trans (hb.mono hB.size); clear hb)
          | (go_at_call 21; refine (c4' _).mono ?_; rintro e w4 ⟨rfl, hb⟩; replace hB := hB.trans (hb.mono hB.size); clear hb))
        go_ret
        exact ⟨by simp, hB⟩
end Go.Proofs.Ytjgfcnhnlaobcaa
