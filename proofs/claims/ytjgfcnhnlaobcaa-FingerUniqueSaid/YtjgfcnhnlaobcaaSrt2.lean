/- The library's sort at uint64: a partition by elements that are the same. The library's sort at uint64: the partition. The library's sort at uint64: partial insertion. The library's sort at uint64: the loop that calls itself. slices.Sort at uint64: the sorted list. -/
import Derived.Test.YtjgfcnhnlaobcaaSrt1
import Derived.Sort.Walk13a
import Derived.Sort.LotD4
import Derived.Sort.LotB
import Derived.Deep.Cut
namespace Go.Proofs.Ytjgfcnhnlaobcaa
open Go.RowKit

theorem up_more {p : Nat → Bool} {d : Array Nat} {j i : Nat} (h : i ≤ j) (hp : p d[i]! = true) : Sort.scanUp p d j i = Sort.scanUp p d j (i + 1) := by
  rw [Sort.scanUp, if_pos (by simp [h, hp])]
theorem up_stop {p : Nat → Bool} {d : Array Nat} {j i : Nat} (h : j < i ∨ p d[i]! = false) : Sort.scanUp p d j i = i := by
  rw [Sort.scanUp, if_neg]
  rcases h with h | h
  · simp; omega
  · simp [h]
theorem down_more {p : Nat → Bool} {d : Array Nat} {j i : Nat} (h : i ≤ j + 1) (hp : p d[j + 1]! = true) : Sort.scanDown p d i (j + 1) = Sort.scanDown p d i j := by
  rw [Sort.scanDown, if_pos (by simp [h, hp])]
theorem down_stop {p : Nat → Bool} {d : Array Nat} {j i : Nat} (_hi : 1 ≤ i) (h : j < i ∨ p d[j]! = false) : Sort.scanDown p d i j = j := by
  match j with
  | 0 => rfl
  | j + 1 =>
    rw [Sort.scanDown, if_neg]
    rcases h with h | h
    · simp; omega
    · simp [h]

theorem partEq_stop {a i j i2 j2 y : Nat} {d : Array Nat} (hy : d[a]! = y) (hi : Sort.scanUp (fun x => !ltN y x) d j i = i2) (hj : Sort.scanDown (fun x => ltN y x) d i2 j = j2) (h : i2 > j2) : Sort.partEqLoop ltN a i j d = (i2, d) := by
  subst hy
  rw [Sort.partEqLoop]
  simp only [hi, hj, if_pos h]
theorem partEq_more {a i j i2 j2 y : Nat} {d : Array Nat} (hy : d[a]! = y) (hi : Sort.scanUp (fun x => !ltN y x) d j i = i2) (hj : Sort.scanDown (fun x => ltN y x) d i2 j = j2) (h : ¬ i2 > j2) (hg : (j2 - 1) + 1 - (i2 + 1) < j + 1 - i) :
    Sort.partEqLoop ltN a i j d = Sort.partEqLoop ltN a (i2 + 1) (j2 - 1) (Sort.swp d i2 j2) := by
  subst hy
  rw [Sort.partEqLoop]
  simp only [hi, hj, if_neg h, dif_pos hg]

set_option maxRecDepth 100000 in
set_option maxHeartbeats 6400000 in
theorem partitionEqual_calls (B S cap a b pv : Nat) (d : Array Nat) (w0 w : World) (h0 : Srt w0 B S d w) (hab : a + 2 ≤ b) (hb : b ≤ d.size) (hp1 : a ≤ pv) (hp2 : pv < b) (hsz : d.size < 2 ^ 60) :
    Calls Try.prog 113 #[.slice (some ⟨B, 0, none⟩) d.size cap, I a, I b, I pv] w fun e w' => e = .returned (I (Sort.partitionEqual ltN d a b pv).1) ∧ Srt w0 B S (Sort.partitionEqual ltN d a b pv).2 w' := by
  obtain ⟨N, hN⟩ : ∃ N, d.size = N := ⟨_, rfl⟩
  have ca := h0.cell a (by omega)
  have cp := h0.cell pv (by omega)
  have fa := h0.free a
  have fp := h0.free pv
  have hsw := (h0.swap a pv (by omega) (by omega)).drew
  obtain ⟨v', hv'⟩ := cell?_setCell_some (w := w) (p := ⟨B, a, none⟩) (x := U d[pv]!) (q := ⟨B, pv, none⟩) (v := U d[pv]!) cp
  rw [hN] at hb hsz ⊢
  have ia : (a : Int) < (N : Int) := by omega
  have ip : (pv : Int) < (N : Int) := by omega
  rw [Sort.partitionEqual]
  have hs1 : (Sort.swp d a pv).size = N := by rw [Sort.size_swp]; exact hN
  generalize Sort.swp d a pv = d1 at *
  generalize d[a]! = xa at *
  generalize d[pv]! = xp at *
  clear h0
  go_enter Try.func113, Try.ntmps113
  go_wp2
  go_region
  all_goals go_wp2
  clear hv' ca cp fa fp
  go_loopw [9, 10] (fun vi vj wr => ∃ (i j : Nat) (dk : Array Nat), vi = I i ∧ vj = I j ∧ a < i ∧ j < b ∧ a ≤ j ∧ i ≤ j + 2 ∧ dk.size = N ∧ Srt w0 B S dk wr ∧ Sort.partEqLoop ltN a i j dk = Sort.partEqLoop ltN a (a + 1) (b - 1) d1) (fun vi vj _ => (intOf vj + 2 - intOf vi).toNat)
  case atStart => exact ⟨a + 1, b - 1, d1, by go_num, i_eq (by omega), by omega, by omega, by omega, by omega, hs1, hsw, rfl⟩
  case round =>
    clear hsw
    obtain ⟨i, j, dk, rfl, rfl, hai, hjb, haj, hij, hsk, hS, hO⟩ := hrel
    have HO := Lib.hid hO
    clear hO
    obtain ⟨y, hy⟩ : ∃ y, dk[a]! = y := ⟨_, rfl⟩
    have HY := Lib.hid hy
    clear hy
    go_wp2
    go_loopw [9] (fun vi wr => ∃ i' : Nat, vi = I i' ∧ i ≤ i' ∧ i' ≤ j + 2 ∧ Srt w0 B S dk wr ∧ Sort.scanUp (fun x => !ltN y x) dk j i' = Sort.scanUp (fun x => !ltN y x) dk j i) (fun vi _ => j + 3 - (intOf vi).toNat)
    case atStart => exact ⟨i, rfl, Nat.le_refl _, hij, by first | exact hS | exact hS.drewN _, rfl⟩
    case round =>
      clear hS
      obtain ⟨i', rfl, hii, hij', hS, hU⟩ := hrel
      have HU := Lib.hid hU
      clear hU
      have ca := hS.cell a (by omega)
      rw [HY.out] at ca
      by_cases hg : i' ≤ j
      · have hgi : (i' : Int) ≤ (j : Int) := by omega
        obtain ⟨xi, hxi⟩ : ∃ xi, dk[i']! = xi := ⟨_, rfl⟩
        have ci := hS.cell i' (by omega)
        rw [hxi] at ci
        have iI : (i' : Int) < (N : Int) := by omega
        have hless := lessN_calls y xi
        by_cases hx : ltN y xi = false
        · have MORE := Lib.hid (show Sort.scanUp (fun x => !ltN y x) dk j (i' + 1) = Sort.scanUp (fun x => !ltN y x) dk j i by
            rw [← HU.out]; exact (up_more hg (by rw [hxi]; simp [hx])).symm)
          rw [hx] at hless
          clear hx hxi
          go_wp2
          go_quiet (first | (go_at_call 112; exact quiet2 (hless _) ⟨_, rfl⟩))
          go_wp2
          go_roundw
          case rel => exact ⟨i' + 1, by go_num, by omega, by omega, hS.drewN _, MORE.out⟩
          case measure => simp [intOf]; omega
        · have hx' : ltN y xi = true := by simpa using hx
          have HI := Lib.hid (show Sort.scanUp (fun x => !ltN y x) dk j i = i' by rw [← HU.out]; exact up_stop (.inr (by rw [hxi]; simp [hx'])))
          rw [hx'] at hless
          clear hx hx' hxi
          go_wp2
          go_quiet (first | (go_at_call 112; exact quiet2 (hless _) ⟨_, rfl⟩))
          go_wp2
          clear ci
          clear ca hless
          go_loopw [10] (fun vj wr => ∃ j' : Nat, vj = I j' ∧ a ≤ j' ∧ j' ≤ j ∧ Srt w0 B S dk wr ∧ Sort.scanDown (fun x => ltN y x) dk i' j' = Sort.scanDown (fun x => ltN y x) dk i' j) (fun vj _ => (intOf vj).toNat)
          case atStart => exact ⟨j, rfl, haj, Nat.le_refl _, by first | exact hS | exact hS.drewN _, rfl⟩
          case round =>
            clear hS
            obtain ⟨j', rfl, haj', hjj, hS, hD⟩ := hrel
            have HD := Lib.hid hD
            clear hD
            have ca := hS.cell a (by omega)
            rw [HY.out] at ca
            by_cases hg : i' ≤ j'
            · have hgi : (i' : Int) ≤ (j' : Int) := by omega
              obtain ⟨xj, hxj⟩ : ∃ xj, dk[j']! = xj := ⟨_, rfl⟩
              have cj := hS.cell j' (by omega)
              rw [hxj] at cj
              have ij : (j' : Int) < (N : Int) := by omega
              have hless := lessN_calls y xj
              by_cases hx : ltN y xj = true
              · have MORE := Lib.hid (show Sort.scanDown (fun x => ltN y x) dk i' (j' - 1) = Sort.scanDown (fun x => ltN y x) dk i' j by
                  rw [← HD.out]
                  obtain ⟨j'', rfl⟩ : ∃ j'', j' = j'' + 1 := ⟨j' - 1, by omega⟩
                  rw [Nat.add_sub_cancel]
                  exact (down_more (by omega) (by rw [hxj]; simp [hx])).symm)
                rw [hx] at hless
                clear hx hxj
                go_wp2
                go_quiet (first | (go_at_call 112; exact quiet2 (hless _) ⟨_, rfl⟩))
                go_wp2
                go_roundw
                case rel => exact ⟨j' - 1, i_eq (by omega), by omega, by omega, hS.drewN _, MORE.out⟩
                case measure => simp [intOf]; omega
              · have hx' : ltN y xj = false := by simpa using hx
                have HJ := Lib.hid (show Sort.scanDown (fun x => ltN y x) dk i' j = j' by rw [← HD.out]; exact down_stop (by omega) (.inr (by rw [hxj]; simp [hx'])))
                rw [hx'] at hless
                clear hx hx' hxj
                go_wp2
                go_quiet (first | (go_at_call 112; exact quiet2 (hless _) ⟨_, rfl⟩))
                clear cj
                have hgt' : ¬ (j' : Int) < (i' : Int) := by omega
                have iI : (i' : Int) < (N : Int) := by omega
                have ci := hS.cell i' (by omega)
                have cj := hS.cell j' (by omega)
                obtain ⟨v2, hv2⟩ := cell?_setCell_some (p := ⟨B, i', none⟩) (x := U dk[j']!) (q := ⟨B, j', none⟩) (v := U dk[j']!) cj
                have hv3 := fun m => (show ((wr.drewN m).setCell ⟨B, i', none⟩ (U dk[j']!)).cell? ⟨B, j', none⟩ = some v2 from hv2)
                have fi := hS.free i'
                have fj := hS.free j'
                have SW := fun n => Lib.hid ((hS.drewN n).swap i' j' (by omega) (by omega))
                have NEXT := Lib.hid (show Sort.partEqLoop ltN a (i' + 1) (j' - 1) (Sort.swp dk i' j') = Sort.partEqLoop ltN a (a + 1) (b - 1) d1 by
                  rw [← HO.out]; exact (partEq_more HY.out HI.out HJ.out (by omega) (by omega)).symm)
                have hs2 : (Sort.swp dk i' j').size = N := by rw [Sort.size_swp]; exact hsk
                clear ca hv2
                go_wp2
                go_region
                all_goals go_wp2
                all_goals
                  go_roundw
                  case rel => exact ⟨i' + 1, j' - 1, Sort.swp dk i' j', by go_num, i_eq (by omega), by omega, by omega, by omega, by omega, hs2, by first | exact (SW _).out | exact ((SW _).out).drew, NEXT.out⟩
                  case measure => simp [intOf]; omega
            · have hgi : ¬ (i' : Int) ≤ (j' : Int) := by omega
              have hgd : decide (i' ≤ j') = false := decide_eq_false hg
              have hgd' : decide ((i' : Int) ≤ (j' : Int)) = false := decide_eq_false hgi
              have HJ := Lib.hid (show Sort.scanDown (fun x => ltN y x) dk i' j = j' by rw [← HD.out]; exact down_stop (by omega) (.inl (by omega)))
              go_wp2
              go_quiet (fail)
              have hgt' : (j' : Int) < (i' : Int) := by omega
              have hend := HO.out
              rw [partEq_stop HY.out HI.out HJ.out (by omega)] at hend
              have HE := Lib.hid hend
              clear hend
              go_wp2
              go_ret
              rw [← HE.out]
              exact ⟨rfl, hS.drewN _⟩
      · have hgi : ¬ (i' : Int) ≤ (j : Int) := by omega
        have hgd : decide (i' ≤ j) = false := decide_eq_false hg
        have hgd' : decide ((i' : Int) ≤ (j : Int)) = false := decide_eq_false hgi
        have HI := Lib.hid (show Sort.scanUp (fun x => !ltN y x) dk j i = i' by rw [← HU.out]; exact up_stop (.inl (by omega)))
        go_wp2
        go_quiet (fail)
        go_wp2
        clear ca hgi hgd hgd'
        go_loopw [10] (fun vj wr => ∃ j' : Nat, vj = I j' ∧ a ≤ j' ∧ j' ≤ j ∧ Srt w0 B S dk wr ∧ Sort.scanDown (fun x => ltN y x) dk i' j' = Sort.scanDown (fun x => ltN y x) dk i' j) (fun vj _ => (intOf vj).toNat)
        case atStart => exact ⟨j, rfl, haj, Nat.le_refl _, by first | exact hS | exact hS.drewN _, rfl⟩
        case round =>
          clear hS
          obtain ⟨j', rfl, haj', hjj, hS, hD⟩ := hrel
          have HD := Lib.hid hD
          clear hD
          have ca := hS.cell a (by omega)
          rw [HY.out] at ca
          by_cases hg : i' ≤ j'
          · have hgi : (i' : Int) ≤ (j' : Int) := by omega
            obtain ⟨xj, hxj⟩ : ∃ xj, dk[j']! = xj := ⟨_, rfl⟩
            have cj := hS.cell j' (by omega)
            rw [hxj] at cj
            have ij : (j' : Int) < (N : Int) := by omega
            have hless := lessN_calls y xj
            by_cases hx : ltN y xj = true
            · have MORE := Lib.hid (show Sort.scanDown (fun x => ltN y x) dk i' (j' - 1) = Sort.scanDown (fun x => ltN y x) dk i' j by
                rw [← HD.out]
                obtain ⟨j'', rfl⟩ : ∃ j'', j' = j'' + 1 := ⟨j' - 1, by omega⟩
                rw [Nat.add_sub_cancel]
                exact (down_more (by omega) (by rw [hxj]; simp [hx])).symm)
              rw [hx] at hless
              clear hx hxj
              go_wp2
              go_quiet (first | (go_at_call 112; exact quiet2 (hless _) ⟨_, rfl⟩))
              go_wp2
              go_roundw
              case rel => exact ⟨j' - 1, i_eq (by omega), by omega, by omega, hS.drewN _, MORE.out⟩
              case measure => simp [intOf]; omega
            · have hx' : ltN y xj = false := by simpa using hx
              have HJ := Lib.hid (show Sort.scanDown (fun x => ltN y x) dk i' j = j' by rw [← HD.out]; exact down_stop (by omega) (.inr (by rw [hxj]; simp [hx'])))
              rw [hx'] at hless
              clear hx hx' hxj
              go_wp2
              go_quiet (first | (go_at_call 112; exact quiet2 (hless _) ⟨_, rfl⟩))
              clear cj
              have hgt' : ¬ (j' : Int) < (i' : Int) := by omega
              have iI : (i' : Int) < (N : Int) := by omega
              have ci := hS.cell i' (by omega)
              have cj := hS.cell j' (by omega)
              obtain ⟨v2, hv2⟩ := cell?_setCell_some (p := ⟨B, i', none⟩) (x := U dk[j']!) (q := ⟨B, j', none⟩) (v := U dk[j']!) cj
              have hv3 := fun m => (show ((wr.drewN m).setCell ⟨B, i', none⟩ (U dk[j']!)).cell? ⟨B, j', none⟩ = some v2 from hv2)
              have fi := hS.free i'
              have fj := hS.free j'
              have SW := fun n => Lib.hid ((hS.drewN n).swap i' j' (by omega) (by omega))
              have NEXT := Lib.hid (show Sort.partEqLoop ltN a (i' + 1) (j' - 1) (Sort.swp dk i' j') = Sort.partEqLoop ltN a (a + 1) (b - 1) d1 by
                rw [← HO.out]; exact (partEq_more HY.out HI.out HJ.out (by omega) (by omega)).symm)
              have hs2 : (Sort.swp dk i' j').size = N := by rw [Sort.size_swp]; exact hsk
              clear ca hv2
              go_wp2
              go_region
              all_goals go_wp2
              all_goals
                go_roundw
                case rel => exact ⟨i' + 1, j' - 1, Sort.swp dk i' j', by go_num, i_eq (by omega), by omega, by omega, by omega, by omega, hs2, by first | exact (SW _).out | exact ((SW _).out).drew, NEXT.out⟩
                case measure => simp [intOf]; omega
          · have hgi : ¬ (i' : Int) ≤ (j' : Int) := by omega
            have hgd : decide (i' ≤ j') = false := decide_eq_false hg
            have hgd' : decide ((i' : Int) ≤ (j' : Int)) = false := decide_eq_false hgi
            have HJ := Lib.hid (show Sort.scanDown (fun x => ltN y x) dk i' j = j' by rw [← HD.out]; exact down_stop (by omega) (.inl (by omega)))
            go_wp2
            go_quiet (fail)
            have hgt' : (j' : Int) < (i' : Int) := by omega
            have hend := HO.out
            rw [partEq_stop HY.out HI.out HJ.out (by omega)] at hend
            have HE := Lib.hid hend
            clear hend
            go_wp2
            go_ret
            rw [← HE.out]
            exact ⟨rfl, hS.drewN _⟩
end Go.Proofs.Ytjgfcnhnlaobcaa
namespace Go.Proofs.Ytjgfcnhnlaobcaa
open Go.RowKit

theorem part_stop {a i j i2 j2 y : Nat} {d : Array Nat} (hy : d[a]! = y) (hi : Sort.scanUp (fun x => ltN x y) d j i = i2) (hj : Sort.scanDown (fun x => !ltN x y) d i2 j = j2) (h : i2 > j2) : Sort.partLoop ltN a i j d = (j2, d) := by
  subst hy
  rw [Sort.partLoop]
  simp only [hi, hj, if_pos h]
theorem part_more {a i j i2 j2 y : Nat} {d : Array Nat} (hy : d[a]! = y) (hi : Sort.scanUp (fun x => ltN x y) d j i = i2) (hj : Sort.scanDown (fun x => !ltN x y) d i2 j = j2) (h : ¬ i2 > j2) (hg : (j2 - 1) + 1 - (i2 + 1) < j + 1 - i) :
    Sort.partLoop ltN a i j d = Sort.partLoop ltN a (i2 + 1) (j2 - 1) (Sort.swp d i2 j2) := by
  subst hy
  rw [Sort.partLoop]
  simp only [hi, hj, if_neg h, dif_pos hg]
theorem partition_eq {a i j y pv : Nat} {d dk : Array Nat} (hd : Sort.swp d a pv = dk) (hi : a + 1 = i) (b : Nat) (hb : b = j + 1) (hy : dk[a]! = y) :
    Sort.partition ltN d a b pv =
      (if Sort.scanUp (fun x => ltN x y) dk j i > Sort.scanDown (fun x => !ltN x y) dk (Sort.scanUp (fun x => ltN x y) dk j i) j then
        (Sort.scanDown (fun x => !ltN x y) dk (Sort.scanUp (fun x => ltN x y) dk j i) j, true, Sort.swp dk (Sort.scanDown (fun x => !ltN x y) dk (Sort.scanUp (fun x => ltN x y) dk j i) j) a)
      else
        ((Sort.partLoop ltN a (Sort.scanUp (fun x => ltN x y) dk j i + 1) (Sort.scanDown (fun x => !ltN x y) dk (Sort.scanUp (fun x => ltN x y) dk j i) j - 1) (Sort.swp dk (Sort.scanUp (fun x => ltN x y) dk j i) (Sort.scanDown (fun x => !ltN x y) dk (Sort.scanUp (fun x => ltN x y) dk j i) j))).1, false,
          Sort.swp (Sort.partLoop ltN a (Sort.scanUp (fun x => ltN x y) dk j i + 1) (Sort.scanDown (fun x => !ltN x y) dk (Sort.scanUp (fun x => ltN x y) dk j i) j - 1) (Sort.swp dk (Sort.scanUp (fun x => ltN x y) dk j i) (Sort.scanDown (fun x => !ltN x y) dk (Sort.scanUp (fun x => ltN x y) dk j i) j))).2
            (Sort.partLoop ltN a (Sort.scanUp (fun x => ltN x y) dk j i + 1) (Sort.scanDown (fun x => !ltN x y) dk (Sort.scanUp (fun x => ltN x y) dk j i) j - 1) (Sort.swp dk (Sort.scanUp (fun x => ltN x y) dk j i) (Sort.scanDown (fun x => !ltN x y) dk (Sort.scanUp (fun x => ltN x y) dk j i) j))).1 a)) := by
  subst hb hi hy hd
  rfl

set_option maxRecDepth 100000 in
set_option maxHeartbeats 12800000 in
theorem partition_calls (B S cap a b pv : Nat) (d : Array Nat) (w0 w : World) (h0 : Srt w0 B S d w) (hab : a + 2 ≤ b) (hb : b ≤ d.size) (hp1 : a ≤ pv) (hp2 : pv < b) (hsz : d.size < 2 ^ 60) :
    Calls Try.prog 114 #[.slice (some ⟨B, 0, none⟩) d.size cap, I a, I b, I pv] w fun e w' => e = .returned (.tuple #[I (Sort.partition ltN d a b pv).1, .bool (Sort.partition ltN d a b pv).2.1]) ∧ Srt w0 B S (Sort.partition ltN d a b pv).2.2 w' := by
  obtain ⟨N, hN⟩ : ∃ N, d.size = N := ⟨_, rfl⟩
  have ca := h0.cell a (by omega)
  have cp := h0.cell pv (by omega)
  have fa := h0.free a
  have fp := h0.free pv
  have hS := (h0.swap a pv (by omega) (by omega)).drew
  obtain ⟨v', hv'⟩ := cell?_setCell_some (w := w) (p := ⟨B, a, none⟩) (x := U d[pv]!) (q := ⟨B, pv, none⟩) (v := U d[pv]!) cp
  rw [hN] at hb hsz ⊢
  have ia : (a : Int) < (N : Int) := by omega
  have ip : (pv : Int) < (N : Int) := by omega
  have hsk : (Sort.swp d a pv).size = N := by rw [Sort.size_swp]; exact hN
  obtain ⟨dk, hdk⟩ : ∃ dk, Sort.swp d a pv = dk := ⟨_, rfl⟩
  obtain ⟨i, hi⟩ : ∃ i, a + 1 = i := ⟨_, rfl⟩
  obtain ⟨j, hbj⟩ : ∃ j, b = j + 1 := ⟨b - 1, by omega⟩
  obtain ⟨y, hy⟩ : ∃ y, dk[a]! = y := ⟨_, rfl⟩
  have HR := Lib.hid (partition_eq hdk hi b hbj hy)
  rw [hdk] at hS hsk
  clear hdk
  have HY := Lib.hid hy
  clear hy
  generalize Sort.partition ltN d a b pv = res at *
  generalize d[a]! = xa at *
  generalize d[pv]! = xp at *
  have hij : i ≤ j + 2 := by omega
  have haj : a ≤ j := by omega
  clear h0
  go_enter Try.func114, Try.ntmps114
  go_wp2
  go_region
  all_goals go_wp2
  clear hv' ca cp fa fp
  skip
  go_loopw [10] (fun vi wr => ∃ i' : Nat, vi = I i' ∧ i ≤ i' ∧ i' ≤ j + 2 ∧ Srt w0 B S dk wr ∧ Sort.scanUp (fun x => ltN x y) dk j i' = Sort.scanUp (fun x => ltN x y) dk j i) (fun vi _ => j + 3 - (intOf vi).toNat)
  case atStart => exact ⟨i, by subst hi; go_num, Nat.le_refl _, hij, by first | exact hS | exact hS.drewN _, rfl⟩
  case round =>
    clear hS
    obtain ⟨i', rfl, hii, hij', hS, hU⟩ := hrel
    have HU := Lib.hid hU
    clear hU
    have ca := hS.cell a (by omega)
    rw [HY.out] at ca
    by_cases hg : i' ≤ j
    · have hgi : (i' : Int) ≤ (j : Int) := by omega
      obtain ⟨xi, hxi⟩ : ∃ xi, dk[i']! = xi := ⟨_, rfl⟩
      have ci := hS.cell i' (by omega)
      rw [hxi] at ci
      have iI : (i' : Int) < (N : Int) := by omega
      have hless := lessN_calls xi y
      by_cases hx : ltN xi y = true
      · have MORE := Lib.hid (show Sort.scanUp (fun x => ltN x y) dk j (i' + 1) = Sort.scanUp (fun x => ltN x y) dk j i by
          rw [← HU.out]; exact (up_more hg (by rw [hxi]; simp [hx])).symm)
        rw [hx] at hless
        clear hx hxi
        go_wp2
        go_quiet (first | (go_at_call 112; exact quiet2 (hless _) ⟨_, rfl⟩))
        go_wp2
        go_roundw
        case rel => exact ⟨i' + 1, by go_num, by omega, by omega, hS.drewN _, MORE.out⟩
        case measure => simp [intOf]; omega
      · have hx' : ltN xi y = false := by simpa using hx
        have HI := Lib.hid (show Sort.scanUp (fun x => ltN x y) dk j i = i' by rw [← HU.out]; exact up_stop (.inr (by rw [hxi]; simp [hx'])))
        rw [hx'] at hless
        clear hx hx' hxi
        go_wp2
        go_quiet (first | (go_at_call 112; exact quiet2 (hless _) ⟨_, rfl⟩))
        go_wp2
        clear ci
        clear ca hless
        go_loopw [11] (fun vj wr => ∃ j' : Nat, vj = I j' ∧ a ≤ j' ∧ j' ≤ j ∧ Srt w0 B S dk wr ∧ Sort.scanDown (fun x => !ltN x y) dk i' j' = Sort.scanDown (fun x => !ltN x y) dk i' j) (fun vj _ => (intOf vj).toNat)
        case atStart => exact ⟨j, by first | rfl | exact i_eq (by omega), haj, Nat.le_refl _, by first | exact hS | exact hS.drewN _, rfl⟩
        case round =>
          clear hS
          obtain ⟨j', rfl, haj', hjj, hS, hD⟩ := hrel
          have HD := Lib.hid hD
          clear hD
          have ca := hS.cell a (by omega)
          rw [HY.out] at ca
          by_cases hg : i' ≤ j'
          · have hgi : (i' : Int) ≤ (j' : Int) := by omega
            obtain ⟨xj, hxj⟩ : ∃ xj, dk[j']! = xj := ⟨_, rfl⟩
            have cj := hS.cell j' (by omega)
            rw [hxj] at cj
            have ij : (j' : Int) < (N : Int) := by omega
            have hless := lessN_calls xj y
            by_cases hx : ltN xj y = false
            · have MORE := Lib.hid (show Sort.scanDown (fun x => !ltN x y) dk i' (j' - 1) = Sort.scanDown (fun x => !ltN x y) dk i' j by
                rw [← HD.out]
                obtain ⟨j'', rfl⟩ : ∃ j'', j' = j'' + 1 := ⟨j' - 1, by omega⟩
                rw [Nat.add_sub_cancel]
                exact (down_more (by omega) (by rw [hxj]; simp [hx])).symm)
              rw [hx] at hless
              clear hx hxj
              go_wp2
              go_quiet (first | (go_at_call 112; exact quiet2 (hless _) ⟨_, rfl⟩))
              go_wp2
              go_roundw
              case rel => exact ⟨j' - 1, i_eq (by omega), by omega, by omega, hS.drewN _, MORE.out⟩
              case measure => simp [intOf]; omega
            · have hx' : ltN xj y = true := by simpa using hx
              have HJ := Lib.hid (show Sort.scanDown (fun x => !ltN x y) dk i' j = j' by rw [← HD.out]; exact down_stop (by omega) (.inr (by rw [hxj]; simp [hx'])))
              rw [hx'] at hless
              clear hx hx' hxj
              go_wp2
              go_quiet (first | (go_at_call 112; exact quiet2 (hless _) ⟨_, rfl⟩))
              clear cj
              have hgt' : ¬ (j' : Int) < (i' : Int) := by omega
              have iI : (i' : Int) < (N : Int) := by omega
              have ci := hS.cell i' (by omega)
              have cj := hS.cell j' (by omega)
              obtain ⟨v2, hv2⟩ := cell?_setCell_some (w := wr) (p := ⟨B, i', none⟩) (x := U dk[j']!) (q := ⟨B, j', none⟩) (v := U dk[j']!) cj
              have hv3 := fun m => (show ((wr.drewN m).setCell ⟨B, i', none⟩ (U dk[j']!)).cell? ⟨B, j', none⟩ = some v2 from hv2)
              have fi := hS.free i'
              have fj := hS.free j'
              have SW := fun n => Lib.hid ((hS.drewN n).swap i' j' (by omega) (by omega))
              have hs2 : (Sort.swp dk i' j').size = N := by rw [Sort.size_swp]; exact hsk
              have hres := HR.out
              rw [HI.out, HJ.out, if_neg (by omega)] at hres
              obtain ⟨R, hR⟩ : ∃ R, Sort.partLoop ltN a (i' + 1) (j' - 1) (Sort.swp dk i' j') = R := ⟨_, rfl⟩
              rw [hR] at hres
              subst hres
              have HR2 := Lib.hid hR
              clear ca hv2 HR hR HI HJ HD HU HY
              go_wp2
              go_region
              all_goals go_wp2
              all_goals
                go_loopw [10, 11] (fun vi vj wr => ∃ (i j : Nat) (dk : Array Nat), vi = I i ∧ vj = I j ∧ a < i ∧ j < b ∧ a ≤ j ∧ i ≤ j + 2 ∧ dk.size = N ∧ Srt w0 B S dk wr ∧ Sort.partLoop ltN a i j dk = R) (fun vi vj _ => (intOf vj + 2 - intOf vi).toNat)
                case atStart => exact ⟨i' + 1, j' - 1, Sort.swp dk i' j', by go_num, i_eq (by omega), by omega, by omega, by omega, by omega, hs2, by first | exact (SW _).out | exact ((SW _).out).drew, HR2.out⟩
                case round =>
                  clear SW hS hs2 HR2 hsk ci cj iI fi fj hv3 hgt' hjj haj' hij' hii
                  obtain ⟨i, j, dk, rfl, rfl, hai, hjb, haj, hij, hsk, hS, hO⟩ := hrel
                  have HO := Lib.hid hO
                  clear hO
                  obtain ⟨y, hy⟩ : ∃ y, dk[a]! = y := ⟨_, rfl⟩
                  have HY := Lib.hid hy
                  clear hy
                  go_wp2
                  go_loopw [10] (fun vi wr => ∃ i' : Nat, vi = I i' ∧ i ≤ i' ∧ i' ≤ j + 2 ∧ Srt w0 B S dk wr ∧ Sort.scanUp (fun x => ltN x y) dk j i' = Sort.scanUp (fun x => ltN x y) dk j i) (fun vi _ => j + 3 - (intOf vi).toNat)
                  case atStart => exact ⟨i, rfl, Nat.le_refl _, hij, by first | exact hS | exact hS.drewN _, rfl⟩
                  case round =>
                    clear hS
                    obtain ⟨i', rfl, hii, hij', hS, hU⟩ := hrel
                    have HU := Lib.hid hU
                    clear hU
                    have ca := hS.cell a (by omega)
                    rw [HY.out] at ca
                    by_cases hg : i' ≤ j
                    · have hgi : (i' : Int) ≤ (j : Int) := by omega
                      obtain ⟨xi, hxi⟩ : ∃ xi, dk[i']! = xi := ⟨_, rfl⟩
                      have ci := hS.cell i' (by omega)
                      rw [hxi] at ci
                      have iI : (i' : Int) < (N : Int) := by omega
                      have hless := lessN_calls xi y
                      by_cases hx : ltN xi y = true
                      · have MORE := Lib.hid (show Sort.scanUp (fun x => ltN x y) dk j (i' + 1) = Sort.scanUp (fun x => ltN x y) dk j i by
                          rw [← HU.out]; exact (up_more hg (by rw [hxi]; simp [hx])).symm)
                        rw [hx] at hless
                        clear hx hxi
                        go_wp2
                        go_quiet (first | (go_at_call 112; exact quiet2 (hless _) ⟨_, rfl⟩))
                        go_wp2
                        go_roundw
                        case rel => exact ⟨i' + 1, by go_num, by omega, by omega, hS.drewN _, MORE.out⟩
                        case measure => simp [intOf]; omega
                      · have hx' : ltN xi y = false := by simpa using hx
                        have HI := Lib.hid (show Sort.scanUp (fun x => ltN x y) dk j i = i' by rw [← HU.out]; exact up_stop (.inr (by rw [hxi]; simp [hx'])))
                        rw [hx'] at hless
                        clear hx hx' hxi
                        go_wp2
                        go_quiet (first | (go_at_call 112; exact quiet2 (hless _) ⟨_, rfl⟩))
                        go_wp2
                        clear ci
                        clear ca hless
                        go_loopw [11] (fun vj wr => ∃ j' : Nat, vj = I j' ∧ a ≤ j' ∧ j' ≤ j ∧ Srt w0 B S dk wr ∧ Sort.scanDown (fun x => !ltN x y) dk i' j' = Sort.scanDown (fun x => !ltN x y) dk i' j) (fun vj _ => (intOf vj).toNat)
                        case atStart => exact ⟨j, by first | rfl | exact i_eq (by omega), haj, Nat.le_refl _, by first | exact hS | exact hS.drewN _, rfl⟩
                        case round =>
                          clear hS
                          obtain ⟨j', rfl, haj', hjj, hS, hD⟩ := hrel
                          have HD := Lib.hid hD
                          clear hD
                          have ca := hS.cell a (by omega)
                          rw [HY.out] at ca
                          by_cases hg : i' ≤ j'
                          · have hgi : (i' : Int) ≤ (j' : Int) := by omega
                            obtain ⟨xj, hxj⟩ : ∃ xj, dk[j']! = xj := ⟨_, rfl⟩
                            have cj := hS.cell j' (by omega)
                            rw [hxj] at cj
                            have ij : (j' : Int) < (N : Int) := by omega
                            have hless := lessN_calls xj y
                            by_cases hx : ltN xj y = false
                            · have MORE := Lib.hid (show Sort.scanDown (fun x => !ltN x y) dk i' (j' - 1) = Sort.scanDown (fun x => !ltN x y) dk i' j by
                                rw [← HD.out]
                                obtain ⟨j'', rfl⟩ : ∃ j'', j' = j'' + 1 := ⟨j' - 1, by omega⟩
                                rw [Nat.add_sub_cancel]
                                exact (down_more (by omega) (by rw [hxj]; simp [hx])).symm)
                              rw [hx] at hless
                              clear hx hxj
                              go_wp2
                              go_quiet (first | (go_at_call 112; exact quiet2 (hless _) ⟨_, rfl⟩))
                              go_wp2
                              go_roundw
                              case rel => exact ⟨j' - 1, i_eq (by omega), by omega, by omega, hS.drewN _, MORE.out⟩
                              case measure => simp [intOf]; omega
                            · have hx' : ltN xj y = true := by simpa using hx
                              have HJ := Lib.hid (show Sort.scanDown (fun x => !ltN x y) dk i' j = j' by rw [← HD.out]; exact down_stop (by omega) (.inr (by rw [hxj]; simp [hx'])))
                              rw [hx'] at hless
                              clear hx hx' hxj
                              go_wp2
                              go_quiet (first | (go_at_call 112; exact quiet2 (hless _) ⟨_, rfl⟩))
                              clear cj
                              have hgt' : ¬ (j' : Int) < (i' : Int) := by omega
                              have iI : (i' : Int) < (N : Int) := by omega
                              have ci := hS.cell i' (by omega)
                              have cj := hS.cell j' (by omega)
                              obtain ⟨v2, hv2⟩ := cell?_setCell_some (w := wr) (p := ⟨B, i', none⟩) (x := U dk[j']!) (q := ⟨B, j', none⟩) (v := U dk[j']!) cj
                              have hv3 := fun m => (show ((wr.drewN m).setCell ⟨B, i', none⟩ (U dk[j']!)).cell? ⟨B, j', none⟩ = some v2 from hv2)
                              have fi := hS.free i'
                              have fj := hS.free j'
                              have SW := fun n => Lib.hid ((hS.drewN n).swap i' j' (by omega) (by omega))
                              have NEXT := Lib.hid (show Sort.partLoop ltN a (i' + 1) (j' - 1) (Sort.swp dk i' j') = R by
                                rw [← HO.out]; exact (part_more HY.out HI.out HJ.out (by omega) (by omega)).symm)
                              have hs2 : (Sort.swp dk i' j').size = N := by rw [Sort.size_swp]; exact hsk
                              clear ca hv2
                              go_wp2
                              go_region
                              all_goals go_wp2
                              all_goals
                                go_roundw
                                case rel => exact ⟨i' + 1, j' - 1, Sort.swp dk i' j', by go_num, i_eq (by omega), by omega, by omega, by omega, by omega, hs2, by first | exact (SW _).out | exact ((SW _).out).drew, NEXT.out⟩
                                case measure => simp [intOf]; omega
                          · have hgi : ¬ (i' : Int) ≤ (j' : Int) := by omega
                            have hgd : decide (i' ≤ j') = false := decide_eq_false hg
                            have hgd' : decide ((i' : Int) ≤ (j' : Int)) = false := decide_eq_false hgi
                            have HJ := Lib.hid (show Sort.scanDown (fun x => !ltN x y) dk i' j = j' by rw [← HD.out]; exact down_stop (by omega) (.inl (by omega)))
                            go_wp2
                            go_quiet (fail)
                            have hgt' : (j' : Int) < (i' : Int) := by omega
                            have hend := HO.out
                            rw [part_stop HY.out HI.out HJ.out (by omega)] at hend
                            have HE := Lib.hid hend
                            clear hend
                            have ij : (j' : Int) < (N : Int) := by omega
                            have ca := hS.cell a (by omega)
                            rw [HY.out] at ca
                            have cj := hS.cell j' (by omega)
                            have fa := hS.free a
                            have fj := hS.free j'
                            obtain ⟨v2, hv2⟩ := cell?_setCell_some (p := ⟨B, j', none⟩) (w := wr) (x := U y) (q := ⟨B, a, none⟩) (v := U y) ca
                            have hv3 := fun m => (show ((wr.drewN m).setCell ⟨B, j', none⟩ (U y)).cell? ⟨B, a, none⟩ = some v2 from hv2)
                            have sw := fun n => (hS.drewN n).swap j' a (by omega) (by omega)
                            simp only [HY.out] at sw
                            have SW := fun n => Lib.hid (sw n)
                            clear sw
                            clear hv2
                            go_wp2
                            go_region
                            all_goals go_wp2
                            all_goals
                              go_ret2
                              rw [← HE.out]
                              exact ⟨rfl, by first | exact (SW _).out | exact ((SW _).out).drew⟩
                    · have hgi : ¬ (i' : Int) ≤ (j : Int) := by omega
                      have hgd : decide (i' ≤ j) = false := decide_eq_false hg
                      have hgd' : decide ((i' : Int) ≤ (j : Int)) = false := decide_eq_false hgi
                      have HI := Lib.hid (show Sort.scanUp (fun x => ltN x y) dk j i = i' by rw [← HU.out]; exact up_stop (.inl (by omega)))
                      go_wp2
                      go_quiet (fail)
                      go_wp2
                      clear ca hgi hgd hgd'
                      go_loopw [11] (fun vj wr => ∃ j' : Nat, vj = I j' ∧ a ≤ j' ∧ j' ≤ j ∧ Srt w0 B S dk wr ∧ Sort.scanDown (fun x => !ltN x y) dk i' j' = Sort.scanDown (fun x => !ltN x y) dk i' j) (fun vj _ => (intOf vj).toNat)
                      case atStart => exact ⟨j, by first | rfl | exact i_eq (by omega), haj, Nat.le_refl _, by first | exact hS | exact hS.drewN _, rfl⟩
                      case round =>
                        clear hS
                        obtain ⟨j', rfl, haj', hjj, hS, hD⟩ := hrel
                        have HD := Lib.hid hD
                        clear hD
                        have ca := hS.cell a (by omega)
                        rw [HY.out] at ca
                        have hg : ¬ i' ≤ j' := by omega
                        have hgi : ¬ (i' : Int) ≤ (j' : Int) := by omega
                        have hgd : decide (i' ≤ j') = false := decide_eq_false hg
                        have hgd' : decide ((i' : Int) ≤ (j' : Int)) = false := decide_eq_false hgi
                        have HJ := Lib.hid (show Sort.scanDown (fun x => !ltN x y) dk i' j = j' by rw [← HD.out]; exact down_stop (by omega) (.inl (by omega)))
                        go_wp2
                        go_quiet (fail)
                        have hgt' : (j' : Int) < (i' : Int) := by omega
                        have hend := HO.out
                        rw [part_stop HY.out HI.out HJ.out (by omega)] at hend
                        have HE := Lib.hid hend
                        clear hend
                        have ij : (j' : Int) < (N : Int) := by omega
                        have ca := hS.cell a (by omega)
                        rw [HY.out] at ca
                        have cj := hS.cell j' (by omega)
                        have fa := hS.free a
                        have fj := hS.free j'
                        obtain ⟨v2, hv2⟩ := cell?_setCell_some (p := ⟨B, j', none⟩) (w := wr) (x := U y) (q := ⟨B, a, none⟩) (v := U y) ca
                        have hv3 := fun m => (show ((wr.drewN m).setCell ⟨B, j', none⟩ (U y)).cell? ⟨B, a, none⟩ = some v2 from hv2)
                        have sw := fun n => (hS.drewN n).swap j' a (by omega) (by omega)
                        simp only [HY.out] at sw
                        have SW := fun n => Lib.hid (sw n)
                        clear sw
                        clear hv2
                        go_wp2
                        go_region
                        all_goals go_wp2
                        all_goals
                          go_ret2
                          rw [← HE.out]
                          exact ⟨rfl, by first | exact (SW _).out | exact ((SW _).out).drew⟩
          · have hgi : ¬ (i' : Int) ≤ (j' : Int) := by omega
            have hgd : decide (i' ≤ j') = false := decide_eq_false hg
            have hgd' : decide ((i' : Int) ≤ (j' : Int)) = false := decide_eq_false hgi
            have HJ := Lib.hid (show Sort.scanDown (fun x => !ltN x y) dk i' j = j' by rw [← HD.out]; exact down_stop (by omega) (.inl (by omega)))
            go_wp2
            go_quiet (fail)
            have hgt' : (j' : Int) < (i' : Int) := by omega
            have hres := HR.out
            rw [HI.out, HJ.out, if_pos (by omega)] at hres
            subst hres
            have ij : (j' : Int) < (N : Int) := by omega
            have ca := hS.cell a (by omega)
            rw [HY.out] at ca
            have cj := hS.cell j' (by omega)
            have fa := hS.free a
            have fj := hS.free j'
            obtain ⟨v2, hv2⟩ := cell?_setCell_some (p := ⟨B, j', none⟩) (w := wr) (x := U y) (q := ⟨B, a, none⟩) (v := U y) ca
            have hv3 := fun m => (show ((wr.drewN m).setCell ⟨B, j', none⟩ (U y)).cell? ⟨B, a, none⟩ = some v2 from hv2)
            have sw := fun n => (hS.drewN n).swap j' a (by omega) (by omega)
            simp only [HY.out] at sw
            have SW := fun n => Lib.hid (sw n)
            clear sw
            clear hv2
            go_wp2
            go_region
            all_goals go_wp2
            all_goals
              go_ret2
              exact ⟨rfl, by first | exact (SW _).out | exact ((SW _).out).drew⟩
    · have hgi : ¬ (i' : Int) ≤ (j : Int) := by omega
      have hgd : decide (i' ≤ j) = false := decide_eq_false hg
      have hgd' : decide ((i' : Int) ≤ (j : Int)) = false := decide_eq_false hgi
      have HI := Lib.hid (show Sort.scanUp (fun x => ltN x y) dk j i = i' by rw [← HU.out]; exact up_stop (.inl (by omega)))
      go_wp2
      go_quiet (fail)
      go_wp2
      clear ca hgi hgd hgd'
      go_loopw [11] (fun vj wr => ∃ j' : Nat, vj = I j' ∧ a ≤ j' ∧ j' ≤ j ∧ Srt w0 B S dk wr ∧ Sort.scanDown (fun x => !ltN x y) dk i' j' = Sort.scanDown (fun x => !ltN x y) dk i' j) (fun vj _ => (intOf vj).toNat)
      case atStart => exact ⟨j, by first | rfl | exact i_eq (by omega), haj, Nat.le_refl _, by first | exact hS | exact hS.drewN _, rfl⟩
      case round =>
        clear hS
        obtain ⟨j', rfl, haj', hjj, hS, hD⟩ := hrel
        have HD := Lib.hid hD
        clear hD
        have ca := hS.cell a (by omega)
        rw [HY.out] at ca
        have hg : ¬ i' ≤ j' := by omega
        have hgi : ¬ (i' : Int) ≤ (j' : Int) := by omega
        have hgd : decide (i' ≤ j') = false := decide_eq_false hg
        have hgd' : decide ((i' : Int) ≤ (j' : Int)) = false := decide_eq_false hgi
        have HJ := Lib.hid (show Sort.scanDown (fun x => !ltN x y) dk i' j = j' by rw [← HD.out]; exact down_stop (by omega) (.inl (by omega)))
        go_wp2
        go_quiet (fail)
        have hgt' : (j' : Int) < (i' : Int) := by omega
        have hres := HR.out
        rw [HI.out, HJ.out, if_pos (by omega)] at hres
        subst hres
        have ij : (j' : Int) < (N : Int) := by omega
        have ca := hS.cell a (by omega)
        rw [HY.out] at ca
        have cj := hS.cell j' (by omega)
        have fa := hS.free a
        have fj := hS.free j'
        obtain ⟨v2, hv2⟩ := cell?_setCell_some (p := ⟨B, j', none⟩) (w := wr) (x := U y) (q := ⟨B, a, none⟩) (v := U y) ca
        have hv3 := fun m => (show ((wr.drewN m).setCell ⟨B, j', none⟩ (U y)).cell? ⟨B, a, none⟩ = some v2 from hv2)
        have sw := fun n => (hS.drewN n).swap j' a (by omega) (by omega)
        simp only [HY.out] at sw
        have SW := fun n => Lib.hid (sw n)
        clear sw
        clear hv2
        go_wp2
        go_region
        all_goals go_wp2
        all_goals
          go_ret2
          exact ⟨rfl, by first | exact (SW _).out | exact ((SW _).out).drew⟩
end Go.Proofs.Ytjgfcnhnlaobcaa
namespace Go.Proofs.Ytjgfcnhnlaobcaa
open Go.RowKit

theorem up_shift {b j : Nat} {d : Array Nat} (h : j < b) (hl : ltN d[j]! d[j - 1]! = true) : Sort.shiftUp ltN b j d = Sort.shiftUp ltN b (j + 1) (Sort.swp d j (j - 1)) := by
  conv => lhs; rw [Sort.shiftUp, if_pos h, hl]
  rfl
theorem up_still {b j : Nat} {d : Array Nat} (h : b ≤ j ∨ ltN d[j]! d[j - 1]! = false) : Sort.shiftUp ltN b j d = d := by
  rw [Sort.shiftUp]
  by_cases hj : j < b
  · rcases h with h | h
    · omega
    · rw [if_pos hj, h]; rfl
  · rw [if_neg hj]
theorem down_shift {j : Nat} {d : Array Nat} (h : 1 ≤ j) (hl : ltN d[j]! d[j - 1]! = true) : Sort.shiftDown ltN j d = Sort.shiftDown ltN (j - 1) (Sort.swp d j (j - 1)) := by
  obtain ⟨j, rfl⟩ : ∃ i, j = i + 1 := ⟨j - 1, by omega⟩
  rw [Nat.add_sub_cancel] at hl ⊢
  conv => lhs; rw [Sort.shiftDown, hl]
  rfl
theorem down_still {j : Nat} {d : Array Nat} (h : j < 1 ∨ ltN d[j]! d[j - 1]! = false) : Sort.shiftDown ltN j d = d := by
  match j with
  | 0 => rfl
  | j + 1 =>
    rcases h with h | h
    · omega
    · rw [Nat.add_sub_cancel] at h
      rw [Sort.shiftDown, h]
      rfl
theorem sorted_more {b i : Nat} {d : Array Nat} (h : i < b) (hl : ltN d[i]! d[i - 1]! = false) : Sort.scanSorted ltN d b (i + 1) = Sort.scanSorted ltN d b i := by
  conv => rhs; rw [Sort.scanSorted, if_pos (by simp [h, hl])]
theorem sorted_stop {b i : Nat} {d : Array Nat} (h : b ≤ i ∨ ltN d[i]! d[i - 1]! = true) : Sort.scanSorted ltN d b i = i := by
  rw [Sort.scanSorted, if_neg]
  rcases h with h | h
  · simp; omega
  · simp [h]
theorem part_full {a b k i i' : Nat} {d : Array Nat} (h : Sort.scanSorted ltN d b i = i') (hb : i' = b) : Sort.partialIns ltN a b (k + 1) i d = (d, true) := by
  subst h
  rw [Sort.partialIns]
  simp only [hb, if_true]
theorem part_short {a b k i i' : Nat} {d : Array Nat} (h : Sort.scanSorted ltN d b i = i') (hb : i' ≠ b) (h50 : b - a < 50) : Sort.partialIns ltN a b (k + 1) i d = (d, false) := by
  subst h
  rw [Sort.partialIns]
  simp only [if_neg hb, if_pos h50]
theorem part_next {a b k i i' : Nat} {d d1 d2 D : Array Nat} (h : Sort.scanSorted ltN d b i = i') (hb : i' ≠ b) (h50 : ¬ b - a < 50) (h1 : Sort.swp d i' (i' - 1) = d1)
    (h2 : (if 2 ≤ i' - a then Sort.shiftDown ltN (i' - 1) d1 else d1) = d2) (h3 : (if 2 ≤ b - i' then Sort.shiftUp ltN b (i' + 1) d2 else d2) = D) :
    Sort.partialIns ltN a b (k + 1) i d = Sort.partialIns ltN a b k i' D := by
  subst h h1 h2 h3
  rw [Sort.partialIns]
  simp only [if_neg hb, if_neg h50, ge_iff_le]
theorem size_down (k : Nat) (d : Array Nat) : (Sort.shiftDown ltN k d).size = d.size := by
  induction k generalizing d with
  | zero => rfl
  | succ k ih =>
    rw [Sort.shiftDown]
    split
    · rfl
    · rw [ih, Sort.size_swp]
theorem size_up (b n j : Nat) (d : Array Nat) (h : b - j = n) : (Sort.shiftUp ltN b j d).size = d.size := by
  induction n generalizing j d with
  | zero => rw [up_still (.inl (by omega))]
  | succ n ih =>
    rw [Sort.shiftUp, if_pos (by omega)]
    split
    · rfl
    · rw [ih (j + 1) _ (by omega), Sort.size_swp]

set_option maxRecDepth 100000 in
set_option maxHeartbeats 12800000 in
theorem partialInsertionSort_calls (B S cap a b : Nat) (d : Array Nat) (w0 w : World) (h0 : Srt w0 B S d w) (hab : a < b) (hb : b ≤ d.size) (hsz : d.size < 2 ^ 60) :
    Calls Try.prog 111 #[.slice (some ⟨B, 0, none⟩) d.size cap, I a, I b] w fun e w' => e = .returned (.bool (Sort.partialInsertionSort ltN d a b).2) ∧ Srt w0 B S (Sort.partialInsertionSort ltN d a b).1 w' := by
  obtain ⟨N, hN⟩ : ∃ N, d.size = N := ⟨_, rfl⟩
  rw [hN] at hb hsz ⊢
  rw [Sort.partialInsertionSort]
  obtain ⟨R, hR⟩ : ∃ R, Sort.partialIns ltN a b 5 (a + 1) d = R := ⟨_, rfl⟩
  rw [hR]
  have HR := Lib.hid hR
  clear hR
  go_enter Try.func111, Try.ntmps111
  go_wp2
  go_loopw [7, 8] (fun vi vs wr => ∃ (i s k : Nat) (dk : Array Nat), vi = I i ∧ vs = I s ∧ s + k = 5 ∧ a < i ∧ i ≤ b ∧ dk.size = N ∧ Srt w0 B S dk wr ∧ Sort.partialIns ltN a b k i dk = R) (fun _ vs _ => 5 - (intOf vs).toNat)
  case atStart => exact ⟨a + 1, 0, 5, d, by go_num, rfl, rfl, by omega, by omega, hN, h0, HR.out⟩
  case round =>
    clear h0 HR
    obtain ⟨i, s, k, dk, rfl, rfl, hsk5, hai, hib, hsk, hS, hO⟩ := hrel
    have HO := Lib.hid hO
    clear hO
    cases k with
    | zero =>
      have h5 : ¬ (s : Int) < 5 := by omega
      have hres : (dk, false) = R := HO.out
      subst hres
      go_wp2
      go_ret
      exact ⟨rfl, by first | exact hS | exact hS.drewN _⟩
    | succ k =>
      have h5 : (s : Int) < 5 := by omega
      go_wp2
      go_loopw [7] (fun vi wr => ∃ i' : Nat, vi = I i' ∧ i ≤ i' ∧ i' ≤ b ∧ Srt w0 B S dk wr ∧ Sort.scanSorted ltN dk b i' = Sort.scanSorted ltN dk b i) (fun vi _ => b - (intOf vi).toNat)
      case atStart => exact ⟨i, rfl, Nat.le_refl _, hib, by first | exact hS | exact hS.drewN _, rfl⟩
      case round =>
        clear hS
        obtain ⟨i', rfl, hii, hib', hS, hU⟩ := hrel
        have HU := Lib.hid hU
        clear hU
        by_cases hg : i' < b
        · have hgi : (i' : Int) < (b : Int) := by omega
          have iI : (i' : Int) < (N : Int) := by omega
          have c1 := hS.cell i' (by omega)
          have c2 := hS.cell (i' - 1) (by omega)
          have SW := fun n => Lib.hid ((hS.drewN n).swap i' (i' - 1) (by omega) (by omega))
          have hless := lessN_calls dk[i']! dk[i' - 1]!
          have MORE := fun hl => Lib.hid (sorted_more (d := dk) hg hl)
          have STOP := fun hl => Lib.hid (sorted_stop (b := b) (i := i') (d := dk) hl)
          generalize dk[i']! = x at *
          generalize dk[i' - 1]! = y at *
          by_cases hxy : ltN x y = true
          · rw [hxy] at hless
            have HI := Lib.hid (HU.out.symm.trans (STOP (.inr hxy)).out)
            clear STOP MORE hxy
            have hne : i' ≠ b := by omega
            have hnei : ((i' : Int) == (b : Int)) = false := beq_false (by omega)
            by_cases h50 : b - a < 50
            · have h50i : (b : Int) - (a : Int) < 50 := by omega
              have hres := HO.out
              rw [part_short HI.out hne h50] at hres
              subst hres
              clear SW
              go_wp2
              go_quiet (first | (go_at_call 112; exact quiet2 (hless _) ⟨_, rfl⟩))
              go_wp2
              go_ret
              exact ⟨rfl, by first | exact hS | exact hS.drewN _⟩
            · have h50i : ¬ (b : Int) - (a : Int) < 50 := by omega
              obtain ⟨d1, h1⟩ : ∃ d1, Sort.swp dk i' (i' - 1) = d1 := ⟨_, rfl⟩
              obtain ⟨d2, h2⟩ : ∃ d2, (if 2 ≤ i' - a then Sort.shiftDown ltN (i' - 1) d1 else d1) = d2 := ⟨_, rfl⟩
              obtain ⟨D, h3⟩ : ∃ D, (if 2 ≤ b - i' then Sort.shiftUp ltN b (i' + 1) d2 else d2) = D := ⟨_, rfl⟩
              have NEXT := Lib.hid ((part_next HI.out hne h50 h1 h2 h3).symm.trans HO.out)
              have hs1 : d1.size = N := by rw [← h1, Sort.size_swp]; exact hsk
              have hsd2 : d2.size = N := by rw [← h2]; split; · rw [size_down]; exact hs1
                                            · exact hs1
              have hsD : D.size = N := by rw [← h3]; split; · rw [size_up _ _ _ _ rfl]; exact hsd2
                                          · exact hsd2
              have H2 := Lib.hid h2
              have HF := Lib.hid h3
              rw [h1] at SW
              clear h1 h2 h3 HI HO HU
              have f1 := hS.free i'
              have f2 := hS.free (i' - 1)
              by_cases hl : 2 ≤ i' - a
              · have hli : (2 : Int) ≤ (i' : Int) - (a : Int) := by omega
                by_cases hu : 2 ≤ b - i'
                · have hui : (2 : Int) ≤ (b : Int) - (i' : Int) := by omega
                  go_wp2
                  go_quiet (first | (go_at_call 112; exact quiet2 (hless _) ⟨_, rfl⟩))
                  go_wp2
                  go_region
                  all_goals go_wp2
                  clear hless c1 c2 f1 f2 hS
                  have h2 := H2.out
                  rw [if_pos hl] at h2
                  have H22 := Lib.hid h2
                  clear h2
                  go_loopw [9] (fun vj wr => ∃ (j : Nat) (dj : Array Nat), vj = I j ∧ j < i' ∧ dj.size = N ∧ Srt w0 B S dj wr ∧ Sort.shiftDown ltN j dj = d2) (fun vj _ => (intOf vj).toNat)
                  case atStart => exact ⟨i' - 1, d1, i_eq (by omega), by omega, hs1, by first | exact (SW _).out | exact (SW _).out.drew, H22.out⟩
                  case round =>
                    clear SW
                    obtain ⟨j, dj, rfl, hji, hsj, hS, hO⟩ := hrel
                    have HO := Lib.hid hO
                    clear hO
                    by_cases hg : 1 ≤ j
                    · have hgi : (1 : Int) ≤ (j : Int) := by omega
                      have ij : (j : Int) < (N : Int) := by omega
                      have c1 := hS.cell j (by omega)
                      have c2 := hS.cell (j - 1) (by omega)
                      have f1 := hS.free j
                      have f2 := hS.free (j - 1)
                      have HSW := fun n => Lib.hid ((hS.drewN n).swap j (j - 1) (by omega) (by omega))
                      have hless := lessN_calls dj[j]! dj[j - 1]!
                      have MORE := fun hl => Lib.hid (down_shift (j := j) (d := dj) hg hl)
                      have STOP := fun hl => Lib.hid (down_still (j := j) (d := dj) hl)
                      generalize dj[j]! = x at *
                      generalize dj[j - 1]! = y at *
                      by_cases hxy : ltN x y = true
                      · rw [hxy] at hless
                        replace MORE := MORE hxy
                        clear STOP hxy
                        go_wp2
                        go_quiet (first | (go_at_call 112; exact quiet2 (hless _) ⟨_, rfl⟩))
                        go_wp2
                        go_region
                        all_goals go_wp2
                        go_roundw
                        case rel => exact ⟨j - 1, Sort.swp dj j (j - 1), i_eq (by omega), by omega, by rw [Sort.size_swp]; exact hsj, by first | exact (HSW _).out | exact (HSW _).out.drew, by rw [← MORE.out]; exact HO.out⟩
                        case measure => simp [intOf]; omega
                      · have hxy' : ltN x y = false := by simpa using hxy
                        rw [hxy'] at hless
                        have hD := HO.out
                        rw [(STOP (.inr hxy')).out] at hD
                        rw [hD] at hS
                        clear STOP MORE hxy hxy' HSW
                        go_wp2
                        go_quiet (first | (go_at_call 112; exact quiet2 (hless _) ⟨_, rfl⟩))
                        go_wp2
                        clear c1 c2 f1 f2
                        clear hless
                        have hs2 := hsd2
                        clear HO H22 H2 hgi
                        have hF := HF.out
                        rw [if_pos hu] at hF
                        have HF2 := Lib.hid hF
                        clear hF
                        go_loopw [10] (fun vj wr => ∃ (j : Nat) (dj : Array Nat), vj = I j ∧ i' < j ∧ j ≤ b ∧ dj.size = N ∧ Srt w0 B S dj wr ∧ Sort.shiftUp ltN b j dj = D) (fun vj _ => b - (intOf vj).toNat)
                        case atStart => exact ⟨i' + 1, d2, by go_num, by omega, by omega, hs2, by first | exact hS | exact hS.drewN _, HF2.out⟩
                        case round =>
                          clear hS
                          obtain ⟨j, dj, rfl, hij, hjb, hsj, hS, hO⟩ := hrel
                          have HO := Lib.hid hO
                          clear hO
                          by_cases hg : j < b
                          · have hgi : (j : Int) < (b : Int) := by omega
                            have ij : (j : Int) < (N : Int) := by omega
                            have c1 := hS.cell j (by omega)
                            have c2 := hS.cell (j - 1) (by omega)
                            have f1 := hS.free j
                            have f2 := hS.free (j - 1)
                            have HSW := fun n => Lib.hid ((hS.drewN n).swap j (j - 1) (by omega) (by omega))
                            have hless := lessN_calls dj[j]! dj[j - 1]!
                            have MORE := fun hl => Lib.hid (up_shift (b := b) (j := j) (d := dj) hg hl)
                            have STOP := fun hl => Lib.hid (up_still (b := b) (j := j) (d := dj) hl)
                            generalize dj[j]! = x at *
                            generalize dj[j - 1]! = y at *
                            by_cases hxy : ltN x y = true
                            · rw [hxy] at hless
                              replace MORE := MORE hxy
                              clear STOP hxy
                              go_wp2
                              go_quiet (first | (go_at_call 112; exact quiet2 (hless _) ⟨_, rfl⟩))
                              go_wp2
                              go_region
                              all_goals go_wp2
                              go_roundw
                              case rel => exact ⟨j + 1, Sort.swp dj j (j - 1), by go_num, by omega, by omega, by rw [Sort.size_swp]; exact hsj, by first | exact (HSW _).out | exact (HSW _).out.drew, by rw [← MORE.out]; exact HO.out⟩
                              case measure => simp [intOf]; omega
                            · have hxy' : ltN x y = false := by simpa using hxy
                              rw [hxy'] at hless
                              have hD := HO.out
                              rw [(STOP (.inr hxy')).out] at hD
                              rw [hD] at hS
                              clear STOP MORE hxy hxy'
                              go_wp2
                              go_quiet (first | (go_at_call 112; exact quiet2 (hless _) ⟨_, rfl⟩))
                              go_wp2
                              go_roundw
                              case rel => exact ⟨i', s + 1, k, D, rfl, by go_num, by omega, by omega, by omega, hsD, by first | exact hS | exact hS.drewN _, NEXT.out⟩
                              case measure => simp [intOf]; omega
                          · have hgi : ¬ (j : Int) < (b : Int) := by omega
                            have hD := HO.out
                            rw [up_still (.inl (by omega))] at hD
                            rw [hD] at hS
                            go_wp2
                            go_roundw
                            case rel => exact ⟨i', s + 1, k, D, rfl, by go_num, by omega, by omega, by omega, hsD, by first | exact hS | exact hS.drewN _, NEXT.out⟩
                            case measure => simp [intOf]; omega
                    · have hgi : ¬ (1 : Int) ≤ (j : Int) := by omega
                      have hD := HO.out
                      rw [down_still (.inl (by omega))] at hD
                      rw [hD] at hS
                      go_wp2
                      have hs2 := hsd2
                      clear HO H22 H2 hgi
                      have hF := HF.out
                      rw [if_pos hu] at hF
                      have HF2 := Lib.hid hF
                      clear hF
                      go_loopw [10] (fun vj wr => ∃ (j : Nat) (dj : Array Nat), vj = I j ∧ i' < j ∧ j ≤ b ∧ dj.size = N ∧ Srt w0 B S dj wr ∧ Sort.shiftUp ltN b j dj = D) (fun vj _ => b - (intOf vj).toNat)
                      case atStart => exact ⟨i' + 1, d2, by go_num, by omega, by omega, hs2, by first | exact hS | exact hS.drewN _, HF2.out⟩
                      case round =>
                        clear hS
                        obtain ⟨j, dj, rfl, hij, hjb, hsj, hS, hO⟩ := hrel
                        have HO := Lib.hid hO
                        clear hO
                        by_cases hg : j < b
                        · have hgi : (j : Int) < (b : Int) := by omega
                          have ij : (j : Int) < (N : Int) := by omega
                          have c1 := hS.cell j (by omega)
                          have c2 := hS.cell (j - 1) (by omega)
                          have f1 := hS.free j
                          have f2 := hS.free (j - 1)
                          have HSW := fun n => Lib.hid ((hS.drewN n).swap j (j - 1) (by omega) (by omega))
                          have hless := lessN_calls dj[j]! dj[j - 1]!
                          have MORE := fun hl => Lib.hid (up_shift (b := b) (j := j) (d := dj) hg hl)
                          have STOP := fun hl => Lib.hid (up_still (b := b) (j := j) (d := dj) hl)
                          generalize dj[j]! = x at *
                          generalize dj[j - 1]! = y at *
                          by_cases hxy : ltN x y = true
                          · rw [hxy] at hless
                            replace MORE := MORE hxy
                            clear STOP hxy
                            go_wp2
                            go_quiet (first | (go_at_call 112; exact quiet2 (hless _) ⟨_, rfl⟩))
                            go_wp2
                            go_region
                            all_goals go_wp2
                            go_roundw
                            case rel => exact ⟨j + 1, Sort.swp dj j (j - 1), by go_num, by omega, by omega, by rw [Sort.size_swp]; exact hsj, by first | exact (HSW _).out | exact (HSW _).out.drew, by rw [← MORE.out]; exact HO.out⟩
                            case measure => simp [intOf]; omega
                          · have hxy' : ltN x y = false := by simpa using hxy
                            rw [hxy'] at hless
                            have hD := HO.out
                            rw [(STOP (.inr hxy')).out] at hD
                            rw [hD] at hS
                            clear STOP MORE hxy hxy'
                            go_wp2
                            go_quiet (first | (go_at_call 112; exact quiet2 (hless _) ⟨_, rfl⟩))
                            go_wp2
                            go_roundw
                            case rel => exact ⟨i', s + 1, k, D, rfl, by go_num, by omega, by omega, by omega, hsD, by first | exact hS | exact hS.drewN _, NEXT.out⟩
                            case measure => simp [intOf]; omega
                        · have hgi : ¬ (j : Int) < (b : Int) := by omega
                          have hD := HO.out
                          rw [up_still (.inl (by omega))] at hD
                          rw [hD] at hS
                          go_wp2
                          go_roundw
                          case rel => exact ⟨i', s + 1, k, D, rfl, by go_num, by omega, by omega, by omega, hsD, by first | exact hS | exact hS.drewN _, NEXT.out⟩
                          case measure => simp [intOf]; omega
                · have hui : ¬ (2 : Int) ≤ (b : Int) - (i' : Int) := by omega
                  go_wp2
                  go_quiet (first | (go_at_call 112; exact quiet2 (hless _) ⟨_, rfl⟩))
                  go_wp2
                  go_region
                  all_goals go_wp2
                  clear hless c1 c2 f1 f2 hS
                  have h2 := H2.out
                  rw [if_pos hl] at h2
                  have H22 := Lib.hid h2
                  clear h2
                  go_loopw [9] (fun vj wr => ∃ (j : Nat) (dj : Array Nat), vj = I j ∧ j < i' ∧ dj.size = N ∧ Srt w0 B S dj wr ∧ Sort.shiftDown ltN j dj = d2) (fun vj _ => (intOf vj).toNat)
                  case atStart => exact ⟨i' - 1, d1, i_eq (by omega), by omega, hs1, by first | exact (SW _).out | exact (SW _).out.drew, H22.out⟩
                  case round =>
                    clear SW
                    obtain ⟨j, dj, rfl, hji, hsj, hS, hO⟩ := hrel
                    have HO := Lib.hid hO
                    clear hO
                    by_cases hg : 1 ≤ j
                    · have hgi : (1 : Int) ≤ (j : Int) := by omega
                      have ij : (j : Int) < (N : Int) := by omega
                      have c1 := hS.cell j (by omega)
                      have c2 := hS.cell (j - 1) (by omega)
                      have f1 := hS.free j
                      have f2 := hS.free (j - 1)
                      have HSW := fun n => Lib.hid ((hS.drewN n).swap j (j - 1) (by omega) (by omega))
                      have hless := lessN_calls dj[j]! dj[j - 1]!
                      have MORE := fun hl => Lib.hid (down_shift (j := j) (d := dj) hg hl)
                      have STOP := fun hl => Lib.hid (down_still (j := j) (d := dj) hl)
                      generalize dj[j]! = x at *
                      generalize dj[j - 1]! = y at *
                      by_cases hxy : ltN x y = true
                      · rw [hxy] at hless
                        replace MORE := MORE hxy
                        clear STOP hxy
                        go_wp2
                        go_quiet (first | (go_at_call 112; exact quiet2 (hless _) ⟨_, rfl⟩))
                        go_wp2
                        go_region
                        all_goals go_wp2
                        go_roundw
                        case rel => exact ⟨j - 1, Sort.swp dj j (j - 1), i_eq (by omega), by omega, by rw [Sort.size_swp]; exact hsj, by first | exact (HSW _).out | exact (HSW _).out.drew, by rw [← MORE.out]; exact HO.out⟩
                        case measure => simp [intOf]; omega
                      · have hxy' : ltN x y = false := by simpa using hxy
                        rw [hxy'] at hless
                        have hD := HO.out
                        rw [(STOP (.inr hxy')).out] at hD
                        rw [hD] at hS
                        clear STOP MORE hxy hxy' HSW
                        go_wp2
                        go_quiet (first | (go_at_call 112; exact quiet2 (hless _) ⟨_, rfl⟩))
                        go_wp2
                        clear c1 c2 f1 f2
                        clear hless
                        have hs2 := hsd2
                        clear HO H22 H2 hgi
                        have hF := HF.out
                        rw [if_neg hu] at hF
                        rw [hF] at hS
                        go_roundw
                        case rel => exact ⟨i', s + 1, k, D, rfl, by go_num, by omega, by omega, by omega, hsD, by first | exact hS | exact hS.drewN _, NEXT.out⟩
                        case measure => simp [intOf]; omega
                    · have hgi : ¬ (1 : Int) ≤ (j : Int) := by omega
                      have hD := HO.out
                      rw [down_still (.inl (by omega))] at hD
                      rw [hD] at hS
                      go_wp2
                      have hs2 := hsd2
                      clear HO H22 H2 hgi
                      have hF := HF.out
                      rw [if_neg hu] at hF
                      rw [hF] at hS
                      go_roundw
                      case rel => exact ⟨i', s + 1, k, D, rfl, by go_num, by omega, by omega, by omega, hsD, by first | exact hS | exact hS.drewN _, NEXT.out⟩
                      case measure => simp [intOf]; omega
              · have hli : ¬ (2 : Int) ≤ (i' : Int) - (a : Int) := by omega
                by_cases hu : 2 ≤ b - i'
                · have hui : (2 : Int) ≤ (b : Int) - (i' : Int) := by omega
                  go_wp2
                  go_quiet (first | (go_at_call 112; exact quiet2 (hless _) ⟨_, rfl⟩))
                  go_wp2
                  go_region
                  all_goals go_wp2
                  clear hless c1 c2 f1 f2 hS
                  have h2 := H2.out
                  rw [if_neg hl] at h2
                  rw [h2] at SW
                  have hs2 := hsd2
                  have hF := HF.out
                  rw [if_pos hu] at hF
                  have HF2 := Lib.hid hF
                  clear hF
                  go_loopw [10] (fun vj wr => ∃ (j : Nat) (dj : Array Nat), vj = I j ∧ i' < j ∧ j ≤ b ∧ dj.size = N ∧ Srt w0 B S dj wr ∧ Sort.shiftUp ltN b j dj = D) (fun vj _ => b - (intOf vj).toNat)
                  case atStart => exact ⟨i' + 1, d2, by go_num, by omega, by omega, hs2, by first | exact (SW _).out | exact (SW _).out.drew, HF2.out⟩
                  case round =>
                    clear SW
                    obtain ⟨j, dj, rfl, hij, hjb, hsj, hS, hO⟩ := hrel
                    have HO := Lib.hid hO
                    clear hO
                    by_cases hg : j < b
                    · have hgi : (j : Int) < (b : Int) := by omega
                      have ij : (j : Int) < (N : Int) := by omega
                      have c1 := hS.cell j (by omega)
                      have c2 := hS.cell (j - 1) (by omega)
                      have f1 := hS.free j
                      have f2 := hS.free (j - 1)
                      have HSW := fun n => Lib.hid ((hS.drewN n).swap j (j - 1) (by omega) (by omega))
                      have hless := lessN_calls dj[j]! dj[j - 1]!
                      have MORE := fun hl => Lib.hid (up_shift (b := b) (j := j) (d := dj) hg hl)
                      have STOP := fun hl => Lib.hid (up_still (b := b) (j := j) (d := dj) hl)
                      generalize dj[j]! = x at *
                      generalize dj[j - 1]! = y at *
                      by_cases hxy : ltN x y = true
                      · rw [hxy] at hless
                        replace MORE := MORE hxy
                        clear STOP hxy
                        go_wp2
                        go_quiet (first | (go_at_call 112; exact quiet2 (hless _) ⟨_, rfl⟩))
                        go_wp2
                        go_region
                        all_goals go_wp2
                        go_roundw
                        case rel => exact ⟨j + 1, Sort.swp dj j (j - 1), by go_num, by omega, by omega, by rw [Sort.size_swp]; exact hsj, by first | exact (HSW _).out | exact (HSW _).out.drew, by rw [← MORE.out]; exact HO.out⟩
                        case measure => simp [intOf]; omega
                      · have hxy' : ltN x y = false := by simpa using hxy
                        rw [hxy'] at hless
                        have hD := HO.out
                        rw [(STOP (.inr hxy')).out] at hD
                        rw [hD] at hS
                        clear STOP MORE hxy hxy'
                        go_wp2
                        go_quiet (first | (go_at_call 112; exact quiet2 (hless _) ⟨_, rfl⟩))
                        go_wp2
                        go_roundw
                        case rel => exact ⟨i', s + 1, k, D, rfl, by go_num, by omega, by omega, by omega, hsD, by first | exact hS | exact hS.drewN _, NEXT.out⟩
                        case measure => simp [intOf]; omega
                    · have hgi : ¬ (j : Int) < (b : Int) := by omega
                      have hD := HO.out
                      rw [up_still (.inl (by omega))] at hD
                      rw [hD] at hS
                      go_wp2
                      go_roundw
                      case rel => exact ⟨i', s + 1, k, D, rfl, by go_num, by omega, by omega, by omega, hsD, by first | exact hS | exact hS.drewN _, NEXT.out⟩
                      case measure => simp [intOf]; omega
                · omega
          · have hxy' : ltN x y = false := by simpa using hxy
            rw [hxy'] at hless
            replace MORE := MORE hxy'
            clear STOP SW hxy hxy'
            go_wp2
            go_quiet (first | (go_at_call 112; exact quiet2 (hless _) ⟨_, rfl⟩))
            go_wp2
            go_roundw
            case rel => exact ⟨i' + 1, by go_num, by omega, by omega, hS.drewN _, MORE.out.trans HU.out⟩
            case measure => simp [intOf]; omega
        · have hib2 : i' = b := by omega
          have HI := Lib.hid (HU.out.symm.trans (sorted_stop (.inl (by omega))))
          have hgi : ¬ (i' : Int) < (b : Int) := by omega
          have heqi : ((i' : Int) == (b : Int)) = true := by simp [hib2]
          have hres := HO.out
          rw [part_full HI.out hib2] at hres
          subst hres
          go_wp2
          go_quiet (fail)
          go_wp2
          go_ret
          exact ⟨rfl, by first | exact hS | exact hS.drewN _⟩
end Go.Proofs.Ytjgfcnhnlaobcaa
namespace Go.Proofs.Ytjgfcnhnlaobcaa
open Go.Sort Go.RowKit

theorem hintN_two {h : Hint} (e : hintN h = 2) : h = .decreasing := by cases h <;> simp [hintN] at e ⊢
/-- 'leftLen >= length / 8', over Int and over Nat. -/
theorem eighthN {x y p q : Nat} (h1 : q ≤ p) (h2 : y ≤ x) : decide (((x : Int) - (y : Int)) / 8 ≤ (p : Int) - (q : Int)) = decide (p - q ≥ (x - y) / 8) :=
  decide_eq_decide.2 ⟨fun h => by omega, fun h => by omega⟩

set_option maxHeartbeats 12800000 in
set_option maxRecDepth 1000000 in
theorem pdqsort_calls (B S : Nat) (w0 : World) : ∀ (N cap a b limit : Nat) (d : Array Nat) (w : World), b - a < N → Srt w0 B S d w → a ≤ b → b ≤ d.size → d.size < 2 ^ 60 → limit < 2 ^ 60 → Below ltN a b d →
    Calls Try.prog 97 #[.slice (some ⟨B, 0, none⟩) d.size cap, I a, I b, I limit] w fun e w' => e = .returned (.tuple #[]) ∧ Srt w0 B S (pdq ltN d a b limit true true) w' := by
  intro N
  induction N with
  | zero => intro _ _ _ _ _ _ h; exact absurd h (Nat.not_lt_zero _)
  | succ N ih =>
    intro cap a b limit d w hN hH hab hb hsz hlimit hBel0
    go_enter Try.func97, Try.ntmps97
    go_wp2
    go_loopg [1, 2, 3, 8, 9] (b - a) (fun k s1 s2 s3 s8 s9 wr => ∃ (a' b' lim : Nat) (wb wp : Bool) (dk : Array Nat), s1 = I a' ∧ s2 = I b' ∧ s3 = I lim ∧ s8 = .bool wb ∧ s9 = .bool wp ∧
      a' ≤ b' ∧ b' ≤ d.size ∧ b' - a' ≤ k ∧ k ≤ b - a ∧ lim ≤ limit ∧ dk.size = d.size ∧ Below ltN a' b' dk ∧ Srt w0 B S dk wr ∧ pdq ltN dk a' b' lim wb wp = pdq ltN d a b limit true true)
    case atStart => exact ⟨a, b, limit, true, true, d, rfl, rfl, rfl, rfl, rfl, hab, hb, Nat.le_refl _, Nat.le_refl _, Nat.le_refl _, rfl, hBel0, hH, rfl⟩
    case round =>
      obtain ⟨a', b', lim, wb, wp, dk, rfl, rfl, rfl, rfl, rfl, hab', hb', hk, hkN, hlim, hds, hBel, hAt, heq⟩ := hrel
      have A : Hid (pdq ltN dk a' b' lim wb wp = pdq ltN d a b limit true true) := Lib.hid heq
      clear heq
      by_cases h12 : b' - a' ≤ 12
      · -- 'if length <= maxInsertion'
        have h12z : (b' : Int) - (a' : Int) ≤ 12 := by omega
        have hc := insertionSort_calls B S cap a' b' dk w0 wr hAt hab' (by omega) (by omega)
        rw [hds] at hc
        go_wp2_with (go_at_call 106; refine hc.mono ?_; rintro e w1 ⟨rfl, hw1⟩)
        (try simp only [Exit.inBlock, Exit.then]); refine bodyPost_ret (results_none rfl _ _ _) rfl ?_
        refine ⟨rfl, ?_⟩
        rw [← A.out, pdq_small h12]
        exact hw1
      · have h12z : ¬ ((b' : Int) - (a' : Int) ≤ 12) := by omega
        by_cases hl0 : lim = 0
        · -- 'if limit == 0'
          subst hl0
          have hc := heapSort_calls B S cap a' b' dk w0 wr hAt (by omega) (by omega) (by omega)
          rw [hds] at hc
          go_wp2_with (go_at_call 107; refine hc.mono ?_; rintro e w1 ⟨rfl, hw1⟩)
          (try simp only [Exit.inBlock, Exit.then]); refine bodyPost_ret (results_none rfl _ _ _) rfl ?_
          refine ⟨rfl, ?_⟩
          rw [← A.out, pdq_heap h12 rfl]
          exact hw1
        · have hl0z : ¬ ((lim : Int) = 0) := by omega
          obtain ⟨s1, B1, hc1, s2, B2, hpv, s3, B3⟩ := rd_facts (limit := lim) (wb := wb) (wp := wp) ltN_swo partialInsertionSort_holds reverseRange_holds (show a' < b' by omega) (show b' ≤ dk.size by omega) hBel
          go_upto_if 35 with fail
          go_cut [3] from 19 (fun s3 wc => s3 = I (rd ltN dk a' b' lim wb wp).lim ∧ Srt w0 B S (rd ltN dk a' b' lim wb wp).d1 wc)
          case first =>
            cases wb
            · have hc := breakPatterns_calls B S cap a' b' dk w0 wr hAt (by omega) (by omega) (by omega)
              rw [hds] at hc
              go_wp2_with (go_at_call 108; refine hc.mono ?_; rintro e w1 ⟨rfl, hw1⟩)
              go_meet
              case rel =>
                exact ⟨i_eq (show (lim : Int) - 1 = ((lim - 1 : Nat) : Int) by omega), hw1⟩
            · go_wp2_with fail
              go_meet
              case rel => exact ⟨rfl, hAt⟩
          case rest =>
            obtain ⟨rfl, hAt1⟩ := hcut
            have hc17 : Calls Try.prog 109 #[.slice (some ⟨B, 0, none⟩) d.size cap, I a', I b'] wc fun e w' => e = .returned (.tuple #[I (rd ltN dk a' b' lim wb wp).c.1, I (hintN (rd ltN dk a' b' lim wb wp).c.2)]) ∧ Srt w0 B S (rd ltN dk a' b' lim wb wp).d1 w' := by
              have := choosePivot_calls B S cap a' b' (rd ltN dk a' b' lim wb wp).d1 w0 wc hAt1 (by omega) (by omega) (by omega)
              rw [s1, hds] at this
              exact this
            go_upto_if 50 with (go_at_call 109; refine hc17.mono ?_; rintro e w2 ⟨rfl, hAt2⟩)
            go_cut [11, 12] from 19 (fun s11 s12 wc => s11 = I (rd ltN dk a' b' lim wb wp).pivot ∧ s12 = I (hintN (rd ltN dk a' b' lim wb wp).hint) ∧ Srt w0 B S (rd ltN dk a' b' lim wb wp).d2 wc)
            case first =>
              by_cases hh : (rd ltN dk a' b' lim wb wp).c.2 = .decreasing
              · have hcode : hintN (rd ltN dk a' b' lim wb wp).c.2 = 2 := by rw [hh]; rfl
                obtain ⟨e2, epv, eht⟩ := rd_dec hh
                have hc18 := reverseRange_calls B S cap a' b' (rd ltN dk a' b' lim wb wp).d1 w0 w2 hAt2 (by omega) (by omega) (by omega)
                rw [s1, hds] at hc18
                go_wp2_with (go_at_call 110; refine hc18.mono ?_; rintro e w3 ⟨rfl, hw3⟩)
                go_meet
                case rel =>
                  refine ⟨?_, by rw [eht]; rfl, by rw [e2]; exact hw3⟩
                  rw [epv]
                  congr 1
                  omega
              · have hcode : ¬ (hintN (rd ltN dk a' b' lim wb wp).c.2 = 2) := fun h => hh (hintN_two h)
                obtain ⟨e2, epv, eht⟩ := rd_not hh
                go_wp2_with fail
                go_meet
                case rel => exact ⟨by rw [epv], by rw [eht], by rw [e2]; exact hAt2⟩
            case rest =>
              obtain ⟨rfl, rfl, hAt3⟩ := hcut
              go_upto_region 15 with fail
              go_cut [12, 68] from 19 (fun s12 s68 wx => s12 = I (hintN (rd ltN dk a' b' lim wb wp).hint) ∧ s68 = .bool (wb && wp && decide ((rd ltN dk a' b' lim wb wp).hint = .increasing)) ∧ wx = wc)
              case first =>
                cases wb <;> cases wp <;> cases hh3 : (rd ltN dk a' b' lim _ _).hint <;>
                  (have hcode3 := congrArg hintN hh3
                   simp only [hintN] at hcode3
                   go_wp2_with fail
                   go_meet
                   exact ⟨by simp [hh3, hintN], by simp [hh3, hintN], rfl⟩)
              case rest =>
                obtain ⟨rfl, rfl, rfl⟩ := hcut
                go_upto_if 68 with fail
                go_cut [] from 19 (fun wx => (rd ltN dk a' b' lim wb wp).pi.2 = false ∧ Srt w0 B S (rd ltN dk a' b' lim wb wp).pi.1 wx)
                case first =>
                  cases h68 : (wb && wp && decide ((rd ltN dk a' b' lim wb wp).hint = .increasing))
                  · have epi := rd_pi_no h68
                    go_wp2_with fail
                    go_meet
                    case rel => exact ⟨by rw [epi], by rw [epi]; exact hAt3⟩
                  · have epi := rd_pi_yes h68
                    have hc19 := partialInsertionSort_calls B S cap a' b' (rd ltN dk a' b' lim wb wp).d2 w0 wc hAt3 (by omega) (by omega) (by omega)
                    rw [s2, hds, ← epi] at hc19
                    go_wp2_with (go_at_call 111; refine hc19.mono ?_; rintro e w4 ⟨rfl, hw4⟩)
                    all_goals first
                      | (have hp2 : (rd ltN dk a' b' lim wb wp).pi.2 = false := by rw [epi]; assumption
                         go_meet
                         exact ⟨hp2, hw4⟩)
                      | (have hp2 : (rd ltN dk a' b' lim wb wp).pi.2 = true := by rw [epi]; assumption
                         (try simp only [Exit.inBlock, Exit.then]); refine bodyPost_ret (results_none rfl _ _ _) rfl ?_
                         refine ⟨rfl, ?_⟩
                         rw [← A.out, pdq_done h12 hl0 hp2]
                         exact hw4)
                case rest =>
                  obtain ⟨hp2, hAt5⟩ := hcut
                  have cpv := hAt5.cell (rd ltN dk a' b' lim wb wp).pivot (by omega)
                  have ipv : ((rd ltN dk a' b' lim wb wp).pivot : Int) < (d.size : Int) := by omega
                  have ia' : (a' : Int) - 1 < (d.size : Int) := by omega
                  go_upto_region 17 with fail
                  go_cut [87] from 19 (fun s87 wx => s87 = .bool (decide (a' > 0) && !ltN (rd ltN dk a' b' lim wb wp).pi.1[a' - 1]! (rd ltN dk a' b' lim wb wp).pi.1[(rd ltN dk a' b' lim wb wp).pivot]!) ∧ Srt w0 B S (rd ltN dk a' b' lim wb wp).pi.1 wx)
                  case first =>
                    rcases Nat.eq_zero_or_pos a' with ha0 | ha0
                    · have ha0z : decide ((a' : Int) > 0) = false := decide_eq_false (by omega)
                      go_big_quiet (first | (go_at_call 112; exact Calls.quiet_of_same (lessN_calls _ _ _)))
                      go_wp2_with fail
                      go_meet
                      case rel => exact ⟨by simp [ha0], hAt5.drewN _⟩
                    · have ha0z : (a' : Int) > 0 := by omega
                      have cap1 := hAt5.cell (a' - 1) (by omega)
                      go_big_quiet (first | (go_at_call 112; exact Calls.quiet_of_same (lessN_calls _ _ _)))
                      go_wp2_with fail
                      go_meet
                      case rel => exact ⟨by simp [ha0], hAt5.drewN _⟩
                  case rest =>
                    obtain ⟨rfl, hAt6⟩ := hcut
                    clear cpv ipv ia'
                    cases h87 : (decide (a' > 0) && !ltN (rd ltN dk a' b' lim wb wp).pi.1[a' - 1]! (rd ltN dk a' b' lim wb wp).pi.1[(rd ltN dk a' b' lim wb wp).pivot]!)
                    · -- ████ 'mid, alreadyPartitioned := partitionOrdered(..)'; THE SMALLER SIDE BY A CALL OF ITSELF, the other by the next round
                      obtain ⟨mid, ap, d4, hx⟩ : ∃ mid ap d4, partition ltN (rd ltN dk a' b' lim wb wp).pi.1 a' b' (rd ltN dk a' b' lim wb wp).pivot = (mid, ap, d4) := ⟨(partition ltN (rd ltN dk a' b' lim wb wp).pi.1 a' b' (rd ltN dk a' b' lim wb wp).pivot).1, (partition ltN (rd ltN dk a' b' lim wb wp).pi.1 a' b' (rd ltN dk a' b' lim wb wp).pivot).2.1, (partition ltN (rd ltN dk a' b' lim wb wp).pi.1 a' b' (rd ltN dk a' b' lim wb wp).pivot).2.2, rfl⟩
                      obtain ⟨r1, r2, r3, r4, r5, r6, r7⟩ := round_part ltN_swo (partition_holds ltN) hpv.1 hpv.2 (show b' ≤ (rd ltN dk a' b' lim wb wp).pi.1.size by omega) B3 hx
                      have hc22 := partition_calls B S cap a' b' (rd ltN dk a' b' lim wb wp).pivot (rd ltN dk a' b' lim wb wp).pi.1 w0 wc hAt6 (by omega) (by omega) hpv.1 hpv.2 (by omega)
                      rw [s3, hds, hx] at hc22
                      have X : Hid (partition ltN (rd ltN dk a' b' lim wb wp).pi.1 a' b' (rd ltN dk a' b' lim wb wp).pivot = (mid, ap, d4)) := Lib.hid hx
                      clear hx
                      go_upto_if 113 with (go_at_call 114; refine hc22.mono ?_; rintro e w7 ⟨rfl, hAt7⟩)
                      have hx := X.out
                      by_cases h4 : mid - a' < b' - mid
                      · have h4z : (mid : Int) - (a' : Int) < (b' : Int) - (mid : Int) := by omega
                        have hih := ih cap a' mid (rd ltN dk a' b' lim wb wp).lim d4 w7 (by omega) hAt7 (by omega) (by omega) (by omega) (Nat.lt_of_le_of_lt (Nat.le_trans rd_lim_le hlim) hlimit) r4
                        rw [r3, s3, hds] at hih
                        obtain ⟨pL, sL⟩ := pdq_sorts ltN ltN_swo d4 a' mid (rd ltN dk a' b' lim wb wp).lim true true (by omega) (by omega) r4
                        go_wp2_with (go_at_call 97; refine hih.mono ?_; rintro e w8 ⟨rfl, hw8⟩)
                        go_roundg (b' - (mid + 1))
                        case measure => omega
                        case rel =>
                          refine ⟨mid + 1, b', (rd ltN dk a' b' lim wb wp).lim, decide (mid - a' ≥ (b' - a') / 8), ap, pdq ltN d4 a' mid (rd ltN dk a' b' lim wb wp).lim true true, by simp, rfl, rfl, ?_, rfl, by omega, by omega, Nat.le_refl _, by omega, Nat.le_trans rd_lim_le hlim, by rw [pL.1, r3, s3, hds], (r6 _ pL sL).1, hw8, ?_⟩
                          · exact congrArg Value.bool (eighthN (by omega) (by omega))
                          · rw [← A.out, pdq_left h12 hl0 hp2 h87 (by rw [hx]; exact ⟨r1, r2⟩) (by rw [hx]; exact h4), hx]
                      · have h4z : ¬ ((mid : Int) - (a' : Int) < (b' : Int) - (mid : Int)) := by omega
                        have hih := ih cap (mid + 1) b' (rd ltN dk a' b' lim wb wp).lim d4 w7 (by omega) hAt7 (by omega) (by omega) (by omega) (Nat.lt_of_le_of_lt (Nat.le_trans rd_lim_le hlim) hlimit) r5
                        rw [r3, s3, hds] at hih
                        obtain ⟨pL, sL⟩ := pdq_sorts ltN ltN_swo d4 (mid + 1) b' (rd ltN dk a' b' lim wb wp).lim true true (by omega) (by omega) r5
                        go_wp2_with (go_at_call 97; refine hih.mono ?_; rintro e w8 ⟨rfl, hw8⟩)
                        go_roundg (mid - a')
                        case measure => omega
                        case rel =>
                          refine ⟨a', mid, (rd ltN dk a' b' lim wb wp).lim, decide (b' - mid ≥ (b' - a') / 8), ap, pdq ltN d4 (mid + 1) b' (rd ltN dk a' b' lim wb wp).lim true true, rfl, rfl, rfl, ?_, rfl, by omega, by omega, Nat.le_refl _, by omega, Nat.le_trans rd_lim_le hlim, by rw [pL.1, r3, s3, hds], (r7 _ pL sL).1, hw8, ?_⟩
                          · exact congrArg Value.bool (eighthN (by omega) (by omega))
                          · rw [← A.out, pdq_right h12 hl0 hp2 h87 (by rw [hx]; exact ⟨r1, r2⟩) (by rw [hx]; exact h4), hx]
                    · -- ████ 'mid := partitionEqualOrdered(..); a = mid; continue'
                      have h87' := h87
                      simp only [Bool.and_eq_true, decide_eq_true_eq, Bool.not_eq_true'] at h87'
                      obtain ⟨mid, d4, hx⟩ : ∃ mid d4, partitionEqual ltN (rd ltN dk a' b' lim wb wp).pi.1 a' b' (rd ltN dk a' b' lim wb wp).pivot = (mid, d4) := ⟨(partitionEqual ltN (rd ltN dk a' b' lim wb wp).pi.1 a' b' (rd ltN dk a' b' lim wb wp).pivot).1, (partitionEqual ltN (rd ltN dk a' b' lim wb wp).pi.1 a' b' (rd ltN dk a' b' lim wb wp).pivot).2, rfl⟩
                      obtain ⟨r1, r2, r3, r4, _⟩ := round_eq ltN_swo (partitionEqual_holds ltN) h87'.1 hpv.1 hpv.2 (show b' ≤ (rd ltN dk a' b' lim wb wp).pi.1.size by omega) B3 h87'.2 hx
                      have hc21 := partitionEqual_calls B S cap a' b' (rd ltN dk a' b' lim wb wp).pivot (rd ltN dk a' b' lim wb wp).pi.1 w0 wc hAt6 (by omega) (by omega) hpv.1 hpv.2 (by omega)
                      rw [s3, hds, hx] at hc21
                      have X : Hid (partitionEqual ltN (rd ltN dk a' b' lim wb wp).pi.1 a' b' (rd ltN dk a' b' lim wb wp).pivot = (mid, d4)) := Lib.hid hx
                      clear hx
                      go_wp2_with (go_at_call 113; refine hc21.mono ?_; rintro e w7 ⟨rfl, hAt7⟩)
                      go_roundg (b' - mid)
                      case measure => omega
                      case rel =>
                        have hx := X.out
                        exact ⟨mid, b', (rd ltN dk a' b' lim wb wp).lim, wb, wp, d4, rfl, rfl, rfl, rfl, rfl, r2, hb', Nat.le_refl _, by omega, Nat.le_trans rd_lim_le hlim, by rw [r3, s3, hds], r4, hAt7, by rw [← A.out, pdq_eq h12 hl0 hp2 h87 (by rw [hx]; exact ⟨r1, r2⟩), hx]⟩
end Go.Proofs.Ytjgfcnhnlaobcaa
namespace Go.Proofs.Ytjgfcnhnlaobcaa
open Go.RowKit

/-- The numbers, ascending. -/
def asc (l : List Nat) : List Nat := l.mergeSort (fun x y => decide (x ≤ y))

theorem bitsLen_le (n : Nat) (h : n < 2 ^ 60) : Sort.bitsLen n ≤ 60 := by
  rw [Sort.bitsLen]
  split
  · omega
  · have := (Nat.log2_lt (by omega)).2 h
    omega

theorem sort_asc (d : Array Nat) : (Sort.sort ltN d).toList = asc d.toList := by
  have h := Sort.sort_sorts ltN ltN_swo d
  have h2 := Sort.sorted_unique_holds ltN_swo (fun x y h1 h2 => by simp [ltN] at h1 h2; omega) d _ h.1 h.2
  rw [h2, asc]
  congr 1
  funext x y
  simp only [ltN]
  by_cases hxy : x ≤ y
  · simp [hxy]
  · simp [hxy, Nat.lt_of_not_le hxy]
theorem sort_size (d : Array Nat) : (Sort.sort ltN d).size = d.size := (Sort.sort_sorts ltN ltN_swo d).1.1

set_option maxRecDepth 100000 in
set_option maxHeartbeats 3200000 in
theorem sort_calls (B S cap : Nat) (d : Array Nat) (w0 w : World) (h0 : Srt w0 B S d w) (hsz : d.size < 2 ^ 60) :
    Calls Try.prog 79 #[.slice (some ⟨B, 0, none⟩) d.size cap] w fun e w' => e = .returned (.tuple #[]) ∧ Srt w0 B S (Sort.sort ltN d) w' := by
  have hb := fun x => Try.bits_Len (d.size : Int) x (by omega) (by omega)
  have hl : Lib.bitLen d.size = Sort.bitsLen d.size := bitLen_eq d.size (by omega)
  simp only [Int.toNat_natCast, hl] at hb
  have hp := fun (x : World) (hx : Srt w0 B S d x) => pdqsort_calls B S w0 (d.size + 1) cap 0 d.size (Sort.bitsLen d.size) d x (by omega) hx (by omega) (Nat.le_refl _) hsz (Nat.lt_of_le_of_lt (bitsLen_le _ hsz) (by decide)) (.inl rfl)
  have hs : Sort.sort ltN d = Sort.pdq ltN d 0 d.size (Sort.bitsLen d.size) true true := rfl
  rw [← hs] at hp
  generalize Sort.sort ltN d = D at *
  generalize Sort.bitsLen d.size = k at *
  obtain ⟨N, hN⟩ : ∃ N, d.size = N := ⟨_, rfl⟩
  rw [hN] at hsz hb hp ⊢
  clear hl hs
  go_enter Try.func79, Try.ntmps79
  go_wp2_with (first
    | (go_at_call 98; refine (hb _).mono ?_; rintro e w1 ⟨rfl, rfl⟩)
    | (go_at_call 97; refine (hp _ (by first | exact h0 | exact h0.drew | exact h0.drew.drew | exact h0.drewN _)).mono ?_; rintro e w2 ⟨rfl, hS⟩))
  go_end0
  exact ⟨rfl, hS⟩
end Go.Proofs.Ytjgfcnhnlaobcaa
