/- The library's sort at uint64, the ground: a block whose first cells are numbers, and what a swap does to it; the order; insertion. The library's sort at uint64: turning a range round; the heap. The library's sort at uint64: heapsort; the two ends of a partition. The library's sort at uint64: the choice of a pivot. The library's sort at uint64: patterns broken up. -/
import Derived.Test.YtjgfcnhnlaobcaaWz
import Derived.Sort.AssemblyPlain
import Derived.RegionTactic
import Derived.ChangeAlike
import Derived.Sort.LotD5
namespace Go.Proofs.Ytjgfcnhnlaobcaa
open Go.RowKit

/-- cmp.Less at uint64. -/
def ltN (x y : Nat) : Bool := decide (x < y)
theorem ltN_swo : Sort.SWO ltN := ⟨fun x => by simp [ltN], fun x y z h1 h2 => by simp [ltN] at *; omega, fun x y z h1 h2 => by simp [ltN] at *; omega⟩

/-- Block B holds S numbers' cells, of which the first are those of d; all other memory is as in w0. -/
structure Srt (w0 : World) (B S : Nat) (d : Array Nat) (w : World) : Prop where
  row : ∃ cur : Array Value, w.heap[B]? = some (.cells cur 22 (0, 0)) ∧ cur.size = S ∧ d.size ≤ S ∧ ∀ i, i < d.size → cur[i]? = some (U d[i]!)
  old : w0.grownBy w (some B)

theorem Srt.cell {w0 w : World} {B S : Nat} {d : Array Nat} (h : Srt w0 B S d w) (i : Nat) (hi : i < d.size) : w.cell? ⟨B, i, none⟩ = some (U d[i]!) := by
  obtain ⟨cur, h1, _, _, h3⟩ := h.row
  have := h3 i hi
  simp [World.cell?, h1, this]
theorem Srt.free {w0 w : World} {B S : Nat} {d : Array Nat} (h : Srt w0 B S d w) (i : Nat) : w.frozen? ⟨B, i, none⟩ = false := by
  obtain ⟨cur, h1, _⟩ := h.row
  simp [World.frozen?, h1]
theorem Srt.lt {w0 w : World} {B S : Nat} {d : Array Nat} (h : Srt w0 B S d w) : B < w.heap.size := by
  obtain ⟨cur, h1, _⟩ := h.row
  exact lt_of_block h1
theorem grownBy_trans {a b c : World} {r : Option Nat} (h : a.grownBy b r) (k : b.grownBy c r) : a.grownBy c r :=
  ⟨k.os.trans h.os, k.tape.trans h.tape, k.output.trans h.output, Nat.le_trans h.size k.size, fun i hi hr => (k.block i (Nat.lt_of_lt_of_le hi h.size) hr).trans (h.block i hi hr)⟩
theorem Srt.drewN {w0 w : World} {B S : Nat} {d : Array Nat} (h : Srt w0 B S d w) (n : Nat) : Srt w0 B S d (w.drewN n) := ⟨h.row, ⟨h.old.os, h.old.tape, h.old.output, h.old.size, h.old.block⟩⟩
theorem Srt.drew {w0 w : World} {B S : Nat} {d : Array Nat} (h : Srt w0 B S d w) : Srt w0 B S d w.drew := ⟨h.row, ⟨h.old.os, h.old.tape, h.old.output, h.old.size, h.old.block⟩⟩
theorem Srt.kept {w0 w w' : World} {B S : Nat} {d : Array Nat} {r : Option Nat} (h : Srt w0 B S d w) (hg : w.grownBy w' r) (hr : ∀ k, r = some k → w0.heap.size ≤ k ∧ k ≠ B) : Srt w0 B S d w' := by
  have hB : w'.heap[B]? = w.heap[B]? := hg.block B h.lt (fun e => (hr B e.symm).2 rfl)
  refine ⟨?_, ⟨hg.os.trans h.old.os, hg.tape.trans h.old.tape, hg.output.trans h.old.output, Nat.le_trans h.old.size hg.size, fun k hk hne => ?_⟩⟩
  · obtain ⟨cur, h1, r⟩ := h.row
    exact ⟨cur, hB.trans h1, r⟩
  · exact (hg.block k (Nat.lt_of_lt_of_le hk h.old.size) (fun e => by have := (hr k e.symm).1; omega)).trans (h.old.block k hk hne)
theorem Srt.then {w0 w w' : World} {B S : Nat} {d d' : Array Nat} (h : Srt w0 B S d w) (k : Srt w B S d' w') : Srt w0 B S d' w' := ⟨k.row, grownBy_trans h.old k.old⟩
theorem Srt.refl {w0 w : World} {B S : Nat} {d : Array Nat} (h : Srt w0 B S d w) : Srt w B S d w := ⟨h.row, ⟨rfl, rfl, rfl, Nat.le_refl _, fun _ _ _ => rfl⟩⟩
/-- 'data[i], data[j] = data[j], data[i]'. -/
theorem Srt.swap {w0 w : World} {B S : Nat} {d : Array Nat} (h : Srt w0 B S d w) (i j : Nat) (hi : i < d.size) (hj : j < d.size) :
    Srt w0 B S (Sort.swp d i j) ((w.setCell ⟨B, i, none⟩ (U d[j]!)).setCell ⟨B, j, none⟩ (U d[i]!)) := by
  obtain ⟨cur, h1, h2, h3, h4⟩ := h.row
  have hset : ∀ (w : World) (cur : Array Value) (k : Nat) (v : Value), w.heap[B]? = some (.cells cur 22 (0, 0)) → (w.setCell ⟨B, k, none⟩ v).heap[B]? = some (.cells (cur.setIfInBounds k v) 22 (0, 0)) := fun w cur k v h1 => by
    have hlt := lt_of_block h1
    have h' : w.heap[B] = .cells cur 22 (0, 0) := by simpa [Array.getElem?_eq_getElem hlt] using h1
    show (w.heap.modify B _)[B]? = _
    rw [Array.getElem?_eq_getElem (by simpa using hlt), Array.getElem_modify_self, h']
    rfl
  refine ⟨⟨_, hset _ _ _ _ (hset _ _ _ _ h1), by simpa using h2, by rw [Sort.size_swp]; exact h3, fun k hk => ?_⟩, ?_⟩
  · rw [Sort.size_swp] at hk
    by_cases e2 : k = j
    · subst e2
      rw [Array.getElem?_setIfInBounds, if_pos rfl, if_pos (by simp; omega)]
      rw [Sort.swp_right d i k hk]
    · rw [Array.getElem?_setIfInBounds_ne (by omega)]
      by_cases e1 : k = i
      · subst e1
        rw [Array.getElem?_setIfInBounds, if_pos rfl, if_pos (by omega)]
        rw [Sort.swp_left d k j hk e2]
      · rw [Array.getElem?_setIfInBounds_ne (by omega), h4 k hk, Sort.swp_other d i j k e1 e2]
  · refine ⟨h.old.os, h.old.tape, h.old.output, by simpa [World.setCell] using h.old.size, fun k hk hne => ?_⟩
    have hkB : k ≠ B := fun e => hne (by rw [e])
    rw [Below.heap_setCell _ _ _ _ hkB, Below.heap_setCell _ _ _ _ hkB]
    exact h.old.block k hk hne

theorem lessN_calls (a b : Nat) (w : World) : Calls Try.prog 112 #[U a, U b] w fun e w' => e = .returned (.bool (ltN a b)) ∧ w' = w := by
  refine (less_calls a b w).mono ?_
  rintro e w' ⟨rfl, rfl⟩
  refine ⟨?_, rfl⟩
  have : decide ((a : Int) < (b : Int)) = ltN a b := by rw [ltN]; exact decide_eq_decide.2 (by omega)
  rw [this]

theorem insInner_more {lt : Nat → Nat → Bool} {a j : Nat} {d : Array Nat} (hj : a < j) (hl : lt d[j]! d[j - 1]! = true) : Sort.insInner lt a j d = Sort.insInner lt a (j - 1) (Sort.swp d j (j - 1)) := by
  obtain ⟨k, rfl⟩ : ∃ k, j = k + 1 := ⟨j - 1, by omega⟩
  rw [Nat.add_sub_cancel] at hl ⊢
  rw [Sort.insInner, if_pos (by simp [hj, hl])]
theorem insInner_done {lt : Nat → Nat → Bool} {a j : Nat} {d : Array Nat} (h : j ≤ a ∨ lt d[j]! d[j - 1]! = false) : Sort.insInner lt a j d = d := by
  match j with
  | 0 => rfl
  | k + 1 =>
    rw [Nat.add_sub_cancel] at h
    rw [Sort.insInner, if_neg]
    rcases h with h | h
    · simp; omega
    · simp [h]

set_option maxRecDepth 100000 in
set_option maxHeartbeats 1600000 in
theorem insertionSort_calls (B S cap a b : Nat) (d : Array Nat) (w0 w : World) (h0 : Srt w0 B S d w) (hab : a ≤ b) (hb : b ≤ d.size) (hsz : d.size < 2 ^ 60) :
    Calls Try.prog 106 #[.slice (some ⟨B, 0, none⟩) d.size cap, I a, I b] w fun e w' => e = .returned (.tuple #[]) ∧ Srt w0 B S (Sort.insertionSort ltN d a b) w' := by
  obtain ⟨N, hN⟩ : ∃ N, d.size = N := ⟨_, rfl⟩
  rw [hN] at hb hsz ⊢
  go_enter Try.func106, Try.ntmps106
  go_wp2
  go_loopw [6] (fun vi wr => ∃ (i : Nat) (dk : Array Nat), vi = I i ∧ a < i ∧ i ≤ b + 1 ∧ dk.size = N ∧ Srt w0 B S dk wr ∧ Sort.insOuter ltN a b i dk = Sort.insOuter ltN a b (a + 1) d) (fun vi _ => b + 1 - (intOf vi).toNat)
  case atStart => exact ⟨a + 1, d, by go_num, by omega, by omega, hN, h0, rfl⟩
  case round =>
    clear h0
    obtain ⟨i, dk, rfl, hai, hib, hsk, hS, hO⟩ := hrel
    have HO := Lib.hid hO
    clear hO
    by_cases hlt : i < b
    · have hlt' : (i : Int) < (b : Int) := by omega
      go_wp2
      go_loopw [7] (fun vj wr => ∃ (j : Nat) (dj : Array Nat), vj = I j ∧ a ≤ j ∧ j ≤ i ∧ dj.size = N ∧ Srt w0 B S dj wr ∧ Sort.insInner ltN a j dj = Sort.insInner ltN a i dk) (fun vj _ => (intOf vj).toNat)
      case atStart => exact ⟨i, dk, rfl, by omega, Nat.le_refl _, hsk, hS, rfl⟩
      case round =>
        clear hS
        obtain ⟨j, dj, rfl, haj, hji, hsj, hS, hI⟩ := hrel
        have HI := Lib.hid hI
        have OUT := fun (hs : j ≤ a ∨ ltN dj[j]! dj[j - 1]! = false) => Lib.hid (show Sort.insOuter ltN a b (i + 1) dj = Sort.insOuter ltN a b (a + 1) d by
          rw [← HO.out]
          conv => rhs; rw [Sort.insOuter, if_pos hlt, ← HI.out, insInner_done hs])
        clear hI
        by_cases hja : a < j
        · have hc1 := hS.cell j (by omega)
          have hc2 := hS.cell (j - 1) (by omega)
          have hf1 := hS.free j
          have hf2 := hS.free (j - 1)
          have HSW := fun n => Lib.hid ((hS.drewN n).swap j (j - 1) (by omega) (by omega))
          have hja' : (a : Int) < (j : Int) := by omega
          have hless := fun n => lessN_calls dj[j]! dj[j - 1]! (wr.drewN n)
          have MORE := fun hl => Lib.hid (insInner_more (lt := ltN) (d := dj) hja hl)
          generalize dj[j]! = x at *
          generalize dj[j - 1]! = y at *
          by_cases hxy : ltN x y = true
          · rw [hxy] at hless
            replace MORE := MORE hxy
            clear OUT hxy
            go_wp2
            go_quiet (first | (go_at_call 112; exact Calls.quiet_of_same (hless _)))
            go_wp2
            go_region
            all_goals go_wp2
            go_roundw
            case rel => exact ⟨j - 1, Sort.swp dj j (j - 1), i_eq (by omega), by omega, by omega, by rw [Sort.size_swp]; exact hsj, (HSW _).out, by rw [← MORE.out]; exact HI.out⟩
            case measure => simp [intOf]; omega
          · have hxy' : ltN x y = false := by simpa using hxy
            rw [hxy'] at hless
            replace OUT := OUT (.inr hxy')
            clear MORE hxy hxy'
            go_wp2
            go_quiet (first | (go_at_call 112; exact Calls.quiet_of_same (hless _)))
            go_wp2
            go_roundw
            case rel => exact ⟨i + 1, dj, by go_num, by omega, by omega, hsj, hS.drewN _, OUT.out⟩
            case measure => simp [intOf]; omega
        · have hja' : ¬ (a : Int) < (j : Int) := by omega
          have hjd : decide ((a : Int) < (j : Int)) = false := decide_eq_false hja'
          replace OUT := OUT (.inl (by omega))
          go_wp2
          go_quiet (fail)
          go_wp2
          go_roundw
          case rel => exact ⟨i + 1, dj, by go_num, by omega, by omega, hsj, hS.drewN _, OUT.out⟩
          case measure => simp [intOf]; omega
    · have hlt' : ¬ (i : Int) < (b : Int) := by omega
      have hend : dk = Sort.insertionSort ltN d a b := by
        have := HO.out
        rw [Sort.insOuter, if_neg hlt] at this
        exact this
      rw [hend] at hS
      clear HO hend
      go_wp2
      go_end0
      exact ⟨rfl, hS⟩
end Go.Proofs.Ytjgfcnhnlaobcaa
namespace Go.Proofs.Ytjgfcnhnlaobcaa
open Go.RowKit

set_option maxRecDepth 100000 in
set_option maxHeartbeats 1600000 in
theorem reverseRange_calls (B S cap a b : Nat) (d : Array Nat) (w0 w : World) (h0 : Srt w0 B S d w) (hab : a < b) (hb : b ≤ d.size) (hsz : d.size < 2 ^ 60) :
    Calls Try.prog 110 #[.slice (some ⟨B, 0, none⟩) d.size cap, I a, I b] w fun e w' => e = .returned (.tuple #[]) ∧ Srt w0 B S (Sort.reverseRange d a b) w' := by
  obtain ⟨N, hN⟩ : ∃ N, d.size = N := ⟨_, rfl⟩
  rw [hN] at hb hsz ⊢
  go_enter Try.func110, Try.ntmps110
  go_wp2
  go_loopw [6, 7] (fun vi vj wr => ∃ (i j : Nat) (dk : Array Nat), vi = I i ∧ vj = I j ∧ j < N ∧ dk.size = N ∧ Srt w0 B S dk wr ∧ Sort.reverseLoop i j dk = Sort.reverseLoop a (b - 1) d) (fun _ vj _ => (intOf vj).toNat)
  case atStart => exact ⟨a, b - 1, d, rfl, i_eq (by omega), by omega, hN, h0, rfl⟩
  case round =>
    clear h0
    obtain ⟨i, j, dk, rfl, rfl, hj, hsk, hS, hO⟩ := hrel
    have HO := Lib.hid hO
    clear hO
    by_cases hij : i < j
    · have hlt : (i : Int) < (j : Int) := by omega
      have hc1 := hS.cell j (by omega)
      have hc2 := hS.cell i (by omega)
      have hf1 := hS.free j
      have hf2 := hS.free i
      have HSW := fun n => Lib.hid ((hS.drewN n).swap i j (by omega) (by omega))
      have HSW0 := Lib.hid (hS.drew.swap i j (by omega) (by omega))
      have MORE := Lib.hid (show Sort.reverseLoop (i + 1) (j - 1) (Sort.swp dk i j) = Sort.reverseLoop a (b - 1) d by
        rw [← HO.out]; conv => rhs; rw [Sort.reverseLoop, if_pos hij])
      generalize dk[j]! = x at *
      generalize dk[i]! = y at *
      go_wp2
      go_region
      all_goals go_wp2
      go_roundw
      case rel => exact ⟨i + 1, j - 1, Sort.swp dk i j, by go_num, i_eq (by omega), by omega, by rw [Sort.size_swp]; exact hsk, by first | exact (HSW _).out | exact HSW0.out, MORE.out⟩
      case measure => simp [intOf]; omega
    · have hlt : ¬ (i : Int) < (j : Int) := by omega
      have hend : dk = Sort.reverseRange d a b := by
        have := HO.out
        rw [Sort.reverseLoop, if_neg hij] at this
        exact this
      rw [hend] at hS
      clear HO hend
      go_wp2
      go_end0
      exact ⟨rfl, hS⟩

/-- A callee that draws nothing, behind draws. -/
theorem quiet2 {P : Program} {f : FuncId} {args : Array Value} {X : World} {v : Value} {C : World → Prop} (h : Calls P f args X fun e w' => e = .returned v ∧ w' = X) (hx : C X) : Calls P f args X fun e w'' => e = .returned v ∧ C w'' :=
  h.mono fun _ _ ⟨h1, h2⟩ => ⟨h1, h2 ▸ hx⟩
theorem sift_stop {lt : Nat → Nat → Bool} {hi first r : Nat} {d : Array Nat} (h : hi ≤ 2 * r + 1) : Sort.siftDown lt hi first r d = d := by rw [Sort.siftDown, dif_pos h]
/-- The greater child: the right one. -/
theorem sift_right {lt : Nat → Nat → Bool} {hi first r : Nat} {d : Array Nat} (h : 2 * r + 2 < hi) (hl : lt d[first + (2 * r + 1)]! d[first + (2 * r + 2)]! = true) :
    Sort.siftDown lt hi first r d = if lt d[first + r]! d[first + (2 * r + 2)]! then Sort.siftDown lt hi first (2 * r + 2) (Sort.swp d (first + r) (first + (2 * r + 2))) else d := by
  have hl' : lt d[first + (2 * r + 1)]! d[first + (2 * r + 1) + 1]! = true := by rw [show first + (2 * r + 1) + 1 = first + (2 * r + 2) by omega]; exact hl
  rw [Sort.siftDown, dif_neg (by omega), if_pos (by simp [hl']; omega)]
  cases lt d[first + r]! d[first + (2 * r + 2)]! with
  | true => simp [h]
  | false => simp
/-- .. the left one. -/
theorem sift_left {lt : Nat → Nat → Bool} {hi first r : Nat} {d : Array Nat} (h : 2 * r + 1 < hi) (hl : ¬ 2 * r + 2 < hi ∨ lt d[first + (2 * r + 1)]! d[first + (2 * r + 2)]! = false) :
    Sort.siftDown lt hi first r d = if lt d[first + r]! d[first + (2 * r + 1)]! then Sort.siftDown lt hi first (2 * r + 1) (Sort.swp d (first + r) (first + (2 * r + 1))) else d := by
  have hl' : ¬ (2 * r + 1 + 1 < hi && lt d[first + (2 * r + 1)]! d[first + (2 * r + 1) + 1]!) = true := by
    rw [show first + (2 * r + 1) + 1 = first + (2 * r + 2) by omega]
    rcases hl with h1 | h1
    · simp; intro h2; omega
    · simp [h1]
  rw [Sort.siftDown, dif_neg (by omega), if_neg hl']
  cases lt d[first + r]! d[first + (2 * r + 1)]! with
  | true => simp
  | false => simp

set_option maxRecDepth 100000 in
set_option maxHeartbeats 3200000 in
theorem siftDown_calls (B S cap lo hi first : Nat) (d : Array Nat) (w0 w : World) (h0 : Srt w0 B S d w) (hb : first + hi ≤ d.size) (hlo : lo ≤ 2 ^ 60) (hsz : d.size < 2 ^ 60) :
    Calls Try.prog 116 #[.slice (some ⟨B, 0, none⟩) d.size cap, I lo, I hi, I first] w fun e w' => e = .returned (.tuple #[]) ∧ Srt w0 B S (Sort.siftDown ltN hi first lo d) w' := by
  obtain ⟨N, hN⟩ : ∃ N, d.size = N := ⟨_, rfl⟩
  rw [hN] at hb hsz ⊢
  go_enter Try.func116, Try.ntmps116
  go_wp2
  go_loopw [8] (fun vr wr => ∃ (r : Nat) (dk : Array Nat), vr = I r ∧ r ≤ 2 ^ 60 ∧ dk.size = N ∧ Srt w0 B S dk wr ∧ Sort.siftDown ltN hi first r dk = Sort.siftDown ltN hi first lo d) (fun vr _ => hi - (intOf vr).toNat)
  case atStart => exact ⟨lo, d, rfl, hlo, hN, h0, rfl⟩
  case round =>
    clear h0
    obtain ⟨r, dk, rfl, hr, hsk, hS, hO⟩ := hrel
    have HO := Lib.hid hO
    clear hO
    by_cases hend : hi ≤ 2 * r + 1
    · have hlt : (hi : Int) ≤ 2 * (r : Int) + 1 := by omega
      have he : dk = Sort.siftDown ltN hi first lo d := by rw [← HO.out, sift_stop hend]
      rw [he] at hS
      clear he HO
      go_wp2
      go_end0
      exact ⟨rfl, hS⟩
    · obtain ⟨c, hc⟩ : ∃ c, 2 * r + 1 = c := ⟨_, rfl⟩
      obtain ⟨c2, hc2⟩ : ∃ c2, 2 * r + 2 = c2 := ⟨_, rfl⟩
      obtain ⟨q0, hq0⟩ : ∃ q0, first + r = q0 := ⟨_, rfl⟩
      obtain ⟨q1, hq1⟩ : ∃ q1, first + c = q1 := ⟨_, rfl⟩
      obtain ⟨q2, hq2⟩ : ∃ q2, first + c2 = q2 := ⟨_, rfl⟩
      have ec : 2 * (r : Int) + 1 = (c : Int) := by omega
      have ec2 : (c : Int) + 1 = (c2 : Int) := by omega
      have e0 : (first : Int) + (r : Int) = (q0 : Int) := by omega
      have e1 : (first : Int) + (c : Int) = (q1 : Int) := by omega
      have e2 : (first : Int) + (c2 : Int) = (q2 : Int) := by omega
      have e12 : (q1 : Int) + 1 = (q2 : Int) := by omega
      have hlt : ¬ (hi : Int) ≤ (c : Int) := by omega
      have hcb : (c : Int) < 2 ^ 60 := by omega
      have hq1N : q1 < N := by omega
      have hq0N : q0 < N := by omega
      have wq0 : IntKind.i64.wrap (q0 : Int) = (q0 : Int) := IntWalk.i64_in _ (by omega)
      have wq1 : IntKind.i64.wrap (q1 : Int) = (q1 : Int) := IntWalk.i64_in _ (by omega)
      have iq0 : (q0 : Int) < (N : Int) := by omega
      have c0 := hS.cell q0 (by omega)
      have c1 := hS.cell q1 (by omega)
      have f0 := hS.free q0
      have f1 := hS.free q1
      have SW1 := fun n => Lib.hid ((hS.drewN n).swap q0 q1 (by omega) (by omega))
      by_cases hR : 2 * r + 2 < hi ∧ ltN dk[q1]! dk[q2]! = true
      · have STEP := Lib.hid (sift_right (lt := ltN) (first := first) (d := dk) hR.1 (by rw [hc, hc2, hq1, hq2]; exact hR.2))
        rw [hc2, hq0, hq2] at STEP
        have cq2 := hS.cell q2 (by omega)
        have f2 := hS.free q2
        have SW2 := fun n => Lib.hid ((hS.drewN n).swap q0 q2 (by omega) (by omega))
        have g1 : (c2 : Int) < (hi : Int) := by omega
        have wq2 : IntKind.i64.wrap (q2 : Int) = (q2 : Int) := IntWalk.i64_in _ (by omega)
        have iq2 : (q2 : Int) < (N : Int) := by omega
        have hless1 := lessN_calls dk[q1]! dk[q2]!
        rw [hR.2] at hless1
        have hless2 := lessN_calls dk[q0]! dk[q2]!
        have hq2N : q2 < N := by omega
        have hc2N : c2 ≤ 2 ^ 60 := by omega
        have hmeas : r < c2 ∧ c2 < hi := by omega
        clear hc hc2 hq0 hq1 hq2 hR SW1
        generalize dk[q0]! = x0 at *
        generalize dk[q1]! = x1 at *
        generalize dk[q2]! = x2 at *
        by_cases hx : ltN x0 x2 = true
        · rw [hx] at hless2
          rw [hx, if_pos rfl] at STEP
          clear hx
          go_wp2
          go_quiet (first | (go_at_call 112; exact quiet2 (hless1 _) ⟨_, rfl⟩))
          go_wp2
          go_quiet (first | (go_at_call 112; exact quiet2 (hless2 _) ⟨_, rfl⟩))
          go_wp2
          go_region
          all_goals go_wp2
          go_roundw
          case rel => exact ⟨c2, Sort.swp dk q0 q2, rfl, hc2N, by rw [Sort.size_swp]; exact hsk, (SW2 _).out, by rw [← STEP.out]; exact HO.out⟩
          case measure => simp [intOf]; omega
        · have hx' : ltN x0 x2 = false := by simpa using hx
          rw [hx'] at hless2
          rw [hx', if_neg (by simp)] at STEP
          have he : dk = Sort.siftDown ltN hi first lo d := by rw [← HO.out, STEP.out]
          rw [he] at hS
          clear hx hx' he STEP HO
          go_wp2
          go_quiet (first | (go_at_call 112; exact quiet2 (hless1 _) ⟨_, rfl⟩))
          go_wp2
          go_quiet (first | (go_at_call 112; exact quiet2 (hless2 _) ⟨_, rfl⟩))
          go_wp2
          refine bodyPost_ret (results_none rfl _ _ _) rfl ?_
          exact ⟨rfl, by first | exact hS.drewN _ | exact (hS.drewN _).drewN _⟩
      · have hL : ¬ 2 * r + 2 < hi ∨ ltN dk[first + (2 * r + 1)]! dk[first + (2 * r + 2)]! = false := by
          by_cases h1 : 2 * r + 2 < hi
          · refine .inr ?_
            rw [hc, hc2, hq1, hq2]
            cases h2 : ltN dk[q1]! dk[q2]! with
            | true => exact absurd ⟨h1, h2⟩ hR
            | false => rfl
          · exact .inl h1
        have STEP := Lib.hid (sift_left (lt := ltN) (first := first) (d := dk) (by omega) hL)
        rw [hc, hq0, hq1] at STEP
        have hless2 := lessN_calls dk[q0]! dk[q1]!
        have hcN : c ≤ 2 ^ 60 := by omega
        have hmeas : r < c ∧ c < hi := by omega
        by_cases hg : 2 * r + 2 < hi
        · have g1 : (c2 : Int) < (hi : Int) := by omega
          have wq2 : IntKind.i64.wrap (q2 : Int) = (q2 : Int) := IntWalk.i64_in _ (by omega)
          have iq2 : (q2 : Int) < (N : Int) := by omega
          have cq2 := hS.cell q2 (by omega)
          have hless1 := lessN_calls dk[q1]! dk[q2]!
          rw [show ltN dk[q1]! dk[q2]! = false by
            cases h2 : ltN dk[q1]! dk[q2]! with
            | true => exact absurd ⟨hg, h2⟩ hR
            | false => rfl] at hless1
          clear hc hc2 hq0 hq1 hq2 hR hL hg
          generalize dk[q0]! = x0 at *
          generalize dk[q1]! = x1 at *
          generalize dk[q2]! = x2 at *
          by_cases hx : ltN x0 x1 = true
          · rw [hx] at hless2
            rw [hx, if_pos rfl] at STEP
            clear hx
            go_wp2
            go_quiet (first | (go_at_call 112; exact quiet2 (hless1 _) ⟨_, rfl⟩))
            go_wp2
            go_quiet (first | (go_at_call 112; exact quiet2 (hless2 _) ⟨_, rfl⟩))
            go_wp2
            go_region
            all_goals go_wp2
            go_roundw
            case rel => exact ⟨c, Sort.swp dk q0 q1, rfl, hcN, by rw [Sort.size_swp]; exact hsk, (SW1 _).out, by rw [← STEP.out]; exact HO.out⟩
            case measure => simp [intOf]; omega
          · have hx' : ltN x0 x1 = false := by simpa using hx
            rw [hx'] at hless2
            rw [hx', if_neg (by simp)] at STEP
            have he : dk = Sort.siftDown ltN hi first lo d := by rw [← HO.out, STEP.out]
            rw [he] at hS
            clear hx hx' he STEP HO SW1
            go_wp2
            go_quiet (first | (go_at_call 112; exact quiet2 (hless1 _) ⟨_, rfl⟩))
            go_wp2
            go_quiet (first | (go_at_call 112; exact quiet2 (hless2 _) ⟨_, rfl⟩))
            go_wp2
            refine bodyPost_ret (results_none rfl _ _ _) rfl ?_
            exact ⟨rfl, by first | exact hS.drewN _ | exact (hS.drewN _).drewN _⟩
        · have g1 : ¬ (c2 : Int) < (hi : Int) := by omega
          have g1d : decide (c2 < hi) = false := decide_eq_false (by omega)
          have wc2 : IntKind.i64.wrap (c2 : Int) = (c2 : Int) := IntWalk.i64_in _ (by omega)
          clear hc hc2 hq0 hq1 hq2 hR hL hg
          generalize dk[q0]! = x0 at *
          generalize dk[q1]! = x1 at *
          by_cases hx : ltN x0 x1 = true
          · rw [hx] at hless2
            rw [hx, if_pos rfl] at STEP
            clear hx
            go_wp2
            go_quiet (fail)
            go_wp2
            go_quiet (first | (go_at_call 112; exact quiet2 (hless2 _) ⟨_, rfl⟩))
            go_wp2
            go_region
            all_goals go_wp2
            go_roundw
            case rel => exact ⟨c, Sort.swp dk q0 q1, rfl, hcN, by rw [Sort.size_swp]; exact hsk, (SW1 _).out, by rw [← STEP.out]; exact HO.out⟩
            case measure => simp [intOf]; omega
          · have hx' : ltN x0 x1 = false := by simpa using hx
            rw [hx'] at hless2
            rw [hx', if_neg (by simp)] at STEP
            have he : dk = Sort.siftDown ltN hi first lo d := by rw [← HO.out, STEP.out]
            rw [he] at hS
            clear hx hx' he STEP HO SW1
            go_wp2
            go_quiet (fail)
            go_wp2
            go_quiet (first | (go_at_call 112; exact quiet2 (hless2 _) ⟨_, rfl⟩))
            go_wp2
            refine bodyPost_ret (results_none rfl _ _ _) rfl ?_
            exact ⟨rfl, by first | exact hS.drewN _ | exact (hS.drewN _).drewN _⟩
end Go.Proofs.Ytjgfcnhnlaobcaa
namespace Go.Proofs.Ytjgfcnhnlaobcaa
open Go.RowKit

theorem siftDown_size (hi first lo : Nat) (d : Array Nat) : (Sort.siftDown ltN hi first lo d).size = d.size := by
  induction hn : hi - lo using Nat.strongRecOn generalizing lo d with
  | ind n ih =>
    by_cases h1 : hi ≤ 2 * lo + 1
    · rw [sift_stop h1]
    · by_cases h2 : 2 * lo + 2 < hi ∧ ltN d[first + (2 * lo + 1)]! d[first + (2 * lo + 2)]! = true
      · rw [sift_right h2.1 h2.2]
        split
        · rw [ih (hi - (2 * lo + 2)) (by omega) _ _ rfl, Sort.size_swp]
        · rfl
      · rw [sift_left (by omega) (by
          by_cases h3 : 2 * lo + 2 < hi
          · refine .inr ?_
            cases h4 : ltN d[first + (2 * lo + 1)]! d[first + (2 * lo + 2)]! with
            | true => exact absurd ⟨h3, h4⟩ h2
            | false => rfl
          · exact .inl h3)]
        split
        · rw [ih (hi - (2 * lo + 1)) (by omega) _ _ rfl, Sort.size_swp]
        · rfl

set_option maxRecDepth 100000 in
set_option maxHeartbeats 3200000 in
theorem heapSort_calls (B S cap a b : Nat) (d : Array Nat) (w0 w : World) (h0 : Srt w0 B S d w) (hab : a < b) (hb : b ≤ d.size) (hsz : d.size < 2 ^ 60) :
    Calls Try.prog 107 #[.slice (some ⟨B, 0, none⟩) d.size cap, I a, I b] w fun e w' => e = .returned (.tuple #[]) ∧ Srt w0 B S (Sort.heapSort ltN d a b) w' := by
  obtain ⟨N, hN⟩ : ∃ N, d.size = N := ⟨_, rfl⟩
  obtain ⟨hi, hhi⟩ : ∃ hi, b - a = hi := ⟨_, rfl⟩
  have hh : (b : Int) - (a : Int) = (hi : Int) := by omega
  obtain ⟨m, hm⟩ : ∃ m, (hi - 1) / 2 = m := ⟨_, rfl⟩
  have hdiv : ((hi : Int) - 1) / 2 = (m : Int) := by omega
  have hh1 : 1 ≤ hi := by omega
  have hm60 : m < 2 ^ 60 := by omega
  have hsift := fun (lo hi' : Nat) (dk : Array Nat) (x : World) (hx : Srt w0 B S dk x) (hk : dk.size = N) (h1 : hi' ≤ hi) (h2 : lo ≤ 2 ^ 60) => by
    have := siftDown_calls B S cap lo hi' a dk w0 x hx (by omega) h2 (by omega)
    rw [hk] at this
    exact this
  have hdef : Sort.heapSort ltN d a b = Sort.heapPop ltN a hi (Sort.heapBuild ltN hi a (m + 1) d) := by rw [Sort.heapSort, hhi, hm]
  rw [hN] at hb hsz ⊢
  rw [hdef]
  have hwh : IntKind.i64.wrap (hi : Int) = (hi : Int) := IntWalk.i64_in _ (by omega)
  go_enter Try.func107, Try.ntmps107
  go_wp2
  go_loopw [9] (fun vi wr => ∃ (k : Nat) (dk : Array Nat), vi = I ((k : Int) - 1) ∧ k ≤ m + 1 ∧ dk.size = N ∧ Srt w0 B S dk wr ∧ Sort.heapBuild ltN hi a k dk = Sort.heapBuild ltN hi a (m + 1) d) (fun vi _ => (intOf vi + 1).toNat)
  case atStart => exact ⟨m + 1, d, i_eq (by omega), Nat.le_refl _, hN, h0, rfl⟩
  case round =>
    clear h0 hdiv hm
    obtain ⟨k, dk, rfl, hk, hsk, hS, hO⟩ := hrel
    cases k with
    | zero =>
      have hO' : dk = Sort.heapBuild ltN hi a (m + 1) d := hO
      have hlt : ¬ (0 : Int) ≤ ((0 : Nat) : Int) - 1 := by omega
      have HD := Lib.hid hO'
      clear hO hO' hk hdef
      go_wp2
      have hsk0 := hsk
      go_loopw [10] (fun vi wr => ∃ (k : Nat) (dj : Array Nat), vi = I ((k : Int) - 1) ∧ k ≤ hi ∧ dj.size = N ∧ Srt w0 B S dj wr ∧ Sort.heapPop ltN a k dj = Sort.heapPop ltN a hi dk) (fun vi _ => (intOf vi + 1).toNat)
      case atStart => exact ⟨hi, dk, rfl, Nat.le_refl _, hsk, hS, rfl⟩
      case round =>
        clear hS
        obtain ⟨k, dj, rfl, hk, hsk, hS, hO⟩ := hrel
        cases k with
        | zero =>
          have hO' : dj = Sort.heapPop ltN a hi dk := hO
          have hlt : ¬ (0 : Int) ≤ ((0 : Nat) : Int) - 1 := by omega
          rw [hO'] at hS
          clear hO hO'
          go_wp2
          go_end0
          rw [← HD.out]
          exact ⟨rfl, hS⟩
        | succ k =>
          have e1 : ((k + 1 : Nat) : Int) - 1 = (k : Int) := by omega
          rw [e1]
          obtain ⟨q, hq⟩ : ∃ q, a + k = q := ⟨_, rfl⟩
          have eq : (a : Int) + (k : Int) = (q : Int) := by omega
          have wq : IntKind.i64.wrap (q : Int) = (q : Int) := IntWalk.i64_in _ (by omega)
          have iq : (q : Int) < (N : Int) := by omega
          have ia : (a : Int) < (N : Int) := by omega
          have c0 := hS.cell a (by omega)
          have c1 := hS.cell q (by omega)
          have f0 := hS.free a
          have f1 := hS.free q
          have SWD := (hS.swap a q (by omega) (by omega)).drew
          have hss : (Sort.swp dj a q).size = N := by rw [Sort.size_swp]; exact hsk
          have hs := hsift 0 k (Sort.swp dj a q) _ SWD hss (by omega) (by omega)
          have HO := Lib.hid (show Sort.heapPop ltN a k (Sort.siftDown ltN k a 0 (Sort.swp dj a q)) = Sort.heapPop ltN a hi dk by rw [← hq]; exact hO)
          have hsz2 := siftDown_size k a 0 (Sort.swp dj a q)
          obtain ⟨v', hv'⟩ := cell?_setCell_some (w := wr) (p := ⟨B, a, none⟩) (x := U dj[q]!) (q := ⟨B, q, none⟩) (v := U dj[q]!) c1
          generalize Sort.siftDown ltN k a 0 (Sort.swp dj a q) = dn at *
          generalize Sort.swp dj a q = ds at *
          generalize dj[a]! = x at *
          generalize dj[q]! = y at *
          clear hO e1 hq
          go_wp2
          go_region
          go_wp2_with (first | (go_at_call 116; refine hs.mono ?_; rintro e w2 ⟨rfl, hS2⟩))
          go_roundw
          case rel => exact ⟨k, dn, rfl, by omega, hsz2.trans hss, hS2, HO.out⟩
          case measure => simp [intOf]
    | succ k =>
      have e1 : ((k + 1 : Nat) : Int) - 1 = (k : Int) := by omega
      rw [e1]
      have hs := hsift k hi dk wr hS hsk (Nat.le_refl _) (by omega)
      have HO := Lib.hid (show Sort.heapBuild ltN hi a k (Sort.siftDown ltN hi a k dk) = Sort.heapBuild ltN hi a (m + 1) d from hO)
      have hsz2 := siftDown_size hi a k dk
      generalize Sort.siftDown ltN hi a k dk = dn at *
      clear hO e1
      go_wp2_with (first | (go_at_call 116; refine hs.mono ?_; rintro e w2 ⟨rfl, hS2⟩))
      go_roundw
      case rel => exact ⟨k, dn, rfl, by omega, hsz2.trans hsk, hS2, HO.out⟩
      case measure => simp [intOf]
end Go.Proofs.Ytjgfcnhnlaobcaa
namespace Go.Proofs.Ytjgfcnhnlaobcaa
open Go.RowKit

theorem Srt.other {w0 w : World} {B S C : Nat} {d : Array Nat} (h : Srt w0 B S d w) (hCB : C ≠ B) (hC0 : w0.heap.size ≤ C) (k : Nat) (v : Value) : Srt w0 B S d (w.setCell ⟨C, k, none⟩ v) := by
  refine h.kept (r := some C) ⟨rfl, rfl, rfl, by simp [World.setCell], fun i _ hr => Below.heap_setCell _ _ _ _ (fun e => hr (by rw [e]))⟩ ?_
  intro k hk
  cases hk
  exact ⟨hC0, hCB⟩

theorem cell_one {w : World} {C : Nat} {v : Value} {t : TypeId} (h : w.heap[C]? = some (.cells #[v] t (0, 0))) : w.cell? ⟨C, 0, none⟩ = some v := by simp [World.cell?, h]
theorem free_one {w : World} {C : Nat} {v : Value} {t : TypeId} (h : w.heap[C]? = some (.cells #[v] t (0, 0))) : w.frozen? ⟨C, 0, none⟩ = false := by simp [World.frozen?, h]

set_option maxRecDepth 100000 in
set_option maxHeartbeats 1600000 in
theorem order2_calls (B S cap a b s C : Nat) (d : Array Nat) (w0 w : World) (h0 : Srt w0 B S d w) (ha : a < d.size) (hb : b < d.size) (hs : s < 1000)
    (hC : w.heap[C]? = some (.cells #[I s] 3 (0, 0))) (hCB : C ≠ B) (hC0 : w0.heap.size ≤ C) :
    Calls Try.prog 122 #[.slice (some ⟨B, 0, none⟩) d.size cap, I a, I b, .pointer (some ⟨C, 0, none⟩)] w fun e w' =>
      e = .returned (.tuple #[I (Sort.order2 ltN d a b s).1, I (Sort.order2 ltN d a b s).2.1]) ∧ Srt w0 B S d w' ∧ w'.heap[C]? = some (.cells #[I (Sort.order2 ltN d a b s).2.2] 3 (0, 0)) := by
  obtain ⟨N, hN⟩ : ∃ N, d.size = N := ⟨_, rfl⟩
  have ia : (a : Int) < (N : Int) := by omega
  have ib : (b : Int) < (N : Int) := by omega
  have c1 := h0.cell a ha
  have c2 := h0.cell b hb
  have cc := cell_one hC
  have fc := free_one hC
  have hless := lessN_calls d[b]! d[a]!
  have hR := fun n => Lib.hid ((h0.drewN n).other hCB hC0 0 (I ((s + 1 : Nat) : Int)))
  have hR2 := fun n => Lib.hid (one_setCell (w := w.drewN n) (u := I ((s + 1 : Nat) : Int)) hC)
  rw [hN]
  rw [Sort.order2]
  generalize d[b]! = y at *
  generalize d[a]! = x at *
  by_cases hl : ltN y x = true
  · rw [hl] at hless
    rw [if_pos hl]
    clear hl
    go_enter Try.func122, Try.ntmps122
    go_wp2
    go_quiet (first | (go_at_call 112; exact quiet2 (hless _) ⟨_, rfl⟩))
    go_wp2
    go_ret2
    exact ⟨rfl, (hR _).out, (hR2 _).out⟩
  · have hl' : ltN y x = false := by simpa using hl
    rw [hl'] at hless
    rw [if_neg hl]
    clear hl hl' hR hR2
    go_enter Try.func122, Try.ntmps122
    go_wp2
    go_quiet (first | (go_at_call 112; exact quiet2 (hless _) ⟨_, rfl⟩))
    go_wp2
    go_ret2
    exact ⟨rfl, h0.drewN _, hC⟩

theorem order2_lt {lt : Nat → Nat → Bool} {d : Array Nat} {a b s N : Nat} (ha : a < N) (hb : b < N) : (Sort.order2 lt d a b s).1 < N ∧ (Sort.order2 lt d a b s).2.1 < N ∧ (Sort.order2 lt d a b s).2.2 ≤ s + 1 ∧ s ≤ (Sort.order2 lt d a b s).2.2 := by
  rw [Sort.order2]
  split
  · exact ⟨hb, ha, Nat.le_refl _, by simp⟩
  · exact ⟨ha, hb, by simp, by simp⟩

set_option maxRecDepth 100000 in
set_option maxHeartbeats 1600000 in
theorem median_calls (B S cap a b c s C : Nat) (d : Array Nat) (w0 w : World) (h0 : Srt w0 B S d w) (ha : a < d.size) (hb : b < d.size) (hc : c < d.size) (hs : s < 900)
    (hC : w.heap[C]? = some (.cells #[I s] 3 (0, 0))) (hCB : C ≠ B) (hC0 : w0.heap.size ≤ C) :
    Calls Try.prog 120 #[.slice (some ⟨B, 0, none⟩) d.size cap, I a, I b, I c, .pointer (some ⟨C, 0, none⟩)] w fun e w' =>
      e = .returned (I (Sort.median ltN d a b c s).1) ∧ Srt w0 B S d w' ∧ w'.heap[C]? = some (.cells #[I (Sort.median ltN d a b c s).2] 3 (0, 0)) := by
  have g1 := order2_lt (lt := ltN) (d := d) (s := s) ha hb
  have k1 := order2_calls B S cap a b s C d w0 w h0 ha hb (by omega) hC hCB hC0
  rw [Sort.median]
  generalize Sort.order2 ltN d a b s = r1 at *
  obtain ⟨a1, b1, s1⟩ := r1
  dsimp only at g1 k1 ⊢
  have g2 := order2_lt (lt := ltN) (d := d) (s := s1) g1.2.1 hc
  have k2 := fun x (hx : Srt w0 B S d x) (hcx : x.heap[C]? = some (.cells #[I s1] 3 (0, 0))) => order2_calls B S cap b1 c s1 C d w0 x hx g1.2.1 hc (by omega) hcx hCB hC0
  generalize Sort.order2 ltN d b1 c s1 = r2 at *
  obtain ⟨b2, c2, s2⟩ := r2
  dsimp only at g2 k2 ⊢
  have k3 := fun x (hx : Srt w0 B S d x) (hcx : x.heap[C]? = some (.cells #[I s2] 3 (0, 0))) => order2_calls B S cap a1 b2 s2 C d w0 x hx g1.1 g2.1 (by omega) hcx hCB hC0
  generalize Sort.order2 ltN d a1 b2 s2 = r3 at *
  obtain ⟨a3, b3, s3⟩ := r3
  dsimp only at k3 ⊢
  clear g1 g2 ha hb hc h0 hC
  go_enter Try.func120, Try.ntmps120
  go_wp2_with (first
    | (go_at_call 122; refine k1.mono ?_; clear k1; rintro e w1 ⟨rfl, hs1, hc1⟩)
    | (go_at_call 122; refine (k2 _ hs1 hc1).mono ?_; clear k2; rintro e w2 ⟨rfl, hs2, hc2⟩)
    | (go_at_call 122; refine (k3 _ hs2 hc2).mono ?_; clear k3; rintro e w3 ⟨rfl, hs3, hc3⟩))
  go_ret
  exact ⟨rfl, hs3, hc3⟩

theorem median_lt {lt : Nat → Nat → Bool} {d : Array Nat} {a b c s N : Nat} (ha : a < N) (hb : b < N) (hc : c < N) : (Sort.median lt d a b c s).1 < N ∧ (Sort.median lt d a b c s).2 ≤ s + 3 := by
  rw [Sort.median]
  have g1 := order2_lt (lt := lt) (d := d) (s := s) ha hb
  generalize Sort.order2 lt d a b s = r1 at *
  have g2 := order2_lt (lt := lt) (d := d) (s := r1.2.2) g1.2.1 hc
  dsimp only
  generalize Sort.order2 lt d r1.2.1 c r1.2.2 = r2 at *
  have g3 := order2_lt (lt := lt) (d := d) (s := r2.2.2) g1.1 g2.1
  exact ⟨g3.2.1, by omega⟩

set_option maxRecDepth 100000 in
set_option maxHeartbeats 1600000 in
theorem medianAdjacent_calls (B S cap a s C : Nat) (d : Array Nat) (w0 w : World) (h0 : Srt w0 B S d w) (ha : 1 ≤ a) (hb : a + 1 < d.size) (hsz : d.size < 2 ^ 60) (hs : s < 900)
    (hC : w.heap[C]? = some (.cells #[I s] 3 (0, 0))) (hCB : C ≠ B) (hC0 : w0.heap.size ≤ C) :
    Calls Try.prog 119 #[.slice (some ⟨B, 0, none⟩) d.size cap, I a, .pointer (some ⟨C, 0, none⟩)] w fun e w' =>
      e = .returned (I (Sort.medianAdjacent ltN d a s).1) ∧ Srt w0 B S d w' ∧ w'.heap[C]? = some (.cells #[I (Sort.medianAdjacent ltN d a s).2] 3 (0, 0)) := by
  have k1 := median_calls B S cap (a - 1) a (a + 1) s C d w0 w h0 (by omega) (by omega) hb hs hC hCB hC0
  rw [Sort.medianAdjacent]
  generalize Sort.median ltN d (a - 1) a (a + 1) s = r at *
  rw [show ((a - 1 : Nat) : Int) = (a : Int) - 1 by omega, show ((a + 1 : Nat) : Int) = (a : Int) + 1 by omega] at k1
  clear h0 hC
  go_enter Try.func119, Try.ntmps119
  go_wp2_with (first
    | (go_at_call 120; refine k1.mono ?_; clear k1; rintro e w1 ⟨rfl, hs1, hc1⟩))
  go_ret
  exact ⟨rfl, hs1, hc1⟩

/-- The library's numbers of its three hints. -/
def hintN : Sort.Hint → Int
  | .unknown => 0
  | .increasing => 1
  | .decreasing => 2

set_option maxRecDepth 100000 in
set_option maxHeartbeats 3200000 in
theorem choosePivot_calls (B S cap a b : Nat) (d : Array Nat) (w0 w : World) (h0 : Srt w0 B S d w) (hab : a + 8 ≤ b) (hb : b ≤ d.size) (hsz : d.size < 2 ^ 60) :
    Calls Try.prog 109 #[.slice (some ⟨B, 0, none⟩) d.size cap, I a, I b] w fun e w' =>
      e = .returned (.tuple #[I (Sort.choosePivot ltN d a b).1, I (hintN (Sort.choosePivot ltN d a b).2)]) ∧ Srt w0 B S d w' := by
  obtain ⟨C, hCe⟩ : ∃ C, w.heap.size = C := ⟨_, rfl⟩
  have hA : Srt w0 B S d (w.alloc (.cells #[I 0] 3)) := h0.kept (World.grownBy_alloc w _ none) (fun k hk => by cases hk)
  have hCC : (w.alloc (.cells #[I 0] 3)).heap[C]? = some (.cells #[I ((0 : Nat) : Int)] 3 (0, 0)) := by rw [← hCe]; exact alloc_new w _
  have hCB : C ≠ B := fun e => by have := h0.lt; omega
  have hC0 : w0.heap.size ≤ C := by have := h0.old.size; omega
  obtain ⟨l, hl⟩ : ∃ l, b - a = l := ⟨_, rfl⟩
  obtain ⟨q, hq⟩ : ∃ q, l / 4 = q := ⟨_, rfl⟩
  obtain ⟨i, hi⟩ : ∃ i, a + q * 1 = i := ⟨_, rfl⟩
  obtain ⟨j, hj⟩ : ∃ j, a + q * 2 = j := ⟨_, rfl⟩
  obtain ⟨k, hk⟩ : ∃ k, a + q * 3 = k := ⟨_, rfl⟩
  obtain ⟨N, hN⟩ : ∃ N, d.size = N := ⟨_, rfl⟩
  have el : (b : Int) - (a : Int) = (l : Int) := by omega
  have eq : (l : Int) / 4 = (q : Int) := by omega
  have ei : (a : Int) + (q : Int) = (i : Int) := by omega
  have ej : (a : Int) + (q : Int) * 2 = (j : Int) := by omega
  have ek : (a : Int) + (q : Int) * 3 = (k : Int) := by omega
  have wi : IntKind.i64.wrap (i : Int) = (i : Int) := IntWalk.i64_in _ (by omega)
  have wj : IntKind.i64.wrap (j : Int) = (j : Int) := IntWalk.i64_in _ (by omega)
  have wk : IntKind.i64.wrap (k : Int) = (k : Int) := IntWalk.i64_in _ (by omega)
  have wl : IntKind.i64.wrap (l : Int) = (l : Int) := IntWalk.i64_in _ (by omega)
  have wq : IntKind.i64.wrap (q : Int) = (q : Int) := IntWalk.i64_in _ (by omega)
  have wq2 : (q : Int) * 2 ≤ 2 ^ 61 := by omega
  have wq3 : (q : Int) * 3 ≤ 2 ^ 62 := by omega
  have hl8 : (8 : Int) ≤ (l : Int) := by omega
  have adj := fun (m s : Nat) x (hx : Srt w0 B S d x) (h1 : 1 ≤ m) (h2 : m + 1 < d.size) (h3 : s < 900) (hcx : x.heap[C]? = some (.cells #[I s] 3 (0, 0))) => medianAdjacent_calls B S cap m s C d w0 x hx h1 h2 hsz h3 hcx hCB hC0
  have med := fun (x1 x2 x3 s : Nat) x (hx : Srt w0 B S d x) (h1 : x1 < d.size) (h2 : x2 < d.size) (h3 : x3 < d.size) (h4 : s < 900) (hcx : x.heap[C]? = some (.cells #[I s] 3 (0, 0))) => median_calls B S cap x1 x2 x3 s C d w0 x hx h1 h2 h3 h4 hcx hCB hC0
  rw [hN] at adj med hb ⊢
  by_cases h50 : 50 ≤ l
  · have hg50 : (50 : Int) ≤ (l : Int) := by omega
    have hdef : Sort.choosePivot ltN d a b = ((Sort.median ltN d (Sort.medianAdjacent ltN d i 0).1 (Sort.medianAdjacent ltN d j (Sort.medianAdjacent ltN d i 0).2).1 (Sort.medianAdjacent ltN d k (Sort.medianAdjacent ltN d j (Sort.medianAdjacent ltN d i 0).2).2).1 (Sort.medianAdjacent ltN d k (Sort.medianAdjacent ltN d j (Sort.medianAdjacent ltN d i 0).2).2).2).1,
        if (Sort.median ltN d (Sort.medianAdjacent ltN d i 0).1 (Sort.medianAdjacent ltN d j (Sort.medianAdjacent ltN d i 0).2).1 (Sort.medianAdjacent ltN d k (Sort.medianAdjacent ltN d j (Sort.medianAdjacent ltN d i 0).2).2).1 (Sort.medianAdjacent ltN d k (Sort.medianAdjacent ltN d j (Sort.medianAdjacent ltN d i 0).2).2).2).2 = 0 then .increasing else if (Sort.median ltN d (Sort.medianAdjacent ltN d i 0).1 (Sort.medianAdjacent ltN d j (Sort.medianAdjacent ltN d i 0).2).1 (Sort.medianAdjacent ltN d k (Sort.medianAdjacent ltN d j (Sort.medianAdjacent ltN d i 0).2).2).1 (Sort.medianAdjacent ltN d k (Sort.medianAdjacent ltN d j (Sort.medianAdjacent ltN d i 0).2).2).2).2 = 12 then .decreasing else .unknown) := by
      rw [Sort.choosePivot, hl, hq, hi, hj, hk, if_pos (by omega), if_pos h50]
    rw [hdef]
    have a1 := adj i 0 _ hA (by omega) (by omega) (by omega) hCC
    have l1 : (Sort.medianAdjacent ltN d i 0).1 < N ∧ (Sort.medianAdjacent ltN d i 0).2 ≤ 0 + 3 := median_lt (by omega) (by omega) (by omega)
    generalize Sort.medianAdjacent ltN d i 0 = r1 at *
    have a2 := fun x (hx : Srt w0 B S d x) hcx => adj j r1.2 x hx (by omega) (by omega) (by omega) hcx
    have l2 : (Sort.medianAdjacent ltN d j r1.2).1 < N ∧ (Sort.medianAdjacent ltN d j r1.2).2 ≤ r1.2 + 3 := median_lt (by omega) (by omega) (by omega)
    generalize Sort.medianAdjacent ltN d j r1.2 = r2 at *
    have a3 := fun x (hx : Srt w0 B S d x) hcx => adj k r2.2 x hx (by omega) (by omega) (by omega) hcx
    have l3 : (Sort.medianAdjacent ltN d k r2.2).1 < N ∧ (Sort.medianAdjacent ltN d k r2.2).2 ≤ r2.2 + 3 := median_lt (by omega) (by omega) (by omega)
    generalize Sort.medianAdjacent ltN d k r2.2 = r3 at *
    have a4 := fun x (hx : Srt w0 B S d x) hcx => med r1.1 r2.1 r3.1 r3.2 x hx l1.1 l2.1 l3.1 (by omega) hcx
    generalize Sort.median ltN d r1.1 r2.1 r3.1 r3.2 = r4 at *
    obtain ⟨m, sw⟩ := r4
    dsimp only at a4 ⊢
    clear adj med hdef l1 l2 l3 hi hj hk hq hl hab h50 hN hCC
    by_cases h0' : sw = 0
    · have t0 : ((sw : Int) == 0) = true := by simp [h0']
      rw [if_pos h0']
      clear h0'
      go_enter Try.func109, Try.ntmps109
      go_wp2_with (first
        | (go_at_call 119; refine (a1).mono ?_; clear a1; rintro e w1 ⟨rfl, hs1, hc1⟩)
        | (go_at_call 119; refine (a2 _ hs1 hc1).mono ?_; clear a2; rintro e w2 ⟨rfl, hs2, hc2⟩)
        | (go_at_call 119; refine (a3 _ hs2 hc2).mono ?_; clear a3; rintro e w3 ⟨rfl, hs3, hc3⟩)
        | (go_at_call 120; refine (a4 _ hs3 hc3).mono ?_; clear a4; rintro e w4 ⟨rfl, hs4, hc4⟩; have cc4 := cell_one hc4))
      go_ret2
      exact ⟨rfl, hs4⟩
    by_cases h12 : sw = 12
    · have t0 : ((sw : Int) == 0) = false := beq_false (by omega)
      have t12 : ((sw : Int) == 12) = true := by simp [h12]
      rw [if_neg h0', if_pos h12]
      clear h0' h12
      go_enter Try.func109, Try.ntmps109
      go_wp2_with (first
        | (go_at_call 119; refine (a1).mono ?_; clear a1; rintro e w1 ⟨rfl, hs1, hc1⟩)
        | (go_at_call 119; refine (a2 _ hs1 hc1).mono ?_; clear a2; rintro e w2 ⟨rfl, hs2, hc2⟩)
        | (go_at_call 119; refine (a3 _ hs2 hc2).mono ?_; clear a3; rintro e w3 ⟨rfl, hs3, hc3⟩)
        | (go_at_call 120; refine (a4 _ hs3 hc3).mono ?_; clear a4; rintro e w4 ⟨rfl, hs4, hc4⟩; have cc4 := cell_one hc4))
      go_ret2
      exact ⟨rfl, hs4⟩
    · have t0 : ((sw : Int) == 0) = false := beq_false (by omega)
      have t12 : ((sw : Int) == 12) = false := beq_false (by omega)
      rw [if_neg h0', if_neg h12]
      clear h0' h12
      go_enter Try.func109, Try.ntmps109
      go_wp2_with (first
        | (go_at_call 119; refine (a1).mono ?_; clear a1; rintro e w1 ⟨rfl, hs1, hc1⟩)
        | (go_at_call 119; refine (a2 _ hs1 hc1).mono ?_; clear a2; rintro e w2 ⟨rfl, hs2, hc2⟩)
        | (go_at_call 119; refine (a3 _ hs2 hc2).mono ?_; clear a3; rintro e w3 ⟨rfl, hs3, hc3⟩)
        | (go_at_call 120; refine (a4 _ hs3 hc3).mono ?_; clear a4; rintro e w4 ⟨rfl, hs4, hc4⟩; have cc4 := cell_one hc4))
      go_ret2
      exact ⟨rfl, hs4⟩
  · have hg50 : ¬ (50 : Int) ≤ (l : Int) := by omega
    have hdef : Sort.choosePivot ltN d a b = ((Sort.median ltN d i j k 0).1, if (Sort.median ltN d i j k 0).2 = 0 then .increasing else if (Sort.median ltN d i j k 0).2 = 12 then .decreasing else .unknown) := by
      rw [Sort.choosePivot, hl, hq, hi, hj, hk, if_pos (by omega), if_neg h50]
    rw [hdef]
    have a4 := med i j k 0 _ hA (by omega) (by omega) (by omega) (by omega) hCC
    generalize Sort.median ltN d i j k 0 = r4 at *
    obtain ⟨m, sw⟩ := r4
    dsimp only at a4 ⊢
    clear adj med hdef hi hj hk hq hl hab h50 hN hCC
    by_cases h0' : sw = 0
    · have t0 : ((sw : Int) == 0) = true := by simp [h0']
      rw [if_pos h0']
      clear h0'
      go_enter Try.func109, Try.ntmps109
      go_wp2_with (first
        | (go_at_call 120; refine a4.mono ?_; clear a4; rintro e w4 ⟨rfl, hs4, hc4⟩; have cc4 := cell_one hc4))
      go_ret2
      exact ⟨rfl, hs4⟩
    by_cases h12 : sw = 12
    · have t0 : ((sw : Int) == 0) = false := beq_false (by omega)
      have t12 : ((sw : Int) == 12) = true := by simp [h12]
      rw [if_neg h0', if_pos h12]
      clear h0' h12
      go_enter Try.func109, Try.ntmps109
      go_wp2_with (first
        | (go_at_call 120; refine a4.mono ?_; clear a4; rintro e w4 ⟨rfl, hs4, hc4⟩; have cc4 := cell_one hc4))
      go_ret2
      exact ⟨rfl, hs4⟩
    · have t0 : ((sw : Int) == 0) = false := beq_false (by omega)
      have t12 : ((sw : Int) == 12) = false := beq_false (by omega)
      rw [if_neg h0', if_neg h12]
      clear h0' h12
      go_enter Try.func109, Try.ntmps109
      go_wp2_with (first
        | (go_at_call 120; refine a4.mono ?_; clear a4; rintro e w4 ⟨rfl, hs4, hc4⟩; have cc4 := cell_one hc4))
      go_ret2
      exact ⟨rfl, hs4⟩
end Go.Proofs.Ytjgfcnhnlaobcaa
namespace Go.Proofs.Ytjgfcnhnlaobcaa
open Go.RowKit

theorem xor_shl13 {X : Nat} (h : X < 2 ^ 64) : bits .xor .u64 (X : Int) (IntKind.u64.wrap ((X : Int) * 8192)) = ((X ^^^ (X * 8192 % 18446744073709551616) : Nat) : Int) := by
  rw [IntKind.wrap_u64, show ((X : Int) * 8192 % 18446744073709551616) = ((X * 8192 % 18446744073709551616 : Nat) : Int) by omega]
  exact xor_u64 h (by omega)
theorem xor_shr7 {X : Nat} (h : X < 2 ^ 64) : bits .xor .u64 (X : Int) ((X : Int) / 128) = ((X ^^^ (X / 128) : Nat) : Int) := by
  rw [show ((X : Int) / 128) = ((X / 128 : Nat) : Int) by omega]
  exact xor_u64 h (by omega)
theorem xor_shl17 {X : Nat} (h : X < 2 ^ 64) : bits .xor .u64 (X : Int) (IntKind.u64.wrap ((X : Int) * 131072)) = ((X ^^^ (X * 131072 % 18446744073709551616) : Nat) : Int) := by
  rw [IntKind.wrap_u64, show ((X : Int) * 131072 % 18446744073709551616) = ((X * 131072 % 18446744073709551616 : Nat) : Int) by omega]
  exact xor_u64 h (by omega)

theorem set_set (w : World) (C : Nat) (v v' : Value) : (w.setCell ⟨C, 0, none⟩ v).setCell ⟨C, 0, none⟩ v' = w.setCell ⟨C, 0, none⟩ v' := by
  unfold World.setCell
  congr 1
  apply Array.ext
  · simp
  · intro i h1 h2
    simp only [Array.getElem_modify]
    by_cases hi : C = i
    · simp only [if_pos hi]
      cases w.heap[i]'(by simpa using h2) <;> simp
    · simp only [if_neg hi]

set_option maxRecDepth 100000 in
set_option maxHeartbeats 1600000 in
theorem next_calls (C X : Nat) (hX : X < 2 ^ 64) (w : World) (hc : w.heap[C]? = some (.cells #[U X] 120 (0, 0))) :
    Calls Try.prog 118 #[.pointer (some ⟨C, 0, none⟩)] w fun e w' => e = .returned (U (Sort.xorNextN X)) ∧ ∃ n, w' = (w.setCell ⟨C, 0, none⟩ (U (Sort.xorNextN X))).drewN n := by
  have e1 := xor_shl13 hX
  obtain ⟨A, hA⟩ : ∃ A, X ^^^ (X * 8192 % 18446744073709551616) = A := ⟨_, rfl⟩
  have lA : A < 2 ^ 64 := by rw [← hA]; exact Nat.xor_lt_two_pow (n := 64) hX (by omega)
  have e2 := xor_shr7 lA
  obtain ⟨D, hD⟩ : ∃ D, A ^^^ (A / 128) = D := ⟨_, rfl⟩
  have lD : D < 2 ^ 64 := by rw [← hD]; exact Nat.xor_lt_two_pow (n := 64) lA (by omega)
  have e3 := xor_shl17 lD
  obtain ⟨E, hE⟩ : ∃ E, D ^^^ (D * 131072 % 18446744073709551616) = E := ⟨_, rfl⟩
  have hv : Sort.xorNextN X = E := by unfold Sort.xorNextN; simp only []; rw [hA, hD, hE]
  rw [hv]
  rw [hA] at e1
  rw [hD] at e2
  rw [hE] at e3
  have c0 := cell_one hc
  have f0 := free_one hc
  have hss := set_set w C
  clear hA hD hE hv hX lA lD hc
  go_enter Try.func118, Try.ntmps118
  go_wp2
  go_region
  all_goals go_wp2
  all_goals go_region
  all_goals go_wp2
  all_goals go_region
  all_goals go_wp2
  go_ret
  exact ⟨rfl, 3, rfl⟩

theorem nextPower_calls (n : Nat) (hn : n < 2 ^ 60) (w : World) : Calls Try.prog 117 #[I n] w fun e w' => e = .returned (U (1 <<< Sort.bitsLen n)) ∧ w = w' := by
  have hb := fun x => Try.bits_Len (n : Int) x (by omega) (by omega)
  have hl : Lib.bitLen n = Sort.bitsLen n := bitLen_eq n (by omega)
  have h60 : Sort.bitsLen n ≤ 60 := Gf2.len_le_iff.2 hn
  have hp : IntKind.u64.wrap ((2 : Int) ^ Sort.bitsLen n) = ((1 <<< Sort.bitsLen n : Nat) : Int) := by
    have h1 : (2 : Nat) ^ Sort.bitsLen n ≤ 2 ^ 60 := Nat.pow_le_pow_right (by decide) h60
    rw [Nat.one_shiftLeft, show (2 : Int) ^ Sort.bitsLen n = ((2 ^ Sort.bitsLen n : Nat) : Int) by simp]
    obtain ⟨Z, hZ⟩ : ∃ Z : Nat, 2 ^ Sort.bitsLen n = Z := ⟨_, rfl⟩
    rw [hZ] at h1 ⊢
    exact wraps_u64 _ (by omega) (by omega)
  simp only [Int.toNat_natCast, hl] at hb
  have h60i : (Sort.bitsLen n : Int) ≤ 60 := by omega
  generalize Sort.bitsLen n = k at *
  clear hl
  go_enter Try.func117, Try.ntmps117
  go_wp2_with (first | (go_at_call 98; refine (hb _).mono ?_; rintro e w' ⟨rfl, rfl⟩))
  go_ret
  exact ⟨rfl, rfl⟩

/-- The state behind t rounds. -/
def bpSt (a l m : Nat) (d : Array Nat) (idx : Nat) : Nat → UInt64 × Array Nat
  | 0 => (UInt64.ofNat l, d)
  | t + 1 => Sort.breakStep a l m (bpSt a l m d idx t) (idx + t)
theorem bp_three {d : Array Nat} {a b l m idx : Nat} (hl : b - a = l) (h8 : 8 ≤ l) (hm : 1 <<< Sort.bitsLen l = m) (hi : a + (l / 4) * 2 - 1 = idx) : Sort.breakPatterns d a b = (bpSt a l m d idx 3).2 := by
  rw [Sort.breakPatterns, hl]
  simp only [if_pos h8, hm, hi]
  rfl
theorem bp_size (a l m : Nat) (d : Array Nat) (idx : Nat) : ∀ t, (bpSt a l m d idx t).2.size = d.size
  | 0 => rfl
  | t + 1 => by
    rw [bpSt, Sort.breakStep]
    simp only [Sort.size_swp]
    exact bp_size a l m d idx t

set_option maxRecDepth 100000 in
set_option maxHeartbeats 3200000 in
theorem breakPatterns_calls (B S cap a b : Nat) (d : Array Nat) (w0 w : World) (h0 : Srt w0 B S d w) (hab : a + 8 ≤ b) (hb : b ≤ d.size) (hsz : d.size < 2 ^ 60) :
    Calls Try.prog 108 #[.slice (some ⟨B, 0, none⟩) d.size cap, I a, I b] w fun e w' => e = .returned (.tuple #[]) ∧ Srt w0 B S (Sort.breakPatterns d a b) w' := by
  obtain ⟨l, hl⟩ : ∃ l, b - a = l := ⟨_, rfl⟩
  obtain ⟨m, hm⟩ : ∃ m, 1 <<< Sort.bitsLen l = m := ⟨_, rfl⟩
  obtain ⟨idx, hi⟩ : ∃ idx, a + (l / 4) * 2 - 1 = idx := ⟨_, rfl⟩
  obtain ⟨q, hq⟩ : ∃ q, l / 4 = q := ⟨_, rfl⟩
  obtain ⟨N, hN⟩ : ∃ N, d.size = N := ⟨_, rfl⟩
  obtain ⟨C, hCe⟩ : ∃ C, w.heap.size = C := ⟨_, rfl⟩
  rw [bp_three hl (by omega) hm hi]
  have hnp := nextPower_calls l (by omega)
  have hm1 : m = 2 ^ Sort.bitsLen l := by rw [← hm, Nat.one_shiftLeft]
  have hm2 : l < m ∧ m ≤ 2 * l := by
    have h1 : l < 2 ^ Gf2.len l := Gf2.lt_two_pow_len l
    have h2 : 2 ^ (Gf2.len l - 1) ≤ l := Gf2.two_pow_len_le (by omega)
    have h3 : 0 < Gf2.len l := Gf2.len_pos (by omega)
    have h4 : 2 ^ Gf2.len l = 2 * 2 ^ (Gf2.len l - 1) := by rw [← Nat.pow_succ']; congr 1; omega
    have h5 : Sort.bitsLen l = Gf2.len l := rfl
    rw [hm1, h5]
    omega
  rw [hm] at hnp
  have hA : Srt w0 B S d (w.alloc (.cells #[U l] 120)) := h0.kept (World.grownBy_alloc w _ none) (fun k hk => by cases hk)
  have hCC : (w.alloc (.cells #[U l] 120)).heap[C]? = some (.cells #[U l] 120 (0, 0)) := by rw [← hCe]; exact alloc_new w _
  have hCB : C ≠ B := fun e => by have := h0.lt; omega
  have hC0 : w0.heap.size ≤ C := by have := h0.old.size; omega
  have el : (b : Int) - (a : Int) = (l : Int) := by omega
  have eq : (l : Int) / 4 = (q : Int) := by omega
  have hl8 : (8 : Int) ≤ (l : Int) := by omega
  have wl : IntKind.i64.wrap (l : Int) = (l : Int) := IntWalk.i64_in _ (by omega)
  have wlu : IntKind.u64.wrap (l : Int) = (l : Int) := wraps_u64 _ (by omega) (by omega)
  have wq : IntKind.i64.wrap (q : Int) = (q : Int) := IntWalk.i64_in _ (by omega)
  have wq2 : (a : Int) + (q : Int) * 2 ≤ 2 ^ 62 := by omega
  have ei : (a : Int) + (q : Int) * 2 - 1 = (idx : Int) := by omega
  have ei2 : (a : Int) + (q : Int) * 2 + 1 = (idx : Int) + 2 := by omega
  have h2m : 1 ≤ m ∧ m < 2 ^ 62 := by omega
  obtain ⟨m1, hm1'⟩ : ∃ m1, m - 1 = m1 := ⟨_, rfl⟩
  have em : (m : Int) - 1 = (m1 : Int) := by omega
  have hm1b : m1 < 2 ^ 62 := by omega
  have wm1 : IntKind.u64.wrap (m1 : Int) = (m1 : Int) := wraps_u64 _ (by omega) (by omega)
  have hoff : ∀ o, o ≤ m1 → l ≤ o → o - l < l := fun o h1 h2 => by omega
  have hidx : idx + 2 < N ∧ idx + 2 < 2 ^ 60 := by omega
  have hal : a + l ≤ N := by omega
  rw [hN]
  clear hm1 hm2 hm hi hq
  have hl64 : (UInt64.ofNat l).toNat = l := UInt64.toNat_ofNat_of_lt' (by have : UInt64.size = 18446744073709551616 := rfl; omega)
  have hsN := fun t => (bp_size a l m d idx t).trans hN
  go_enter Try.func108, Try.ntmps108
  go_wp2_with (first | (go_at_call 117; refine (hnp _).mono ?_; rintro e w' ⟨rfl, rfl⟩))
  go_loopw [9] (fun vi wr => ∃ t : Nat, vi = I ((idx + t : Nat) : Int) ∧ t ≤ 3 ∧ Srt w0 B S (bpSt a l m d idx t).2 wr ∧ wr.heap[C]? = some (.cells #[U (bpSt a l m d idx t).1.toNat] 120 (0, 0))) (fun vi _ => idx + 4 - (intOf vi).toNat)
  case atStart => exact ⟨0, rfl, by omega, hA, by rw [show (bpSt a l m d idx 0).1.toNat = l from hl64]; exact hCC⟩
  case round =>
    clear hA hCC h0 hnp hCe hl64
    obtain ⟨t, rfl, ht, hS, hCt⟩ := hrel
    by_cases ht3 : t = 3
    · subst ht3
      have hlt : ¬ ((idx + 3 : Nat) : Int) ≤ (idx : Int) + 2 := by omega
      go_wp2
      go_end0
      exact ⟨rfl, hS⟩
    · have hlt : ((idx + t : Nat) : Int) ≤ (idx : Int) + 2 := by omega
      have hst : bpSt a l m d idx (t + 1) = Sort.breakStep a l m (bpSt a l m d idx t) (idx + t) := rfl
      have hsz2 := hsN t
      generalize bpSt a l m d idx t = st at *
      obtain ⟨r, dk⟩ := st
      dsimp only at hS hCt hsz2
      have hX : r.toNat < 2 ^ 64 := r.toNat_lt
      have hnx := next_calls C r.toNat hX wr hCt
      have hX' : Sort.xorNextN r.toNat < 2 ^ 64 := Sort.xorNextN_lt _ (by omega)
      rw [Sort.breakStep] at hst
      simp only [Sort.xorNext_toNat, hm1'] at hst
      have hR1 : (Sort.xorNext r).toNat = Sort.xorNextN r.toNat := Sort.xorNext_toNat r
      have hand := and_u64 (b := m1) hX' (by omega)
      generalize Sort.xorNextN r.toNat = X at *
      obtain ⟨o, ho⟩ : ∃ o, X &&& m1 = o := ⟨_, rfl⟩
      have hom : o ≤ m1 := by rw [← ho]; exact Nat.and_le_right
      rw [ho] at hst hand
      have wo : IntKind.i64.wrap (o : Int) = (o : Int) := IntWalk.i64_in _ (by omega)
      obtain ⟨x, hx⟩ : ∃ x, idx + t = x := ⟨_, rfl⟩
      rw [hx] at hst hlt ⊢
      have ix : (x : Int) < (N : Int) := by omega
      obtain ⟨o2, ho2⟩ : ∃ o2, (if o ≥ l then o - l else o) = o2 := ⟨_, rfl⟩
      rw [ho2] at hst
      obtain ⟨y, hy⟩ : ∃ y, a + o2 = y := ⟨_, rfl⟩
      rw [hy] at hst
      have ho2l : o2 < l := by
        rw [← ho2]
        by_cases h : o ≥ l
        · rw [if_pos h]; exact hoff o hom h
        · rw [if_neg h]; omega
      have ey : (a : Int) + (o2 : Int) = (y : Int) := by omega
      have wy : IntKind.i64.wrap (y : Int) = (y : Int) := IntWalk.i64_in _ (by omega)
      have iy : (y : Int) < (N : Int) := by omega
      have HST := Lib.hid hst
      have NEXT := Lib.hid (show ((x : Int) + 1 = ((idx + (t + 1) : Nat) : Int)) ∧ t + 1 ≤ 3 by omega)
      have ht' : x < 2 ^ 60 ∧ x < idx + 3 := by omega
      have fin : ∀ x2 : World, Srt w0 B S dk x2 → x2.cell? ⟨B, x, none⟩ = some (U dk[x]!) ∧ x2.cell? ⟨B, y, none⟩ = some (U dk[y]!) ∧ x2.frozen? ⟨B, x, none⟩ = false ∧ x2.frozen? ⟨B, y, none⟩ = false := fun x2 h2 =>
        ⟨h2.cell x (by omega), h2.cell y (by omega), h2.free x, h2.free y⟩
      have FIN := fun (x2 : World) (h2 : Srt w0 B S dk x2) => Lib.hid (h2.swap x y (by omega) (by omega))
      have hCy : B ≠ C := fun e => hCB e.symm
      generalize dk[x]! = u at *
      generalize dk[y]! = v at *
      clear hst ho hx hy ht ht3 hsN hX hm1' hX' hal
      by_cases hge : l ≤ o
      · have hg : (l : Int) ≤ (o : Int) := by omega
        have eo : (o : Int) - (l : Int) = (o2 : Int) := by rw [if_pos hge] at ho2; omega
        clear ho2 hge
        go_wp2_with (first | (go_at_call 118; refine (hnx).mono ?_; rintro e w2 ⟨rfl, n2, hw2⟩; have hS2 : Srt w0 B S dk w2 := (by rw [hw2]; exact (hS.other hCB hC0 0 _).drewN _); have hC2 : w2.heap[C]? = some (.cells #[U X] 120 (0, 0)) := (by rw [hw2]; exact one_setCell hCt); clear hw2; obtain ⟨g1, g2, g3, g4⟩ := fin _ hS2; obtain ⟨v', hv'⟩ := cell?_setCell_some (w := w2) (p := ⟨B, x, none⟩) (x := U v) (q := ⟨B, y, none⟩) (v := U v) g2))
        go_region
        all_goals go_wp2
        go_roundw
        case rel =>
          refine ⟨t + 1, i_eq NEXT.out.1, NEXT.out.2, ?_, ?_⟩
          · rw [HST.out]; exact (FIN _ hS2).out.drew
          · rw [HST.out]
            show _ = some (Obj.cells #[U (Sort.xorNext r).toNat] 120 (0, 0))
            rw [hR1]
            show ((w2.setCell ⟨B, x, none⟩ _).setCell ⟨B, y, none⟩ _).heap[C]? = _
            rw [Below.heap_setCell _ _ _ _ hCB, Below.heap_setCell _ _ _ _ hCB]
            exact hC2
        case measure => simp [intOf]; omega
      · have hg : ¬ (l : Int) ≤ (o : Int) := by omega
        have eo : o = o2 := by rw [if_neg hge] at ho2; exact ho2
        subst eo
        clear ho2 hge
        go_wp2_with (first | (go_at_call 118; refine (hnx).mono ?_; rintro e w2 ⟨rfl, n2, hw2⟩; have hS2 : Srt w0 B S dk w2 := (by rw [hw2]; exact (hS.other hCB hC0 0 _).drewN _); have hC2 : w2.heap[C]? = some (.cells #[U X] 120 (0, 0)) := (by rw [hw2]; exact one_setCell hCt); clear hw2; obtain ⟨g1, g2, g3, g4⟩ := fin _ hS2; obtain ⟨v', hv'⟩ := cell?_setCell_some (w := w2) (p := ⟨B, x, none⟩) (x := U v) (q := ⟨B, y, none⟩) (v := U v) g2))
        go_region
        all_goals go_wp2
        go_roundw
        case rel =>
          refine ⟨t + 1, i_eq NEXT.out.1, NEXT.out.2, ?_, ?_⟩
          · rw [HST.out]; exact (FIN _ hS2).out.drew
          · rw [HST.out]
            show _ = some (Obj.cells #[U (Sort.xorNext r).toNat] 120 (0, 0))
            rw [hR1]
            show ((w2.setCell ⟨B, x, none⟩ _).setCell ⟨B, y, none⟩ _).heap[C]? = _
            rw [Below.heap_setCell _ _ _ _ hCB, Below.heap_setCell _ _ _ _ hCB]
            exact hC2
        case measure => simp [intOf]; omega
end Go.Proofs.Ytjgfcnhnlaobcaa
