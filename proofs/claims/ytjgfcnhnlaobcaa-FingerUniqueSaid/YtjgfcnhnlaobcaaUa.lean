/- Walks for the law on unique factors: a product; an index; a deletion. -/
import Derived.Test.YtjgfcnhnlaobcaaFr
import Derived.Shelf.SlicesE.Delete
namespace Go.Proofs.Ytjgfcnhnlaobcaa
open Go.RowKit
open Gf2 (len Irr prodL)

theorem mul_mod_succ (a b i : Nat) : Gf2.mul a (b % 2 ^ (i + 1)) = if b / 2 ^ i % 2 = 1 then Gf2.mul a (b % 2 ^ i) ^^^ (2 ^ i * a) else Gf2.mul a (b % 2 ^ i) := by
  rw [Nat.mod_pow_succ, Nat.add_comm]
  split
  · next h => rw [h, Gf2.add_eq_xor (Nat.mod_lt _ (Nat.two_pow_pos _)), Nat.mul_one, Gf2.mul_xor, Gf2.mul_two_pow, Nat.xor_comm]
  · next h => rw [show b / 2 ^ i % 2 = 0 by omega, Nat.mul_zero, Nat.zero_add]

set_option maxRecDepth 100000 in
set_option maxHeartbeats 1600000 in
theorem product_calls (a b : Nat) (ha0 : a ≠ 0) (hb0 : b ≠ 0) (ha : a < 2 ^ 64) (hb : b < 2 ^ 64) (hl : len a + len b ≤ 65) (w : World) :
    Calls Try.prog 53 #[U a, U b] w fun e w' => e = .returned (.tuple #[U (Gf2.mul a b), .bool true]) ∧ w' = w := by
  have hd : ∀ a, a < 2 ^ 64 → ∀ x, Calls Try.prog 18 #[U a] x fun e w' => e = .returned (I ((len a : Int) - 1)) ∧ w' = x := fun a ha x => (rdegree_calls a ha x).mono fun _ _ h => ⟨h.1, h.2.symm⟩
  have ta : ((a : Int) != 0) = true := by simp; omega
  have tb : ((b : Int) != 0) = true := by simp; omega
  have hla := len_le_64 ha
  have hlb := len_le_64 hb
  have hg : ¬ (63 : Int) < ((len a : Int) - 1) + ((len b : Int) - 1) := by omega
  have hmod : ∀ i, Gf2.mul a (b % 2 ^ i) < 2 ^ 64 := fun i => by
    by_cases h0 : b % 2 ^ i = 0
    · rw [h0, Gf2.mul_zero]; decide
    · refine lt_of_len ?_
      rw [Gf2.len_mul ha0 h0]
      have : len (b % 2 ^ i) ≤ len b := Gf2.len_le_iff.2 (Nat.lt_of_le_of_lt (Nat.mod_le _ _) (Gf2.lt_two_pow_len b))
      omega
  have HM := Lib.hid hmod
  clear hmod
  clear hla hlb
  go_enter Try.func53, Try.ntmps53
  go_wp2_with (go_at_call 18; refine (hd _ (by assumption) _).mono ?_; rintro e w1 ⟨rfl, rfl⟩)
  go_loop [6, 22] (fun vo vi => ∃ i o : Nat, vi = I i ∧ vo = U o ∧ o = Gf2.mul a (b % 2 ^ i) ∧ i ≤ 64) (fun _ vi => (64 - intOf vi).toNat)
  case atStart => exact ⟨0, 0, rfl, rfl, by rw [Nat.pow_zero, Nat.mod_one, Gf2.mul_zero], by omega⟩
  case round =>
    obtain ⟨i, o, rfl, rfl, ho, hi⟩ := hrel
    have HO := Lib.hid ho
    clear ho
    by_cases hlt : i < 64
    · have hli : (i : Int) < 64 := by omega
      have hb1 := bit_fact (n := i) hb
      have hms := mul_mod_succ a b i
      by_cases hbit : b / 2 ^ i % 2 = 1
      · rw [if_pos hbit] at hms
        have HS := Lib.hid hms
        have hsh : 2 ^ i * a < 2 ^ 64 := by
          have h1 : i < len b := Gf2.lt_len_iff.2 (by
            refine Classical.byContradiction fun h => ?_
            rw [Nat.div_eq_of_lt (by omega)] at hbit
            omega)
          refine lt_of_len ?_
          rw [Gf2.len_two_pow_mul ha0]
          omega
        have hx : bits .xor .u64 (o : Int) ((2 ^ i * a : Nat) : Int) = ((o ^^^ (2 ^ i * a) : Nat) : Int) := xor_u64 (by rw [HO.out]; exact HM.out i) hsh
        have HX := Lib.hid (show bits .xor .u64 (o : Int) (IntKind.u64.wrap ((a : Int) * 2 ^ i)) = ((o ^^^ (2 ^ i * a) : Nat) : Int) by rw [shl_u64 hsh, hx])
        rw [decide_eq_true hbit] at hb1
        clear hbit hms hx hsh
        go_wp2
        exact ⟨⟨i + 1, o ^^^ (2 ^ i * a), by go_num, u_eq HX.out, by rw [HO.out]; exact HS.out.symm, by omega⟩, by simp [intOf]; omega⟩
      · rw [if_neg hbit] at hms
        have HS := Lib.hid hms
        rw [decide_eq_false hbit] at hb1
        clear hbit hms
        go_wp2
        exact ⟨⟨i + 1, o, by go_num, rfl, HO.out.trans HS.out.symm, by omega⟩, by simp [intOf]; omega⟩
    · obtain rfl : i = 64 := by omega
      have HE := Lib.hid (show o = Gf2.mul a b by rw [HO.out, Nat.mod_eq_of_lt hb])
      go_wp2
      go_ret2
      exact ⟨by rw [← HE.out]; rfl, rfl⟩

/-- Where a number lies, or that it lies nowhere. -/
theorem ownIndex_calls (v : Value) (l : List Nat) (base x : Nat) (w : World) (h : OwnU w base v l) (hn : l.length < 2 ^ 60) :
    Calls Try.prog 54 #[v, U x] w fun e w' => w' = w ∧ ((x ∉ l ∧ e = .returned (I (-1))) ∨ ∃ i : Nat, l[i]? = some x ∧ e = .returned (I i)) := by
  obtain ⟨a, cap, rfl, ha⟩ := h.shape
  obtain ⟨N, hN⟩ : ∃ N, l.length = N := ⟨_, rfl⟩
  rw [hN] at h hn ⊢
  go_enter Try.func54, Try.ntmps54
  go_wp2
  go_loop [5, 8] (fun _ vi => ∃ k : Nat, k ≤ N ∧ vi = I k ∧ ∀ j, j < k → l[j]? ≠ some x) (fun _ vi => (N - intOf vi).toNat)
  case atStart => exact ⟨0, Nat.zero_le _, rfl, fun j hj => absurd hj (Nat.not_lt_zero _)⟩
  case round =>
    obtain ⟨k, hk, rfl, hne⟩ := hrel
    have HN := Lib.hid hne
    clear hne
    by_cases hlt : k < N
    · have hli : (k : Int) < (N : Int) := by omega
      obtain ⟨y, hy⟩ : ∃ y, l[k]? = some y := ⟨l[k]'(by omega), List.getElem?_eq_getElem _⟩
      have hne : l ≠ [] := fun e => by rw [e] at hy; simp at hy
      obtain ⟨g, rfl⟩ := ha hne
      have hc : w.cell? ⟨g, k, none⟩ = some (U y) := by
        have h1 := World.ownsRow.cells h (g := g) rfl k (U y) (by simp [U64, hy])
        rwa [Addr.add_lit, Nat.zero_add] at h1
      by_cases hxy : x = y
      · subst hxy
        have HY := Lib.hid hy
        clear hy
        go_wp2
        go_ret
        exact ⟨rfl, .inr ⟨k, HY.out, rfl⟩⟩
      · have hxb : ((x : Int) == (y : Int)) = false := beq_false (by omega)
        have HY := Lib.hid hy
        clear hy
        go_wp2
        exact ⟨⟨k + 1, by omega, by go_num, fun j hj => by
          rcases Nat.lt_succ_iff_lt_or_eq.1 hj with h1 | h1
          · exact HN.out j h1
          · subst h1; rw [HY.out]; intro e; cases e; exact hxy rfl⟩, by simp [intOf]; omega⟩
    · have hli : ¬ (k : Int) < (N : Int) := by omega
      have HX := Lib.hid (show x ∉ l from fun hx => by
        obtain ⟨j, hj⟩ := List.getElem?_of_mem hx
        refine HN.out j ?_ hj
        have := (List.getElem?_eq_some_iff.1 hj).1
        omega)
      go_wp2
      go_ret
      exact ⟨rfl, .inl ⟨HX.out, rfl⟩⟩

theorem deleteLays : Go.Proofs.SlLaysE.n45 Try.prog ⟨fun | 45 => 55 | n => n, fun | 22 => 54 | 23 => 22 | 0 => 0 | 3 => 3 | 4 => 4 | n => n, fun | n => n⟩ := {
  mixed := by kernel_rfl
  f45 := ⟨Try.f55.name, by kernel_rfl, Try.func55.trans (congrArg some (by kernel_rfl))⟩
  t0 := Try.underlying0
  a0 := Try.isAgg0
  z0 := Try.sizeOf0
  v0 := Try.zeroValue0
  t3 := Try.underlying3
  a3 := Try.isAgg3
  z3 := Try.sizeOf3
  v3 := Try.zeroValue3
  t4 := Try.underlying4
  a4 := Try.isAgg4
  z4 := Try.sizeOf4
  v4 := Try.zeroValue4
  t22 := Try.underlying54
  a22 := Try.isAgg54
  z22 := Try.sizeOf54
  v22 := Try.zeroValue54
  a23 := Try.isAgg22
  z23 := Try.sizeOf22 }

/-- One element taken out, in place. -/
theorem ownDelete_calls (v : Value) (l : List Nat) (base i : Nat) (w : World) (h : OwnU w base v l) (hi : i < l.length) :
    Calls Try.prog 55 #[v, I i, I ((i + 1 : Nat) : Int)] w fun e w' => ∃ v', e = .returned v' ∧ OwnU w' base v' (l.take i ++ l.drop (i + 1)) ∧ w.grownBy w' v.ownBlock ∧ v'.ownBlock = v.ownBlock := by
  obtain ⟨i0, hi0, _, hz1, _⟩ := info_parts Try.info22k
  obtain ⟨g, cap, rfl⟩ := h.form (fun e => by rw [e] at hi; simp at hi)
  have hcell := fun k hk => h.cellAt k hk
  have hlist : (l.take i ++ l.drop (i + 1) ++ List.replicate (i + 1 - i) 0).toArray.size = l.length := by
    simp; omega
  have hsmall : (l.take i ++ l.drop (i + 1)).length = l.length - 1 := by simp; omega
  rcases h.2 with ⟨h2, _⟩ | ⟨g', cap', cur, h2, h3, h4, h5, h6, h7, h8⟩
  · cases h2
  cases h2
  have hH : Sort.Holds (fun n : Nat => U n) w g 0 l.toArray := fun j hj => by
    have hj' : j < l.length := by simpa using hj
    refine ⟨?_, by simp [World.frozen?, h4]⟩
    rw [Nat.zero_add, hcell j hj']
    simp [hj']
  have hd := AnyE.slices_Delete deleteLays (fun n : Nat => U n) (fun _ => rfl) 0 (fun w => Try.zeroValue22 w) i0 hi0 hz1 g 0 cap i (i + 1) l.toArray w hH (by simpa using h5) (by unfold maxLen at h6; omega) (by omega) (by simp; omega)
  rw [show l.toArray.size = l.length by simp, show l.toArray.toList = l by simp] at hd
  refine hd.mono ?_
  rintro e w' ⟨rfl, q, rfl⟩
  obtain ⟨D, hD⟩ : ∃ D, (l.take i ++ l.drop (i + 1) ++ List.replicate (i + 1 - i) 0).toArray = D := ⟨_, rfl⟩
  have hDget : ∀ k, k < l.length - 1 → D[k]? = (l.take i ++ l.drop (i + 1))[k]? := fun k hk => by
    rw [← hD, List.getElem?_toArray, List.getElem?_append_left (by omega)]
  rw [hD] at hlist ⊢
  have hheap : (Sort.putRow (fun n : Nat => U n) (Sort.ahead w q) g 0 D).heap[g]? = some (.cells (Sort.putCells (fun n : Nat => U n) 0 D cur) 22 (0, 0)) := by
    simp [Sort.putRow, Sort.mapBlock, Sort.ahead, Array.getElem?_modify, h4, Sort.onCells]
  refine ⟨_, rfl, ⟨by rw [U64_length]; simp, .inr ⟨g, cap, _, ?_, h3, hheap, ?_, h6, ?_, ?_⟩⟩, ?_, rfl⟩
  · rw [hsmall, show i + 1 - i = 1 by omega]
  · rw [hsmall]; omega
  · simpa [Sort.putCells] using h7
  · apply List.ext_getElem?
    intro k
    rw [List.getElem?_take]
    by_cases hk : k < l.length - 1
    · rw [if_pos (by rw [hsmall]; omega), Array.getElem?_toList, Sort.putCells, Array.getElem?_mapIdx]
      have hkc : k < cur.size := by omega
      rw [Array.getElem?_eq_getElem hkc]
      have hd2 := hDget k hk
      have hkD : k < D.size := by omega
      rw [Array.getElem?_eq_getElem hkD, List.getElem?_eq_getElem (by rw [hsmall]; exact hk)] at hd2
      simp only [Option.map_some, U64, List.getElem?_map]
      rw [List.getElem?_eq_getElem (by rw [hsmall]; exact hk)]
      simp only [Option.some.injEq] at hd2
      rw [if_pos ⟨Nat.zero_le _, by omega⟩, Nat.sub_zero, getElem!_pos D k hkD, hd2]
      rfl
    · rw [if_neg (by rw [hsmall]; omega), List.getElem?_eq_none (by rw [U64_length, hsmall]; omega)]
  · refine ⟨rfl, rfl, rfl, by simp [Sort.ahead], fun k hk hne => ?_⟩
    have : g ≠ k := fun e => hne (by rw [e]; rfl)
    simp [Sort.putRow, Sort.mapBlock, Sort.ahead, Array.getElem?_modify, this]
end Go.Proofs.Ytjgfcnhnlaobcaa
