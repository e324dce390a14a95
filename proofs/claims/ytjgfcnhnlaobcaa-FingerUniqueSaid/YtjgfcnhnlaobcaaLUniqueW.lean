/- Walk of the law on unique factors. -/
import Derived.Test.YtjgfcnhnlaobcaaUa
import Derived.Test.YtjgfcnhnlaobcaaUb
import Derived.Test.YtjgfcnhnlaobcaaSb
namespace Go.Proofs.Ytjgfcnhnlaobcaa
open Go.RowKit
open Gf2 (len Irr prodL)

theorem index_miss {v : Value} {l : List Nat} {base x : Nat} {w : World} (h : OwnU w base v l) (hn : l.length < 2 ^ 60) (hx : x ∉ l) :
    Calls Try.prog 54 #[v, U x] w fun e w' => e = .returned (I (-1)) ∧ w' = w :=
  (ownIndex_calls v l base x w h hn).mono fun e w' ⟨h1, h2⟩ => ⟨by
    rcases h2 with ⟨_, h3⟩ | ⟨i, h3, _⟩
    · exact h3
    · exact absurd (List.mem_of_getElem? h3) hx, h1⟩
theorem index_hit {v : Value} {l : List Nat} {base x : Nat} {w : World} (h : OwnU w base v l) (hn : l.length < 2 ^ 60) (hx : x ∈ l) :
    Calls Try.prog 54 #[v, U x] w fun e w' => ∃ i : Nat, l[i]? = some x ∧ e = .returned (I i) ∧ w' = w :=
  (ownIndex_calls v l base x w h hn).mono fun e w' ⟨h1, h2⟩ => by
    rcases h2 with ⟨h3, _⟩ | ⟨i, h3, h4⟩
    · exact absurd hx h3
    · exact ⟨i, h3, h4, h1⟩
theorem delete_calls {v : Value} {l : List Nat} {base i x : Nat} {w : World} (h : OwnU w base v l) (hi : l[i]? = some x) :
    Calls Try.prog 55 #[v, I i, I ((i : Int) + 1)] w fun e w' => ∃ v', e = .returned v' ∧ OwnU w' base v' (l.take i ++ l.drop (i + 1)) ∧ w.grownBy w' v.ownBlock ∧ v'.ownBlock = v.ownBlock := by
  have := ownDelete_calls v l base i w h (List.getElem?_eq_some_iff.1 hi).1
  rw [show ((i + 1 : Nat) : Int) = (i : Int) + 1 by omega] at this
  exact this

theorem gcd_zero_left (q : Nat) : Gf2.gcd 0 q = q := by rw [Gf2.gcd_comm, Gf2.gcd_zero]

set_option maxRecDepth 100000 in
set_option maxHeartbeats 3200000 in
/-- One of the two is 0. -/
theorem unique_zero (p q : Nat) (hp : p < 2 ^ 64) (hq : q < 2 ^ 64) (h0 : p = 0 ∨ q = 0) (w : World) :
    Calls Try.prog 13 #[U p, U q] w fun e w' => e = .returned (.bool true) ∧ Below w.heap.size w w' := by
  have hB : Below w.heap.size w w := Below.refl _ _
  have hg : Gf2.gcd p q = p ||| q := by
    rcases h0 with rfl | rfl
    · rw [gcd_zero_left, Nat.zero_or]
    · rw [Gf2.gcd_zero, Nat.or_zero]
  have c19 := common_calls p q hp hq
  have hor := or_u64 hp hq
  rw [hg] at c19
  generalize p ||| q = r at *
  have fac : ∀ x, x < 2 ^ 64 → ∀ w : World, Calls Try.prog 37 #[U x] w fun e w' => ∃ (v : Value) (k : Int), e = .returned (.tuple #[v, I k]) ∧ (k == 0) = ((x : Int) != 0) ∧ Below w.heap.size w w' := fun x hx w => by
    by_cases hx0 : x = 0
    · subst hx0
      refine (Factors_zero w).mono ?_
      rintro e w' ⟨rfl, rfl⟩
      exact ⟨_, 1, rfl, by decide, Below.refl _ _⟩
    · refine (Factors_calls x hx hx0 w).mono ?_
      rintro e w' ⟨v, rfl, -, hb⟩
      exact ⟨_, 0, rfl, by simp; omega, hb⟩
  have fp := fac p hp
  have fq := fac q hq
  clear fac hg
  by_cases hp0 : p = 0
  · have b1 : ((p : Int) == 0) = true := by simp [hp0]
    have b2 : ((p : Int) != 0) = false := by simp [hp0]
    clear h0 hp0
    by_cases hq0 : q = 0
    · have b3 : ((q : Int) != 0) = false := by simp [hq0]
      clear hq0
      go_enter Try.func13, Try.ntmps13
      go_wp2_with (first
        | (go_at_call 14; refine (sane_calls _).mono ?_; rintro e w1 ⟨rfl, hb⟩; replace hB := hB.trans (hb.mono hB.size); clear hb)
        | (go_at_call 37; refine (fp _).mono ?_; clear fp; rintro e w1 ⟨v1, k1, rfl, hk1, hb⟩; replace hB := hB.trans (hb.mono hB.size); clear hb)
        | (go_at_call 37; refine (fq _).mono ?_; clear fq; rintro e w1 ⟨v2, k2, rfl, hk2, hb⟩; replace hB := hB.trans (hb.mono hB.size); clear hb)
        | (go_at_call 19; refine (c19 _).mono ?_; rintro e w1 ⟨rfl, rfl⟩))
      go_ret
      exact ⟨by simp, hB⟩
    · have b3 : ((q : Int) != 0) = true := by simp; omega
      clear hq0
      go_enter Try.func13, Try.ntmps13
      go_wp2_with (first
        | (go_at_call 14; refine (sane_calls _).mono ?_; rintro e w1 ⟨rfl, hb⟩; replace hB := hB.trans (hb.mono hB.size); clear hb)
        | (go_at_call 37; refine (fp _).mono ?_; clear fp; rintro e w1 ⟨v1, k1, rfl, hk1, hb⟩; replace hB := hB.trans (hb.mono hB.size); clear hb)
        | (go_at_call 37; refine (fq _).mono ?_; clear fq; rintro e w1 ⟨v2, k2, rfl, hk2, hb⟩; replace hB := hB.trans (hb.mono hB.size); clear hb)
        | (go_at_call 19; refine (c19 _).mono ?_; rintro e w1 ⟨rfl, rfl⟩))
      go_ret
      exact ⟨by simp, hB⟩
  · have hq0 : q = 0 := h0.resolve_left hp0
    have b1 : ((p : Int) == 0) = false := beq_false (by omega)
    have b2 : ((p : Int) != 0) = true := by simp; omega
    have b3 : ((q : Int) == 0) = true := by simp [hq0]
    have b4 : ((q : Int) != 0) = false := by simp [hq0]
    clear h0 hp0 hq0
    go_enter Try.func13, Try.ntmps13
    go_wp2_with (first
      | (go_at_call 14; refine (sane_calls _).mono ?_; rintro e w1 ⟨rfl, hb⟩; replace hB := hB.trans (hb.mono hB.size); clear hb)
      | (go_at_call 37; refine (fp _).mono ?_; clear fp; rintro e w1 ⟨v1, k1, rfl, hk1, hb⟩; replace hB := hB.trans (hb.mono hB.size); clear hb)
      | (go_at_call 37; refine (fq _).mono ?_; clear fq; rintro e w1 ⟨v2, k2, rfl, hk2, hb⟩; replace hB := hB.trans (hb.mono hB.size); clear hb)
      | (go_at_call 19; refine (c19 _).mono ?_; rintro e w1 ⟨rfl, rfl⟩))
    go_ret
    exact ⟨by simp, hB⟩

set_option maxRecDepth 100000 in
set_option maxHeartbeats 1600000 in
/-- Neither is 0. -/
theorem unique_some (p q : Nat) (hp : p < 2 ^ 64) (hq : q < 2 ^ 64) (hp0 : p ≠ 0) (hq0 : q ≠ 0) (w : World) :
    Calls Try.prog 13 #[U p, U q] w fun e w' => e = .returned (.bool true) ∧ Below w.heap.size w w' := by
  have hB : Below w.heap.size w w := Below.refl _ _
  have c19 := common_calls p q hp hq
  have c37 := fun x hx h0 w => Factors_calls x hx h0 w
  have b1 : ((p : Int) == 0) = false := beq_false (by omega)
  have b2 : ((p : Int) != 0) = true := by simp; omega
  have b3 : ((q : Int) == 0) = false := beq_false (by omega)
  have b4 : ((q : Int) != 0) = true := by simp; omega
  have hfp := facL_length hp0 hp
  have hfq := facL_length hq0 hq
  obtain ⟨L, hL⟩ : ∃ L, facL p = L := ⟨_, rfl⟩
  have fp : ∀ w, Calls Try.prog 37 #[U p] w fun e w' => ∃ v, e = .returned (.tuple #[v, I 0]) ∧ OwnU w' w.heap.size v L ∧ Below w.heap.size w w' := fun w => by rw [← hL]; exact Factors_calls p hp hp0 w
  have fq : ∀ w, Calls Try.prog 37 #[U q] w fun e w' => ∃ v, e = .returned (.tuple #[v, I 0]) ∧ OwnU w' w.heap.size v (facL q) ∧ Below w.heap.size w w' := fun w => Factors_calls q hq hq0 w
  have HL := Lib.hid hL
  rw [hL] at hfp
  clear c37 hL
  go_enter Try.func13, Try.ntmps13
  go_wp2_with (first
    | (go_at_call 14; refine (sane_calls _).mono ?_; rintro e w1 ⟨rfl, hb⟩; replace hB := hB.trans (hb.mono hB.size); clear hb)
    | (go_at_call 37; refine (fp _).mono ?_; clear fp; rintro e w1 ⟨v1, rfl, own1, hb⟩; replace hB := hB.trans (hb.mono hB.size); clear hb)
    | (go_at_call 37; refine (fq _).mono ?_; clear fq; rintro e w1 ⟨v2, rfl, own2, hb⟩
       have own2b := own2.lift hB.size
       replace hB := hB.trans (hb.mono hB.size); have own1b := own1.below hb
       have hap : Apart v1 v2 := (fun k h1 h2 => Nat.lt_irrefl _ (Nat.lt_of_lt_of_le (own1.lt k h1).2 (own2.lt k h2).1))
       clear hb own1 own2
       obtain ⟨a1, cap1, rfl, ha1⟩ := own1b.shape
       obtain ⟨a2, cap2, rfl, ha2⟩ := own2b.shape))
  have hK : ∃ K, K = facL q := ⟨_, rfl⟩
  obtain ⟨K, hK⟩ := hK
  have HK := Lib.hid hK
  rw [← hK] at hfq ha2 own2b hap ⊢
  clear hK
  have c35p := Irreducible_calls p hp
  have hone : ((L.length : Int) == 1) = Gf2.irrB p := by
    rw [irrB_one hp0 hp, HL.out]
    by_cases h : L.length = 1
    · simp [h]
    · simp [h]; omega
  generalize Gf2.irrB p = β at *
  go_loopw [9, 56] (fun v9 vk wr => ∃ j : Nat, vk = I j ∧ v9 = U (prodL (L.take j)) ∧ j ≤ L.length ∧ (∃ b, OwnU wr b (.slice a1 L.length cap1) L) ∧ OwnU wr w.heap.size (.slice a2 K.length cap2) K ∧ Below w.heap.size w wr) (fun _ vk _ => L.length - (intOf vk).toNat)
  case atStart => exact ⟨0, rfl, rfl, Nat.zero_le _, ⟨_, own1b⟩, own2b, hB⟩
  case round =>
    clear own1b own2b hB
    obtain ⟨j, rfl, rfl, hj, ⟨base1, own1⟩, own2, hB⟩ := hrel
    by_cases hlt : j < L.length
    · have hli : (j : Int) < (L.length : Int) := by omega
      obtain ⟨x, hx⟩ : ∃ x, L[j]? = some x := ⟨L[j], List.getElem?_eq_getElem _⟩
      have hLne : L ≠ [] := fun e => by rw [e] at hx; simp at hx
      obtain ⟨g1, rfl⟩ := ha1 hLne
      obtain ⟨t1, t2, t3, t4, t5, t6, t7⟩ := take_fits hp0 hp (j := j) (x := x) (by rw [HL.out]; exact hx)
      rw [HL.out] at t1 t2 t6 t7
      have c53 := product_calls _ _ t1 t3 t2 t4 t6
      rw [t7] at c53
      have c35 := Irreducible_calls x t4
      rw [(Gf2.irrB_iff x).2 t5] at c35
      have cx := own1.cellAt j hlt
      have hxe : L[j] = x := (List.getElem?_eq_some_iff.1 hx).2
      rw [hxe] at cx
      obtain ⟨all2, h2⟩ : ∃ a, prodL (L.take (j + 1)) = a := ⟨_, rfl⟩
      rw [h2] at c53
      have H2 := Lib.hid h2
      generalize prodL (L.take j) = all1 at *
      clear t1 t2 t3 t4 t5 t6 t7 h2
      by_cases hj0 : j = 0
      · have hjb : ¬ (0 : Int) < (j : Int) := by omega
        clear hj0
        go_wp2_with (first
          | (go_at_call 53; refine (c53 _).mono ?_; rintro e w2 ⟨rfl, rfl⟩)
          | (go_at_call 35; refine (c35 _).mono ?_; rintro e w3 ⟨rfl, hb⟩
             replace hB := hB.trans (hb.mono hB.size)
             have own1c := own1.below hb
             have own2c := own2.below hb
             clear hb))
        go_roundw
        case rel => exact ⟨j + 1, by go_num, by rw [H2.out], by omega, ⟨_, own1c⟩, own2c, hB⟩
        case measure => simp [intOf]; omega
      · have hjb : (0 : Int) < (j : Int) := by omega
        have hso := HL.out
        have hprev : ∀ (hl : j < (facL p).length), (facL p)[j - 1] ≤ (facL p)[j] := fun hl => sorted_at hl (by omega)
        simp only [HL.out] at hprev
        have hprev2 := hprev hlt
        obtain ⟨y, hy⟩ : ∃ y, L[j - 1]'(by omega) = y := ⟨_, rfl⟩
        rw [hxe, hy] at hprev2
        have hyx : ¬ (x : Int) < (y : Int) := by omega
        have HY := Lib.hid hy
        clear hprev hso hy
        go_wp2_with (first
          | (go_at_call 53; refine (c53 _).mono ?_; rintro e w2 ⟨rfl, rfl⟩)
          | (go_at_call 35; refine (c35 _).mono ?_; rintro e w3 ⟨rfl, hb⟩
             replace hB := hB.trans (hb.mono hB.size)
             have own1c := own1.below hb
             have own2c := own2.below hb
             have cy := own1c.cellAt (j - 1) (by omega)
             rw [HY.out] at cy
             clear hb))
        go_roundw
        case rel => exact ⟨j + 1, by go_num, by rw [H2.out], by omega, ⟨_, own1c⟩, own2c, hB⟩
        case measure => simp [intOf]; omega
    · obtain rfl : j = L.length := by omega
      have hli : ¬ (L.length : Int) < (L.length : Int) := by omega
      have hall : prodL (L.take L.length) = p := by rw [List.take_length, ← HL.out]; exact facL_prod hp0 hp
      rw [hall]
      clear hall
      go_wp2_with (first
        | (go_at_call 35; refine (c35p _).mono ?_; rintro e w3 ⟨rfl, hb⟩
           replace hB := hB.trans (hb.mono hB.size)
           have own1c := own1.below hb
           have own2c := own2.below hb
           clear hb))
      go_loopw [7, 13, 101] (fun vk vb vi wr => ∃ (j : Nat) (C K' : List Nat), vi = I j ∧ vb = U (prodL C) ∧ j ≤ L.length ∧ Comm L K j C K' ∧ K'.length ≤ 63 ∧ (∃ b, OwnU wr b (.slice a1 L.length cap1) L) ∧ OwnU wr w.heap.size vk K' ∧ Apart (.slice a1 L.length cap1) vk ∧ Below w.heap.size w wr) (fun _ _ vi _ => L.length - (intOf vi).toNat)
      case atStart => exact ⟨0, [], K, rfl, rfl, Nat.zero_le _, Comm.start _ _, hfq, ⟨_, own1c⟩, own2c, hap, hB⟩
      case round =>
        clear own1c own2c hB hap own1 own2 ha2 hone c35p
        obtain ⟨j, C, K', rfl, rfl, hj, hC, hK63, ⟨base1, own1⟩, own2, hap, hB⟩ := hrel
        have HC := Lib.hid hC
        clear hC
        by_cases hlt : j < L.length
        · have hli : (j : Int) < (L.length : Int) := by omega
          obtain ⟨x, hx⟩ : ∃ x, L[j]? = some x := ⟨L[j], List.getElem?_eq_getElem _⟩
          have hLne : L ≠ [] := fun e => by rw [e] at hx; simp at hx
          obtain ⟨g1, rfl⟩ := ha1 hLne
          have cx := own1.cellAt j hlt
          rw [show L[j] = x from (List.getElem?_eq_some_iff.1 hx).2] at cx
          by_cases hin : x ∈ K'
          · obtain ⟨t1, t2, t3, t4, t5, t6, t7, t8⟩ := Comm.fits (k := K) (C := C) (K := K') (j := j) (x := x) hp0 hp (by rw [HL.out]; exact HC.out) (by rw [HL.out]; exact hx)
            have c53 := product_calls _ _ t1 t3 t2 t4 t6
            rw [t7] at c53
            have c54 := index_hit own2 (by omega) hin
            obtain ⟨all2, h2⟩ : ∃ a, prodL (C ++ [x]) = a := ⟨_, rfl⟩
            rw [h2] at c53 t8
            have hz : ((all2 : Int) == 0) = false := beq_false (by omega)
            have H2 := Lib.hid h2
            have HX := Lib.hid hx
            obtain ⟨all1, h1⟩ : ∃ a, prodL C = a := ⟨_, rfl⟩
            rw [h1] at c53 ⊢
            clear t1 t2 t3 t4 t5 t6 t7 t8 h2 hx h1 hin
            go_wp2_with (first
              | (go_at_call 54; refine c54.mono ?_; rintro e w2 ⟨i, hi, rfl, rfl⟩
                 have c55 := delete_calls own2 hi
                 have hi0 : (0 : Int) ≤ (i : Int) := (by omega)
                 have hi63 : (i : Int) < 63 := (by have := (List.getElem?_eq_some_iff.1 hi).1; omega)
                 have HI := Lib.hid hi
                 clear hi)
              | (go_at_call 55; refine c55.mono ?_; rintro e w3 ⟨v3, rfl, own3, grow3, hblk⟩
                 have own1d := own1.kept grow3 hap.ne
                 have hB3 := hB.grown grow3 hB.size (fun k e => (own2.lt k e).1)
                 have hap3 : Apart (.slice (some ⟨g1, 0, none⟩) L.length cap1) v3 := (fun k h1 h2 => hap k h1 (hblk ▸ h2))
                 clear own2 c54 c55)
              | (go_at_call 53; refine (c53 _).mono ?_; rintro e w2 ⟨rfl, rfl⟩))
            go_roundw
            case rel => exact ⟨j + 1, C ++ [x], K'.take i ++ K'.drop (i + 1), by go_num, by rw [H2.out], by omega, HC.out.hit HX.out HI.out, by simp; omega, ⟨_, own1d⟩, own3, hap3, hB3⟩
            case measure => simp [intOf]; omega
          · have c54 := index_miss own2 (by omega) hin
            have HN := Lib.hid hin
            have HX := Lib.hid hx
            clear hx hin
            go_wp2_with (first
              | (go_at_call 54; refine c54.mono ?_; rintro e w2 ⟨rfl, rfl⟩))
            go_roundw
            case rel => exact ⟨j + 1, C, K', by go_num, rfl, by omega, HC.out.miss HX.out HN.out, hK63, ⟨_, own1⟩, own2, hap, hB⟩
            case measure => simp [intOf]; omega
        · obtain rfl : j = L.length := by omega
          have hli : ¬ (L.length : Int) < (L.length : Int) := by omega
          have hg : Gf2.gcd p q = prodL C := by
            have h := HC.out
            rw [← HL.out, HK.out] at h
            exact h.done hp0 hp hq0 hq
          rw [hg] at c19
          generalize prodL C = all at *
          clear hg
          go_wp2_with (go_at_call 19; refine (c19 _).mono ?_; rintro e w2 ⟨rfl, rfl⟩)
          go_ret
          exact ⟨by simp, hB⟩

theorem unique_walk (p q : Nat) (hp : p < 2 ^ 64) (hq : q < 2 ^ 64) (w : World) :
    Calls Try.prog 13 #[U p, U q] w fun e w' => e = .returned (.bool true) ∧ Below w.heap.size w w' := by
  by_cases hp0 : p = 0
  · exact unique_zero p q hp hq (.inl hp0) w
  · by_cases hq0 : q = 0
    · exact unique_zero p q hp hq (.inr hq0) w
    · exact unique_some p q hp hq hp0 hq0 w
end Go.Proofs.Ytjgfcnhnlaobcaa
