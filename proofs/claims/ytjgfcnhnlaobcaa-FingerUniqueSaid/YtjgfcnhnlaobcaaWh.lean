/- Walks: slices: equality, copies. -/
import Derived.Test.YtjgfcnhnlaobcaaWg
import Derived.Lib.SliceRun
namespace Go.Proofs.Ytjgfcnhnlaobcaa
open Go.RowKit

/-- Numbers of a kind in memory. -/
def SlAt (k : IntKind) (w : World) (a : Option Addr) (l : List Nat) : Prop :=
  l = [] ∨ ∃ b off, a = some ⟨b, off, none⟩ ∧ ∀ i, i < l.length → w.cell? ⟨b, off + i, none⟩ = some (.int k (l.getD i 0))
theorem BytesAt.sl {w : World} {a : Option Addr} {l : List Nat} (h : BytesAt w a l) : SlAt .u8 w a l := h.2
theorem SlAt.drew {k : IntKind} {w : World} {a : Option Addr} {l : List Nat} (h : SlAt k w a l) (n : Nat) : SlAt k (w.drewN n) a l := h
/-- Below B the numbers lie as they lay. -/
theorem SlAt.below {k : IntKind} {B : Nat} {w w' : World} {a : Option Addr} {l : List Nat} (h : SlAt k w a l) (hb : Below B w w') (ha : ∀ x, a = some x → x.block < B) : SlAt k w' a l := by
  rcases h with h | ⟨b, off, rfl, hc⟩
  · exact .inl h
  · exact .inr ⟨b, off, rfl, fun i hi => by rw [hb.cell (p := ⟨b, off + i, none⟩) (ha ⟨b, off, none⟩ rfl)]; exact hc i hi⟩
theorem BytesAt.below {B : Nat} {w w' : World} {a : Option Addr} {l : List Nat} (h : BytesAt w a l) (hb : Below B w w') (ha : ∀ x, a = some x → x.block < B) : BytesAt w' a l := ⟨h.1, SlAt.below h.2 hb ha⟩
/-- .. with no word on the block: what is there lies in a block that is there. -/
theorem SlAt.below' {k : IntKind} {w w' : World} {a : Option Addr} {l : List Nat} (h : SlAt k w a l) (hb : Below w.heap.size w w') : SlAt k w' a l := by
  rcases h with h | ⟨b, off, rfl, hc⟩
  · exact .inl h
  · by_cases hl : l = []
    · exact .inl hl
    · have h0 := hc 0 (List.length_pos_iff.2 hl)
      have hlt : b < w.heap.size := by
        rcases Nat.lt_or_ge b w.heap.size with h1 | h1
        · exact h1
        · simp [World.cell?, Array.getElem?_eq_none h1] at h0
      exact SlAt.below (.inr ⟨b, off, rfl, hc⟩) hb (fun x hx => by cases hx; exact hlt)
theorem BytesAt.below' {w w' : World} {a : Option Addr} {l : List Nat} (h : BytesAt w a l) (hb : Below w.heap.size w w') : BytesAt w' a l := ⟨h.1, SlAt.below' h.2 hb⟩
/-- A slice of the call's own reads so. -/
theorem SlAt.of_owns {k : IntKind} {w : World} {base e n : Nat} {v : Value} {l : List Nat} (h : w.ownsRow base e 1 v n (l.map fun x : Nat => Value.int k x)) : ∃ a cap, v = .slice a l.length cap ∧ SlAt k w a l ∧ (∀ x, a = some x → base ≤ x.block ∧ x.block < w.heap.size) := by
  obtain ⟨h1, h2⟩ := h
  rw [List.length_map, Nat.mul_one] at h1
  subst h1
  rcases h2 with ⟨rfl, h2⟩ | ⟨g, cap, cur, rfl, hg, hh, hn, hc, hs, ht⟩
  · rw [h2]; exact ⟨none, 0, rfl, .inl (List.length_eq_zero_iff.1 h2), fun x hx => by cases hx⟩
  · refine ⟨_, cap, rfl, .inr ⟨g, 0, rfl, fun i hi => ?_⟩, fun x hx => by cases hx; exact ⟨hg, lt_of_block hh⟩⟩
    rw [Nat.mul_one] at ht
    have hi' : i < (l.map fun x : Nat => Value.int k x).length := by simpa using hi
    have e : cur.toList[i]? = some (Value.int k (l.getD i 0)) := by
      have : (cur.toList.take l.length)[i]? = cur.toList[i]? := List.getElem?_take_of_lt hi
      rw [← this, ht, List.getElem?_map, List.getElem?_eq_getElem hi]
      simp [hi]
    show World.cell? w ⟨g, 0 + i, none⟩ = _
    simp only [World.cell?, hh, Nat.zero_add]
    simpa using e

theorem drewN_two (w : World) (a b : Nat) : ∃ k, (w.drewN a).drewN b = w.drewN k := ⟨a + b, by simp only [World.drewN]; congr 1; omega⟩
theorem list_eq_step {l m : List Nat} {k : Nat} (h : l.take k = m.take k) (h1 : k < l.length) (h2 : k < m.length) (e : l.getD k 0 = m.getD k 0) : l.take (k + 1) = m.take (k + 1) := by
  rw [take_getD h1 rfl, take_getD h2 rfl, h, e]
theorem list_ne_at {l m : List Nat} {k : Nat} (e : l.getD k 0 ≠ m.getD k 0) : decide (l = m) = false := by
  apply decide_eq_false; intro h; rw [h] at e; exact e rfl

set_option maxHeartbeats 1600000 in
theorem equal8_calls (a a' : Option Addr) (c c' : Nat) (l m : List Nat) (w : World) (hl : SlAt .u8 w a l) (hm : SlAt .u8 w a' m) (hn : l.length < 2 ^ 60) (hn' : m.length < 2 ^ 60) :
    Calls Try.prog 32 #[.slice a l.length c, .slice a' m.length c'] w fun e w' => e = .returned (.bool (decide (l = m))) ∧ ∃ n, w' = w.drewN n := by
  by_cases hlen : l.length = m.length
  · by_cases h0 : l = []
    · subst h0
      obtain rfl : m = [] := List.length_eq_zero_iff.1 (by simpa using hlen.symm)
      go_enter Try.func32, Try.ntmps32
      go_wp2
      refine wp_loop_rounds 1 ?_
      rw [rounds_succ]
      go_wp2
      go_ret
      exact ⟨rfl, 0, rfl⟩
    · have hm0 : m ≠ [] := fun e => h0 (List.length_eq_zero_iff.1 (by rw [hlen, e]; rfl))
      obtain ⟨b, off, rfl, hc⟩ := hl.resolve_left h0
      obtain ⟨b', off', rfl, hc'⟩ := hm.resolve_left hm0
      have hne : ((l.length : Int) != (m.length : Int)) = false := by simp [hlen]
      obtain ⟨q, hq⟩ : ∃ q, m.length = q := ⟨_, rfl⟩
      rw [hq] at hne hn' hlen ⊢
      rw [hlen] at hne hn ⊢
      have HL := Lib.hid hlen
      have HQ := Lib.hid hq
      clear hlen hq hl hm
      go_enter Try.func32, Try.ntmps32
      go_wp2
      go_loopw [5, 13] (fun _ vi wr => ∃ k n : Nat, vi = I k ∧ wr = w.drewN n ∧ k ≤ q ∧ l.take k = m.take k) (fun _ vi _ => q - (intOf vi).toNat)
      case atStart => exact ⟨0, 0, rfl, rfl, Nat.zero_le _, rfl⟩
      case round =>
        obtain ⟨k, n, rfl, rfl, hk, ht⟩ := hrel
        by_cases hlt : k < q
        · have hx := hc k (by have := HL.out; omega)
          have hy := hc' k (by have := HQ.out; omega)
          obtain ⟨x, hxe⟩ : ∃ x, l.getD k 0 = x := ⟨_, rfl⟩
          obtain ⟨y, hye⟩ : ∃ y, m.getD k 0 = y := ⟨_, rfl⟩
          rw [hxe] at hx
          rw [hye] at hy
          have HT := Lib.hid ht
          have HX := Lib.hid hxe
          have HY := Lib.hid hye
          clear hc hc' ht hxe hye
          have hki : (k : Int) < (q : Int) := by omega
          by_cases hxy : x = y
          · subst hxy
            have hb : ((x : Int) != (x : Int)) = false := by simp
            go_wp2
            go_quiet (fail)
            go_wp2
            exact ⟨⟨k + 1, _, by go_num, rfl, hlt, list_eq_step HT.out (by have := HL.out; omega) (by have := HQ.out; omega) (by rw [HX.out, HY.out])⟩, by simp [intOf]; omega⟩
          · have hb : ((x : Int) != (y : Int)) = true := by simp; omega
            have HF := Lib.hid (list_ne_at (l := l) (m := m) (k := k) (by rw [HX.out, HY.out]; exact hxy))
            clear hxy
            go_wp2
            go_quiet (fail)
            go_wp2
            go_ret
            exact ⟨by rw [HF.out]; rfl, drewN_two _ _ _⟩
        · obtain rfl : k = q := by omega
          have HF := Lib.hid (show decide (l = m) = true by
            apply decide_eq_true
            have h1 := HL.out; have h2 := HQ.out
            rw [← List.take_length (l := l), ← List.take_length (l := m), h1, h2]; exact ht)
          clear ht hc hc'
          go_wp2
          go_ret
          exact ⟨by rw [HF.out]; rfl, _, rfl⟩
  · have hne : ((l.length : Int) != (m.length : Int)) = true := by simp; omega
    have HF := Lib.hid (show decide (l = m) = false by apply decide_eq_false; intro h; exact hlen (by rw [h]))
    clear hlen
    go_enter Try.func32, Try.ntmps32
    go_wp2
    go_ret
    exact ⟨by rw [HF.out]; rfl, 0, rfl⟩

set_option maxHeartbeats 1600000 in
theorem equal64_calls (a a' : Option Addr) (c c' : Nat) (l m : List Nat) (w : World) (hl : SlAt .u64 w a l) (hm : SlAt .u64 w a' m) (hn : l.length < 2 ^ 60) (hn' : m.length < 2 ^ 60) :
    Calls Try.prog 39 #[.slice a l.length c, .slice a' m.length c'] w fun e w' => e = .returned (.bool (decide (l = m))) ∧ ∃ n, w' = w.drewN n := by
  by_cases hlen : l.length = m.length
  · by_cases h0 : l = []
    · subst h0
      obtain rfl : m = [] := List.length_eq_zero_iff.1 (by simpa using hlen.symm)
      go_enter Try.func39, Try.ntmps39
      go_wp2
      refine wp_loop_rounds 1 ?_
      rw [rounds_succ]
      go_wp2
      go_ret
      exact ⟨rfl, 0, rfl⟩
    · have hm0 : m ≠ [] := fun e => h0 (List.length_eq_zero_iff.1 (by rw [hlen, e]; rfl))
      obtain ⟨b, off, rfl, hc⟩ := hl.resolve_left h0
      obtain ⟨b', off', rfl, hc'⟩ := hm.resolve_left hm0
      have hne : ((l.length : Int) != (m.length : Int)) = false := by simp [hlen]
      obtain ⟨q, hq⟩ : ∃ q, m.length = q := ⟨_, rfl⟩
      rw [hq] at hne hn' hlen ⊢
      rw [hlen] at hne hn ⊢
      have HL := Lib.hid hlen
      have HQ := Lib.hid hq
      clear hlen hq hl hm
      go_enter Try.func39, Try.ntmps39
      go_wp2
      go_loopw [5, 13] (fun _ vi wr => ∃ k n : Nat, vi = I k ∧ wr = w.drewN n ∧ k ≤ q ∧ l.take k = m.take k) (fun _ vi _ => q - (intOf vi).toNat)
      case atStart => exact ⟨0, 0, rfl, rfl, Nat.zero_le _, rfl⟩
      case round =>
        obtain ⟨k, n, rfl, rfl, hk, ht⟩ := hrel
        by_cases hlt : k < q
        · have hx := hc k (by have := HL.out; omega)
          have hy := hc' k (by have := HQ.out; omega)
          obtain ⟨x, hxe⟩ : ∃ x, l.getD k 0 = x := ⟨_, rfl⟩
          obtain ⟨y, hye⟩ : ∃ y, m.getD k 0 = y := ⟨_, rfl⟩
          rw [hxe] at hx
          rw [hye] at hy
          have HT := Lib.hid ht
          have HX := Lib.hid hxe
          have HY := Lib.hid hye
          clear hc hc' ht hxe hye
          have hki : (k : Int) < (q : Int) := by omega
          by_cases hxy : x = y
          · subst hxy
            have hb : ((x : Int) != (x : Int)) = false := by simp
            go_wp2
            go_quiet (fail)
            go_wp2
            exact ⟨⟨k + 1, _, by go_num, rfl, hlt, list_eq_step HT.out (by have := HL.out; omega) (by have := HQ.out; omega) (by rw [HX.out, HY.out])⟩, by simp [intOf]; omega⟩
          · have hb : ((x : Int) != (y : Int)) = true := by simp; omega
            have HF := Lib.hid (list_ne_at (l := l) (m := m) (k := k) (by rw [HX.out, HY.out]; exact hxy))
            clear hxy
            go_wp2
            go_quiet (fail)
            go_wp2
            go_ret
            exact ⟨by rw [HF.out]; rfl, drewN_two _ _ _⟩
        · obtain rfl : k = q := by omega
          have HF := Lib.hid (show decide (l = m) = true by
            apply decide_eq_true
            have h1 := HL.out; have h2 := HQ.out
            rw [← List.take_length (l := l), ← List.take_length (l := m), h1, h2]; exact ht)
          clear ht hc hc'
          go_wp2
          go_ret
          exact ⟨by rw [HF.out]; rfl, _, rfl⟩
  · have hne : ((l.length : Int) != (m.length : Int)) = true := by simp; omega
    have HF := Lib.hid (show decide (l = m) = false by apply decide_eq_false; intro h; exact hlen (by rw [h]))
    clear hlen
    go_enter Try.func39, Try.ntmps39
    go_wp2
    go_ret
    exact ⟨by rw [HF.out]; rfl, 0, rfl⟩

theorem Try.info5k : (Try.prog.info? 5).map (fun i => (i.zero, i.size, i.bytes)) = some (some (.int .u8 0), 1, 1) := by kernel_rfl

set_option maxHeartbeats 1600000 in
theorem clone8_calls (a : Option Addr) (c : Nat) (l : List Nat) (w : World) (hl : SlAt .u8 w a l) (hn : l.length ≤ 2 ^ 40) (hz : a = none → l = []) :
    Calls Try.prog 33 #[.slice a l.length c] w fun e w' => ∃ v', e = .returned v' ∧ w'.ownsRow w.heap.size 5 1 v' l.length (l.map fun x : Nat => Value.int .u8 x) ∧ Below w.heap.size w w' := by
  have q : ∀ (w : World) (a : Option Addr) (n c n' c' : Nat), (binOp .eql 35 (.slice a n c) (.slice none n' c')).run Try.prog w = .ok (.bool a.isNone) w := fun w a n c n' c' => Lib.run_eql_slice_nil w _ _ a n c n' c' Try.underlying35
  obtain ⟨i0, hi, hz0, hz1, hz2⟩ := info_parts Try.info5k
  cases a with
  | none =>
    obtain rfl := hz rfl
    go_enter Try.func33, Try.ntmps33
    go_wp2
    go_ret
    exact ⟨_, rfl, World.ownsRow_nil _ _ _ _, Below.refl _ _⟩
  | some x =>
    have hcells : ∀ j u, (l.map fun x : Nat => Value.int .u8 x)[j]? = some u → (w.alloc (.cells #[] 5)).cell? (x.add j) = some u := by
      intro j u hj
      rw [List.getElem?_map] at hj
      rcases hl with rfl | ⟨b, off, hx, hc⟩
      · simp at hj
      · cases hx
        have hlt : j < l.length := by
          refine Classical.byContradiction fun hn => ?_
          rw [List.getElem?_eq_none (by omega)] at hj
          cases hj
        rw [List.getElem?_eq_getElem hlt] at hj
        have h1 := hc j hlt
        have h2 : l.getD j 0 = l[j] := by simp [hlt]
        rw [h2] at h1
        rw [Addr.add_lit, ((Below.refl w.heap.size w).alloc (Nat.le_refl _) _).cell (p := ⟨b, off + j, none⟩) (World.block_lt_of_cell? w _ h1), h1]
        simpa using hj
    have HC := Lib.hid hcells
    clear hcells hl hz
    go_enter Try.func33, Try.ntmps33
    go_wp2_with (at_builtin; refine wpList_append_own _ rfl _ _ 35 rfl w.heap.size 5 i0 (.int .u8 0) 1 1 Try.underlying35 hi hz0 hz1 hz2 rfl (by decide) _ _ _ rfl (World.ownsRow_made w #[] 0 (Nat.le_refl _) (Nat.zero_le _) (by simp)) x l.length c (l.map fun x : Nat => Value.int .u8 x) rfl ?qc1 ?qc2 ?qc3 ?qc4 ?qc5 ?qc6 ?_)
    case qc1 => simp
    case qc2 => exact HC.out
    case qc3 => intro u hu; obtain ⟨y, _, rfl⟩ := List.mem_map.1 hu; rfl
    case qc4 => unfold maxLen; omega
    case qc5 => omega
    case qc6 => simp
    intro v' w1 hown hgrow hnil
    go_wp2
    go_ret
    refine ⟨v', rfl, by simpa using hown, ?_⟩
    exact ((Below.refl _ w).alloc (Nat.le_refl _) _).grown hgrow (by simp) (by intro k hk; simp [Value.ownBlock] at hk; omega)

theorem Try.info22k : (Try.prog.info? 22).map (fun i => (i.zero, i.size, i.bytes)) = some (some (.int .u64 0), 1, 8) := by kernel_rfl

set_option maxHeartbeats 1600000 in
theorem clone64_calls (a : Option Addr) (c : Nat) (l : List Nat) (w : World) (hl : SlAt .u64 w a l) (hn : l.length ≤ 2 ^ 40) (hz : a = none → l = []) :
    Calls Try.prog 101 #[.slice a l.length c] w fun e w' => ∃ v', e = .returned v' ∧ w'.ownsRow w.heap.size 22 1 v' l.length (l.map fun x : Nat => Value.int .u64 x) ∧ Below w.heap.size w w' := by
  have q : ∀ (w : World) (a : Option Addr) (n c n' c' : Nat), (binOp .eql 54 (.slice a n c) (.slice none n' c')).run Try.prog w = .ok (.bool a.isNone) w := fun w a n c n' c' => Lib.run_eql_slice_nil w _ _ a n c n' c' Try.underlying54
  obtain ⟨i0, hi, hz0, hz1, hz2⟩ := info_parts Try.info22k
  cases a with
  | none =>
    obtain rfl := hz rfl
    go_enter Try.func101, Try.ntmps101
    go_wp2
    go_ret
    exact ⟨_, rfl, World.ownsRow_nil _ _ _ _, Below.refl _ _⟩
  | some x =>
    have hcells : ∀ j u, (l.map fun x : Nat => Value.int .u64 x)[j]? = some u → (w.alloc (.cells #[] 22)).cell? (x.add j) = some u := by
      intro j u hj
      rw [List.getElem?_map] at hj
      rcases hl with rfl | ⟨b, off, hx, hc⟩
      · simp at hj
      · cases hx
        have hlt : j < l.length := by
          refine Classical.byContradiction fun hn => ?_
          rw [List.getElem?_eq_none (by omega)] at hj
          cases hj
        rw [List.getElem?_eq_getElem hlt] at hj
        have h1 := hc j hlt
        have h2 : l.getD j 0 = l[j] := by simp [hlt]
        rw [h2] at h1
        rw [Addr.add_lit, ((Below.refl w.heap.size w).alloc (Nat.le_refl _) _).cell (p := ⟨b, off + j, none⟩) (World.block_lt_of_cell? w _ h1), h1]
        simpa using hj
    have HC := Lib.hid hcells
    clear hcells hl hz
    go_enter Try.func101, Try.ntmps101
    go_wp2_with (at_builtin; refine wpList_append_own _ rfl _ _ 54 rfl w.heap.size 22 i0 (.int .u64 0) 1 8 Try.underlying54 hi hz0 hz1 hz2 rfl (by decide) _ _ _ rfl (World.ownsRow_made w #[] 0 (Nat.le_refl _) (Nat.zero_le _) (by simp)) x l.length c (l.map fun x : Nat => Value.int .u64 x) rfl ?qc1 ?qc2 ?qc3 ?qc4 ?qc5 ?qc6 ?_)
    case qc1 => simp
    case qc2 => exact HC.out
    case qc3 => intro u hu; obtain ⟨y, _, rfl⟩ := List.mem_map.1 hu; rfl
    case qc4 => unfold maxLen; omega
    case qc5 => omega
    case qc6 => simp
    intro v' w1 hown hgrow hnil
    go_wp2
    go_ret
    refine ⟨v', rfl, by simpa using hown, ?_⟩
    exact ((Below.refl _ w).alloc (Nat.le_refl _) _).grown hgrow (by simp) (by intro k hk; simp [Value.ownBlock] at hk; omega)

end Go.Proofs.Ytjgfcnhnlaobcaa
