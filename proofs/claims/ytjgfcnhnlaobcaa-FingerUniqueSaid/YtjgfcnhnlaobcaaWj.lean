/- Walks: other bytes with the same fingerprint. -/
import Derived.Test.YtjgfcnhnlaobcaaWi
namespace Go.Proofs.Ytjgfcnhnlaobcaa
open Go.RowKit

/-- A byte of p, from the end. -/
def pb (p k : Nat) : Nat := p / 2 ^ (8 * k) % 256
/-- Bytes, the last k of which have been turned. -/
def twL (l : List Nat) (p k : Nat) : List Nat := (List.range l.length).map fun i => if l.length - 1 - i < k then l.getD i 0 ^^^ pb p (l.length - 1 - i) else l.getD i 0
/-- Bytes, all of which have been turned. -/
def twF (l : List Nat) (p : Nat) : List Nat := (List.range l.length).map fun i => l.getD i 0 ^^^ pb p (l.length - 1 - i)
theorem twL_length (l : List Nat) (p k : Nat) : (twL l p k).length = l.length := by simp [twL]
theorem twF_length (l : List Nat) (p : Nat) : (twF l p).length = l.length := by simp [twF]
theorem twL_zero (l : List Nat) (p : Nat) : twL l p 0 = l := by
  apply List.ext_getElem (twL_length l p 0)
  intro i h1 h2
  simp [twL, h2]
theorem twL_full {l : List Nat} {p k : Nat} (h : ∀ j, k ≤ j → j < l.length → pb p j = 0) : twL l p k = twF l p := by
  unfold twL twF
  apply List.map_congr_left
  intro i hi
  have hi' := List.mem_range.1 hi
  split
  · rfl
  · rw [h _ (by omega) (by omega), Nat.xor_zero]
theorem twL_get {l : List Nat} {p k : Nat} (hk : k < l.length) : (twL l p k)[l.length - 1 - k]? = some (l.getD (l.length - 1 - k) 0) := by
  unfold twL
  rw [List.getElem?_map, List.getElem?_range (by omega)]
  simp only [Option.map_some]
  rw [if_neg (by omega)]
theorem twL_step {l : List Nat} {p k : Nat} (hk : k < l.length) : (twL l p k).set (l.length - 1 - k) (l.getD (l.length - 1 - k) 0 ^^^ pb p k) = twL l p (k + 1) := by
  apply List.ext_getElem (by simp [twL_length])
  intro i h1 h2
  rw [twL_length] at h2
  by_cases e : i = l.length - 1 - k
  · subst e
    have : l.length - 1 - (l.length - 1 - k) = k := by omega
    rw [List.getElem_set_self]
    simp [twL, this]
  · rw [List.getElem_set_ne (Ne.symm e)]
    simp only [twL, List.getElem_map, List.getElem_range]
    by_cases h : l.length - 1 - i < k
    · rw [if_pos h, if_pos (by omega)]
    · rw [if_neg h, if_neg (by omega)]
theorem pb_zero {p k : Nat} (h : p / 2 ^ (8 * k) = 0) {j : Nat} (hj : k ≤ j) : pb p j = 0 := by
  have h1 : p < 2 ^ (8 * k) := by
    rcases Nat.div_eq_zero_iff.1 h with h | h
    · have := Nat.two_pow_pos (8 * k); omega
    · exact h
  have h2 : p < 2 ^ (8 * j) := Nat.lt_of_lt_of_le h1 (Nat.pow_le_pow_right (by decide) (by omega))
  rw [pb, Nat.div_eq_of_lt h2]
theorem twF_lt {l : List Nat} (h : ∀ x ∈ l, x < 256) (p : Nat) : ∀ x ∈ twF l p, x < 256 := by
  intro x hx
  obtain ⟨i, hi, rfl⟩ := List.mem_map.1 hx
  have h1 : l.getD i 0 < 256 := h _ (getD_mem (List.mem_range.1 hi) rfl)
  exact Nat.xor_lt_two_pow (n := 8) h1 (by have : pb p (l.length - 1 - i) < 256 := Nat.mod_lt _ (by decide); omega)

/-- What Twin says. -/
def tTwin (p : Nat) (l : List Nat) : List Nat × Int := if Gf2.len p < 5 then ([], 200) else if 100000 < l.length then ([], 2) else if 8 * l.length < Gf2.len p then ([], 3) else (twF l p, 0)

/-- The cells of bytes. -/
def B8 (l : List Nat) : List Value := l.map fun x : Nat => Value.int .u8 x
theorem B8_set (l : List Nat) (i x : Nat) : (B8 l).set i (.int .u8 x) = B8 (l.set i x) := by
  show (l.map fun x : Nat => Value.int .u8 x).set i _ = _
  exact (List.map_set).symm
theorem owns_pos {w : World} {base e size n : Nat} {v : Value} {xs : List Value} (h : w.ownsRow base e size v n xs) (hn : 0 < n) : ∃ g cap, v = .slice (some ⟨g, 0, none⟩) n cap ∧ base ≤ g := by
  rcases h.2 with ⟨_, h0⟩ | ⟨g, cap, cur, rfl, hg, _⟩
  · omega
  · exact ⟨g, cap, rfl, hg⟩
theorem wrap_u8 (n : Nat) : IntKind.u8.wrap (n : Int) = ((n % 256 : Nat) : Int) := by rw [IntKind.wrap_u8]; omega
theorem tup_vi {a b : Value} {e : Int} (h : a = b) : Ending.returned (.tuple #[a, .int .i64 e]) = .returned (.tuple #[b, .int .i64 e]) := by rw [h]

set_option maxRecDepth 100000 in
set_option maxHeartbeats 1600000 in
theorem Twin_calls (p c : Nat) (a : Option Addr) (l : List Nat) (hp : p < 2 ^ 64) (w : World) (hl : BytesAt w a l) (hn : l.length < 2 ^ 60) (hz : a = none → l = []) :
    Calls Try.prog 31 #[U p, .slice a l.length c] w fun e w' => ∃ v', e = .returned (.tuple #[v', I (tTwin p l).2]) ∧ w'.ownsRow w.heap.size 5 1 v' (tTwin p l).1.length (B8 (tTwin p l).1) ∧ Below w.heap.size w w' := by
  have hc := isPoly_calls p hp w
  have hdg := degree_calls p hp w
  have hlp := len_le_64 hp
  by_cases h5 : Gf2.len p < 5
  · have hd : decide (5 ≤ Gf2.len p) = false := by simp; omega
    have ht : tTwin p l = ([], 200) := by rw [tTwin, if_pos h5]
    rw [hd] at hc
    rw [ht]
    clear ht hd
    go_enter Try.func31, Try.ntmps31
    go_wp2_with (first | (go_at_call 56; refine hc.mono ?_; rintro e w0 ⟨rfl, rfl⟩))
    go_ret2
    exact ⟨_, rfl, World.ownsRow_nil _ _ _ _, Below.refl _ _⟩
  · have hd : decide (5 ≤ Gf2.len p) = true := by simp; omega
    rw [hd] at hc
    clear hd
    by_cases hbig : 100000 < l.length
    · have ht : tTwin p l = ([], 2) := by rw [tTwin, if_neg h5, if_pos hbig]
      rw [ht]
      clear ht
      go_enter Try.func31, Try.ntmps31
      go_wp2_with (first | (go_at_call 56; refine hc.mono ?_; rintro e w0 ⟨rfl, rfl⟩))
      go_ret2
      exact ⟨_, rfl, World.ownsRow_nil _ _ _ _, Below.refl _ _⟩
    by_cases hsh : 8 * l.length < Gf2.len p
    · have ht : tTwin p l = ([], 3) := by rw [tTwin, if_neg h5, if_neg hbig, if_pos hsh]
      rw [ht]
      clear ht
      have hle : 8 * (l.length : Int) ≤ (Gf2.len p : Int) - 1 := by omega
      go_enter Try.func31, Try.ntmps31
      go_wp2_with (first | (go_at_call 56; refine hc.mono ?_; rintro e w0 ⟨rfl, rfl⟩) | (go_at_call 17; refine hdg.mono ?_; rintro e w0 ⟨rfl, rfl⟩))
      go_ret2
      exact ⟨_, rfl, World.ownsRow_nil _ _ _ _, Below.refl _ _⟩
    have ht : tTwin p l = (twF l p, 0) := by rw [tTwin, if_neg h5, if_neg hbig, if_neg hsh]
    rw [ht]
    clear ht
    have hcl := clone8_calls a c l w hl.sl (by omega) hz
    have hsm := hl.1
    obtain ⟨n, hne⟩ : ∃ n, l.length = n := ⟨_, rfl⟩
    have HN := Lib.hid hne
    rw [twF_length]
    rw [hne] at hcl hsh hbig ⊢
    have hn1 : 0 < n := by omega
    have hgt : (Gf2.len p : Int) - 1 < 8 * (n : Int) := by omega
    clear hne hz hl hn
    go_enter Try.func31, Try.ntmps31
    go_wp2_with (first | (go_at_call 56; refine hc.mono ?_; rintro e w0 ⟨rfl, rfl⟩) | (go_at_call 17; refine hdg.mono ?_; rintro e w0 ⟨rfl, rfl⟩) | (go_at_call 33; refine hcl.mono ?_; rintro e w1 ⟨v', rfl, hown, hB⟩; obtain ⟨g, cap, rfl, hg⟩ := owns_pos hown hn1))
    clear hc hdg hcl
    go_loopw [0, 7] (fun vp vi wr => ∃ k : Nat, vp = U (p / 2 ^ (8 * k)) ∧ vi = I ((n : Int) - 1 - k) ∧ k ≤ n ∧ wr.ownsRow w.heap.size 5 1 (.slice (some ⟨g, 0, none⟩) n cap) n (B8 (twL l p k)) ∧ Below w.heap.size w wr) (fun vp _ _ => (intOf vp).toNat)
    case atStart => exact ⟨0, by rw [Nat.mul_zero, Nat.pow_zero, Nat.div_one], i_eq (by omega), by omega, by rw [twL_zero]; exact hown, hB⟩
    case round =>
      clear hown hB
      obtain ⟨k, rfl, rfl, hk, hown, hB⟩ := hrel
      by_cases h0 : p / 2 ^ (8 * k) = 0
      · rw [twL_full (fun j h1 _ => pb_zero h0 h1)] at hown
        rw [h0]
        clear h0
        go_wp2
        go_ret2
        exact ⟨_, rfl, hown, hB⟩
      · have hkn : k < n := by
          refine Classical.byContradiction fun hn => ?_
          have : p < 2 ^ (8 * k) := Gf2.len_le_iff.1 (by omega)
          exact h0 (Nat.div_eq_of_lt this)
        obtain ⟨q, hq⟩ : ∃ q, p / 2 ^ (8 * k) = q := ⟨_, rfl⟩
        have hq1 : q / 256 = p / 2 ^ (8 * (k + 1)) := by rw [← hq, Nat.div_div_eq_div_mul, show 256 = 2 ^ 8 from rfl, ← Nat.pow_add]; congr 2
        have hpb : pb p k = q % 256 := by rw [pb, hq]
        rw [hq] at h0 ⊢
        have hq64 : q < 2 ^ 64 := by rw [← hq]; exact shr_lt hp
        have hpos : (0 : Int) < (q : Int) := by omega
        obtain ⟨i, hi⟩ : ∃ i : Nat, n = i + 1 + k := ⟨n - 1 - k, by omega⟩
        have hie : (n : Int) - 1 - k = (i : Int) := by omega
        have hil : l.length - 1 - k = i := by have := HN.out; omega
        have hget := twL_get (p := p) (show k < l.length by have := HN.out; omega)
        have hst := twL_step (p := p) (show k < l.length by have := HN.out; omega)
        rw [hil] at hget hst
        obtain ⟨x, hx⟩ : ∃ x, l.getD i 0 = x := ⟨_, rfl⟩
        have hx256 : x < 256 := hsm x (getD_mem (by have := HN.out; omega) hx)
        rw [hx] at hget hst
        have hcell := hown.cellAt i (by omega)
        have hget' : (B8 (twL l p k))[i]? = some (.int .u8 x) := by show (List.map _ _)[i]? = _; rw [List.getElem?_map, hget]; rfl
        rw [hget'] at hcell
        have hfr := hown.frozenAt i
        have hnew := hown.stored i (.int .u8 ((x ^^^ pb p k : Nat) : Int))
        rw [B8_set, hst] at hnew
        have hBn := hB.setCell (p := ⟨g, i, none⟩) hg (.int .u8 ((x ^^^ pb p k : Nat) : Int))
        have hxe : bits .xor .u8 (x : Int) ((q : Int) % 256) = ((x ^^^ pb p k : Nat) : Int) := by rw [show (q : Int) % 256 = ((q % 256 : Nat) : Int) by omega, xor_u8 hx256 (Nat.mod_lt _ (by decide)), hpb]
        rw [← hxe] at hnew hBn
        have hi0 : (i : Int) < (n : Int) := by omega
        have HQ := Lib.hid hq1
        have HI := Lib.hid (show (i : Int) - 1 = (n : Int) - 1 - ((k + 1 : Nat) : Int) by omega)
        rw [hie]
        clear hq hq1 hpb hi hie hil hget hget' hst hx hxe hown hB HN hsm
        go_wp2
        go_roundw
        case rel => exact ⟨k + 1, u_eq (by rw [← HQ.out]; omega), i_eq HI.out, by omega, hnew.1, hBn⟩
        case measure => simp [intOf]; omega

set_option maxRecDepth 100000 in
set_option maxHeartbeats 1600000 in
theorem RTwin_calls (p c : Nat) (a : Option Addr) (l : List Nat) (hp : p < 2 ^ 64) (w : World) (hl : BytesAt w a l) (hn : l.length < 2 ^ 60) (hz : a = none → l = []) :
    Calls Try.prog 52 #[U p, .slice a l.length c] w fun e w' => ∃ v', e = .returned (.tuple #[v', I (tTwin p l).2]) ∧ w'.ownsRow w.heap.size 5 1 v' (tTwin p l).1.length (B8 (tTwin p l).1) ∧ Below w.heap.size w w' := by
  have hc := fits_calls p hp w
  have hdg := rdegree_calls p hp w
  have hlp := len_le_64 hp
  by_cases h5 : Gf2.len p < 5
  · have hd : decide (5 ≤ Gf2.len p) = false := by simp; omega
    have ht : tTwin p l = ([], 200) := by rw [tTwin, if_pos h5]
    rw [hd] at hc
    rw [ht]
    clear ht hd
    go_enter Try.func52, Try.ntmps52
    go_wp2_with (first | (go_at_call 59; refine hc.mono ?_; rintro e w0 ⟨rfl, rfl⟩))
    go_ret2
    exact ⟨_, rfl, World.ownsRow_nil _ _ _ _, Below.refl _ _⟩
  · have hd : decide (5 ≤ Gf2.len p) = true := by simp; omega
    rw [hd] at hc
    clear hd
    by_cases hbig : 100000 < l.length
    · have ht : tTwin p l = ([], 2) := by rw [tTwin, if_neg h5, if_pos hbig]
      rw [ht]
      clear ht
      go_enter Try.func52, Try.ntmps52
      go_wp2_with (first | (go_at_call 59; refine hc.mono ?_; rintro e w0 ⟨rfl, rfl⟩))
      go_ret2
      exact ⟨_, rfl, World.ownsRow_nil _ _ _ _, Below.refl _ _⟩
    by_cases hsh : 8 * l.length < Gf2.len p
    · have ht : tTwin p l = ([], 3) := by rw [tTwin, if_neg h5, if_neg hbig, if_pos hsh]
      rw [ht]
      clear ht
      have hle : 8 * (l.length : Int) ≤ (Gf2.len p : Int) - 1 := by omega
      go_enter Try.func52, Try.ntmps52
      go_wp2_with (first | (go_at_call 59; refine hc.mono ?_; rintro e w0 ⟨rfl, rfl⟩) | (go_at_call 18; refine hdg.mono ?_; rintro e w0 ⟨rfl, rfl⟩))
      go_ret2
      exact ⟨_, rfl, World.ownsRow_nil _ _ _ _, Below.refl _ _⟩
    have ht : tTwin p l = (twF l p, 0) := by rw [tTwin, if_neg h5, if_neg hbig, if_neg hsh]
    rw [ht]
    clear ht
    have hcl := clone8_calls a c l w hl.sl (by omega) hz
    have hsm := hl.1
    obtain ⟨n, hne⟩ : ∃ n, l.length = n := ⟨_, rfl⟩
    have HN := Lib.hid hne
    rw [twF_length]
    rw [hne] at hcl hsh hbig ⊢
    have hn1 : 0 < n := by omega
    have hgt : (Gf2.len p : Int) - 1 < 8 * (n : Int) := by omega
    clear hne hz hl hn
    go_enter Try.func52, Try.ntmps52
    go_wp2_with (first | (go_at_call 59; refine hc.mono ?_; rintro e w0 ⟨rfl, rfl⟩) | (go_at_call 18; refine hdg.mono ?_; rintro e w0 ⟨rfl, rfl⟩) | (go_at_call 33; refine hcl.mono ?_; rintro e w1 ⟨v', rfl, hown, hB⟩; obtain ⟨g, cap, rfl, hg⟩ := owns_pos hown hn1))
    clear hc hdg hcl
    go_loopw [7, 8] (fun vi _ wr => ∃ k : Nat, vi = I k ∧ k ≤ n ∧ k ≤ 8 ∧ wr.ownsRow w.heap.size 5 1 (.slice (some ⟨g, 0, none⟩) n cap) n (B8 (twL l p k)) ∧ Below w.heap.size w wr) (fun vi _ _ => 8 - (intOf vi).toNat)
    case atStart => exact ⟨0, rfl, by omega, by omega, by rw [twL_zero]; exact hown, hB⟩
    case round =>
      clear hown hB
      obtain ⟨k, rfl, hk, hk8, hown, hB⟩ := hrel
      by_cases hend : k = 8 ∨ k = n
      · rw [twL_full (fun j h1 h2 => by
          rcases hend with e | e
          · subst e
            exact pb_zero (k := 8) (Nat.div_eq_of_lt (by simpa using hp)) h1
          · have := HN.out; omega)] at hown
        by_cases h8 : k < 8
        · obtain rfl : k = n := by omega
          have hd1 : decide ((k : Int) < 8) = true := by simp; omega
          have hd2 : decide ((k : Int) < (k : Int)) = false := by simp
          clear hend
          go_wp2
          go_ret2
          exact ⟨_, rfl, hown, hB⟩
        · obtain rfl : k = 8 := by omega
          clear hend
          go_wp2
          go_ret2
          exact ⟨_, rfl, hown, hB⟩
      · have hkn : k < n := by omega
        have hk7 : k < 8 := by omega
        have hd1 : decide ((k : Int) < 8) = true := by simp; omega
        have hd2 : decide ((k : Int) < (n : Int)) = true := by simp; omega
        clear hend
        obtain ⟨q, hq⟩ : ∃ q, p / 2 ^ (8 * k) = q := ⟨_, rfl⟩
        have hpb : pb p k = q % 256 := by rw [pb, hq]
        have hsh : (p : Int) / 2 ^ (8 * k) = (q : Int) := by rw [shr_cast, hq]
        have hq64 : q < 2 ^ 64 := by rw [← hq]; exact shr_lt hp
        obtain ⟨i, hi⟩ : ∃ i : Nat, n = i + 1 + k := ⟨n - 1 - k, by omega⟩
        have hie : (n : Int) - 1 - k = (i : Int) := by omega
        have hil : l.length - 1 - k = i := by have := HN.out; omega
        have hget := twL_get (p := p) (show k < l.length by have := HN.out; omega)
        have hst := twL_step (p := p) (show k < l.length by have := HN.out; omega)
        rw [hil] at hget hst
        obtain ⟨x, hx⟩ : ∃ x, l.getD i 0 = x := ⟨_, rfl⟩
        have hx256 : x < 256 := hsm x (getD_mem (by have := HN.out; omega) hx)
        rw [hx] at hget hst
        have hcell := hown.cellAt i (by omega)
        have hget' : (B8 (twL l p k))[i]? = some (.int .u8 x) := by show (List.map _ _)[i]? = _; rw [List.getElem?_map, hget]; rfl
        rw [hget'] at hcell
        have hfr := hown.frozenAt i
        have hnew := hown.stored i (.int .u8 ((x ^^^ pb p k : Nat) : Int))
        rw [B8_set, hst] at hnew
        have hBn := hB.setCell (p := ⟨g, i, none⟩) hg (.int .u8 ((x ^^^ pb p k : Nat) : Int))
        have hxe : bits .xor .u8 (x : Int) ((q : Int) % 256) = ((x ^^^ pb p k : Nat) : Int) := by rw [show (q : Int) % 256 = ((q % 256 : Nat) : Int) by omega, xor_u8 hx256 (Nat.mod_lt _ (by decide)), hpb]
        rw [← hxe] at hnew hBn
        have hi0 : (i : Int) < (n : Int) := by omega
        clear hq hpb hi hil hget hget' hst hx hown hB HN hsm
        go_wp2
        clear hie
        have hw8 : IntKind.i64.wrap (8 * (k : Int)) = 8 * (k : Int) := IntWalk.i64_in _ (by omega)
        have h80 : 0 ≤ 8 * (k : Int) := by omega
        have h864 : 8 * (k : Int) ≤ 64 := by omega
        have h8t : (8 * (k : Int)).toNat = 8 * k := by omega
        refine wp_region_still_tail 13 (by kernel_rfl) (by kernel_rfl) ?_
        simp only [List.take_succ_cons, List.take_zero, List.drop_succ_cons, List.drop_zero]
        change wpStill _ _ (World.drew _) _ _ _
        repeat still_step
        refine wpStill_nil ?_
        clear hw8 h80 h864 h8t hxe
        go_wp2
        exact ⟨⟨k + 1, by go_num, by omega, by omega, hnew.1.drew, hBn.drew⟩, by simp [intOf]; omega⟩

end Go.Proofs.Ytjgfcnhnlaobcaa
