/- Walk of the fifth law: other texts with the same fingerprint. -/
import Derived.Test.YtjgfcnhnlaobcaaZap
import Derived.Test.YtjgfcnhnlaobcaaLBytesW
namespace Go.Proofs.Ytjgfcnhnlaobcaa
open Go.RowKit

theorem twF_eq (l : List Nat) (p : Nat) : twF l p = Gf2.xorL l (Gf2.bytesOf l.length p) := by
  apply List.ext_getElem
  · rw [twF_length, Gf2.xorL_length (by rw [Gf2.bytesOf_length])]
  · intro i h1 h2
    have hi : i < l.length := by rw [twF_length] at h1; exact h1
    simp [twF, Gf2.xorL, Gf2.bytesOf, pb, hi]

theorem eq8_b (a a' : Option Addr) (c c' n : Nat) (l m : List Nat) (w : World) (hl : SlAt .u8 w a l) (hm : SlAt .u8 w a' m) (el : l.length = n) (em : m.length = n) (hn : n < 2 ^ 60) (b : Bool) (hb : decide (l = m) = b) :
    Calls Try.prog 32 #[.slice a n c, .slice a' n c'] w fun e w' => e = .returned (.bool b) ∧ Below w.heap.size w w' := by
  have h := equal8_calls a a' c c' l m w hl hm (by omega) (by omega)
  rw [el, em, hb] at h
  refine h.mono ?_
  rintro e w' ⟨rfl, k, rfl⟩
  exact ⟨rfl, drewN_below _ _ _⟩

set_option maxRecDepth 100000 in
set_option maxHeartbeats 1600000 in
theorem twins_walk (p c1 c2 : Nat) (a1 a2 : Option Addr) (l m : List Nat) (hp : p < 2 ^ 64) (w : World) (hl : BytesAt w a1 l) (hm : BytesAt w a2 m) (hc1 : l.length ≤ c1) (hc2 : m.length ≤ c2) (hz1 : a1 = none → l = []) (hz2 : a2 = none → m = []) (hx1 : l.length < 2 ^ 60) (hx2 : m.length < 2 ^ 60) :
    Calls Try.prog 7 #[U p, .slice a1 l.length c1, .slice a2 m.length c2] w fun e w' => e = .returned (.bool true) ∧ Below w.heap.size w w' := by
  have hB : Below w.heap.size w w := Below.refl _ _
  obtain ⟨n, hn⟩ : ∃ n, min l.length 2000 = n := ⟨_, rfl⟩
  have hmin : ∀ w, (Builtin.min_ #[3, 3] 3 #[.int .i64 (l.length : Int), .int .i64 2000]).run Try.prog w = .ok (.int .i64 (n : Int)) w := fun w => by
    rw [run_min_int2, show (if (2000 : Int) < (l.length : Int) then (2000 : Int) else (l.length : Int)) = (n : Int) by split <;> omega]
  have hn1 : n ≤ l.length := by omega
  have hn2 : n ≤ 2000 := by omega
  have hnc : (n : Int) ≤ (c1 : Int) := by omega
  have hn0 : 0 ≤ (n : Int) := by omega
  have hl' := hl.take n
  have el : (l.take n).length = n := by simp; omega
  have hz' : a1 = none → l.take n = [] := fun h => by rw [hz1 h]; simp
  generalize l.take n = b at hl' el hz'
  clear hl hn hx1 hz1 hc1
  have hN : n < 2 ^ 60 := by omega
  have hlp := len_le_64 hp
  have c1' := fun x (hb : Below w.heap.size w x) => Of_n p c1 n a1 b hp x (hl'.below' hb) el hN
  have c31 := fun x (hb : Below w.heap.size w x) => Twin_sl p c1 a1 b hp x (hl'.below' hb) (by omega) hz'
  rw [el] at c31
  have c17 := degree_calls p hp
  by_cases h5 : Gf2.len p < 5
  · rw [tExtend_bad h5] at c1'
    rw [show tTwin p b = ([], 200) by rw [tTwin, if_pos h5]] at c31
    clear h5 hlp hm hz2 hx2 hc2
    dsimp only [List.length_nil] at c31
    go_enter Try.func7, Try.ntmps7
    go_wp2_with (first
      | (go_at_call 14; refine (sane_calls _).mono ?_; rintro e w1 ⟨rfl, hb⟩; replace hB := hB.trans (hb.mono hB.size); clear hb)
      | (go_at_call 30; refine (c1' _ hB).mono ?_; clear c1'; rintro e w1 ⟨rfl, hb⟩; replace hB := hB.trans (hb.mono hB.size); clear hb)
      | (go_at_call 31; refine (c31 _ hB).mono ?_; clear c31; rintro e w2 ⟨a8, k8, rfl, _, hb⟩; replace hB := hB.trans (hb.mono hB.size); clear hb))
    go_ret
    exact ⟨rfl, hB⟩
  have hp5 : 5 ≤ Gf2.len p := by omega
  have hp2 : 2 ≤ Gf2.len p := by omega
  rw [tExtend_one hp5 (by omega)] at c1'
  by_cases h8 : Gf2.len p ≤ 8 * n
  · rw [show tTwin p b = (twF b p, 0) by rw [tTwin, if_neg h5, if_neg (by omega), if_neg (by omega)]] at c31
    dsimp only at c31 c1'
    have et : (twF b p).length = n := by rw [twF_length, el]
    rw [et] at c31
    have htw := Gf2.fp_twin hp2 b (by omega) hl'.1
    rw [← twF_eq] at htw
    have t256 := twF_lt hl'.1 p
    have c2' := fun cap ad x (hs : SlAt .u8 x ad (twF b p)) => Of_n p cap n ad (twF b p) hp x ⟨t256, hs⟩ et hN
    rw [tExtend_one hp5 (by omega), htw.1] at c2'
    have hne : decide (twF b p = b) = false := decide_eq_false htw.2
    have c32 := fun ad cap y (hs : SlAt .u8 y ad (twF b p)) (hb : Below w.heap.size w y) => eq8_b ad a1 cap c1 n (twF b p) b y hs (hl'.below' hb).2 et el hN false hne
    have hgt : (Gf2.len p : Int) - 1 < 8 * (n : Int) := by omega
    generalize Gf2.onBytes p 1 b = f0 at *
    generalize twF b p = t at *
    dsimp only at c2'
    clear h5 hlp hm hz2 hx2 hc2 hp5 hp2 h8 et htw t256 hne hl' el hz'
    go_enter Try.func7, Try.ntmps7
    go_wp2_with (first
      | (go_at_call 14; refine (sane_calls _).mono ?_; rintro e w1 ⟨rfl, hb⟩; replace hB := hB.trans (hb.mono hB.size); clear hb)
      | (go_at_call 30; refine (c1' _ hB).mono ?_; clear c1'; rintro e w1 ⟨rfl, hb⟩; replace hB := hB.trans (hb.mono hB.size); clear hb)
      | (go_at_call 31; refine (c31 _ hB).mono ?_; clear c31; rintro e w2 ⟨a8, k8, rfl, hs, hb⟩; replace hB := hB.trans (hb.mono hB.size); clear hb)
      | (go_at_call 17; refine (c17 _).mono ?_; rintro e w3 ⟨rfl, rfl⟩)
      | (go_at_call 30; refine (c2' _ _ _ hs).mono ?_; clear c2'; rintro e w4 ⟨rfl, hb⟩; replace hs := hs.below' hb; replace hB := hB.trans (hb.mono hB.size); clear hb)
      | (go_at_call 32; refine (c32 _ _ _ hs hB).mono ?_; clear c32; rintro e w5 ⟨rfl, hb⟩; replace hB := hB.trans (hb.mono hB.size); clear hb))
    go_ret
    exact ⟨by simp, hB⟩
  rw [show tTwin p b = ([], 3) by rw [tTwin, if_neg h5, if_neg (by omega), if_pos (by omega)]] at c31
  dsimp only [List.length_nil] at c31 c1'
  have hle : 8 * (n : Int) ≤ (Gf2.len p : Int) - 1 := by omega
  obtain ⟨k, hk⟩ : ∃ k, min m.length n = k := ⟨_, rfl⟩
  obtain ⟨z, hz⟩ : ∃ z, n - m.length = z := ⟨_, rfl⟩
  have hkz : k + z = n := by omega
  have hkm : k ≤ m.length := by omega
  have hmin2 : ∀ w, (Builtin.min_ #[3, 3] 3 #[.int .i64 (m.length : Int), .int .i64 (n : Int)]).run Try.prog w = .ok (.int .i64 (k : Int)) w := fun w => by
    rw [run_min_int2, show (if (n : Int) < (m.length : Int) then (n : Int) else (m.length : Int)) = (k : Int) by split <;> omega]
  have hmax : ∀ w, (Builtin.max_ #[3, 3] 3 #[.int .i64 ((n : Int) - (m.length : Int)), .int .i64 0]).run Try.prog w = .ok (.int .i64 (z : Int)) w := fun w => by
    rw [run_max_int2, show (if (0 : Int) > (n : Int) - (m.length : Int) then (0 : Int) else (n : Int) - (m.length : Int)) = (z : Int) by split <;> omega]
  have hm' := hm.take k
  have em : (m.take k).length = k := by simp; omega
  have hzm : a2 = none → m.take k = [] := fun h => by rw [hz2 h]; simp
  have c33 := fun y (hb : Below w.heap.size w y) => clone8_calls a2 c2 (m.take k) y ((hm'.below' hb).sl) (by omega) hzm
  rw [em] at c33
  have t256 : ∀ x ∈ m.take k ++ List.replicate z 0, x < 256 := fun x hx => (List.mem_append.1 hx).elim (hm'.1 x) (fun h => by rw [(List.mem_replicate.1 h).2]; decide)
  have et : (m.take k ++ List.replicate z 0).length = n := by rw [List.length_append, em, List.length_replicate, hkz]
  have hB8 : (m.take k).map (fun x : Nat => Value.int .u8 x) ++ List.replicate z (Value.int .u8 0) = (m.take k ++ List.replicate z 0).map (fun x : Nat => Value.int .u8 x) := by simp
  have c2' := fun cap ad x (hs : SlAt .u8 x ad (m.take k ++ List.replicate z 0)) => Of_n p cap n ad _ hp x ⟨t256, hs⟩ et hN
  rw [tExtend_one hp5 (by omega)] at c2'
  have hinj := Gf2.fp_inj hp2 b (m.take k ++ List.replicate z 0) (by omega) (by omega) hl'.1 t256
  have hkc : (k : Int) ≤ (c2 : Int) := by omega
  have hk0 : 0 ≤ (k : Int) := by omega
  have hkz2 : k + z ≤ 2 ^ 40 := by omega
  generalize (m.take k).map (fun x : Nat => Value.int .u8 x) = mk at *
  generalize m.take k ++ List.replicate z 0 = t at *
  by_cases hbt : b = t
  · have c32 := fun ad cap y (hs : SlAt .u8 y ad t) (hb : Below w.heap.size w y) => eq8_b a1 ad c1 cap n b t y (hl'.below' hb).2 hs el et hN true (decide_eq_true hbt)
    have hf := hinj.2 hbt
    rw [← hf] at c2'
    dsimp only at c2'
    generalize Gf2.onBytes p 1 b = f0 at *
    clear h5 hlp hz2 hc2 hp5 hp2 h8 t256 hl' el hz' hm hm' em hzm hinj hf hbt hk hz hkz hkm
    go_enter Try.func7, Try.ntmps7
    go_wp2_with (first
      | (go_at_call 14; refine (sane_calls _).mono ?_; rintro e w1 ⟨rfl, hb⟩; replace hB := hB.trans (hb.mono hB.size); clear hb)
      | (go_at_call 30; refine (c1' _ hB).mono ?_; clear c1'; rintro e w1 ⟨rfl, hb⟩; replace hB := hB.trans (hb.mono hB.size); clear hb)
      | (go_at_call 31; refine (c31 _ hB).mono ?_; clear c31; rintro e w2 ⟨a8, k8, rfl, _, hb⟩; replace hB := hB.trans (hb.mono hB.size); clear hb)
      | (go_at_call 17; refine (c17 _).mono ?_; rintro e w3 ⟨rfl, rfl⟩)
      | (go_at_call 33; refine (c33 _ hB).mono ?_; clear c33; rintro e w4 ⟨v', rfl, hown, hb⟩; have hsz := hB.size; have hlt := hown.lt; have hbs := hb.size; replace hB := hB.trans (hb.mono hB.size); clear hb)
      | (at_builtin; refine wpList_append_zeros8 rfl _ _ rfl _ _ _ _ rfl hown z rfl hkz2 hbs ?_; intro v2 w5 hown2 hgr; rw [hB8] at hown2; obtain ⟨a9, k9, hv, hs, _⟩ := SlAt.of_owns (k := .u8) (l := t) hown2; rw [et] at hv; subst hv; replace hB := hB.grown hgr (Nat.le_trans hsz hbs) (fun q hq => Nat.le_trans hsz (hlt q hq).1); clear hown2 hgr hlt hsz hbs hown)
      | (go_at_call 30; refine (c2' _ _ _ hs).mono ?_; clear c2'; rintro e w6 ⟨rfl, hb⟩; replace hs := hs.below' hb; replace hB := hB.trans (hb.mono hB.size); clear hb)
      | (go_at_call 32; refine (c32 _ _ _ hs hB).mono ?_; clear c32; rintro e w7 ⟨rfl, hb⟩; replace hB := hB.trans (hb.mono hB.size); clear hb))
    go_ret
    exact ⟨by simp, hB⟩
  · have c32 := fun ad cap y (hs : SlAt .u8 y ad t) (hb : Below w.heap.size w y) => eq8_b a1 ad c1 cap n b t y (hl'.below' hb).2 hs el et hN false (decide_eq_false hbt)
    have hf := fun h => hbt (hinj.1 h)
    dsimp only at c2'
    generalize Gf2.onBytes p 1 b = f0 at *
    generalize Gf2.onBytes p 1 t = f1 at *
    have hne : ((f0 : Int) == (f1 : Int)) = false := beq_false (fun h => hf (by omega))
    clear h5 hlp hz2 hc2 hp5 hp2 h8 t256 hl' el hz' hm hm' em hzm hinj hf hbt hk hz hkz hkm
    go_enter Try.func7, Try.ntmps7
    go_wp2_with (first
      | (go_at_call 14; refine (sane_calls _).mono ?_; rintro e w1 ⟨rfl, hb⟩; replace hB := hB.trans (hb.mono hB.size); clear hb)
      | (go_at_call 30; refine (c1' _ hB).mono ?_; clear c1'; rintro e w1 ⟨rfl, hb⟩; replace hB := hB.trans (hb.mono hB.size); clear hb)
      | (go_at_call 31; refine (c31 _ hB).mono ?_; clear c31; rintro e w2 ⟨a8, k8, rfl, _, hb⟩; replace hB := hB.trans (hb.mono hB.size); clear hb)
      | (go_at_call 17; refine (c17 _).mono ?_; rintro e w3 ⟨rfl, rfl⟩)
      | (go_at_call 33; refine (c33 _ hB).mono ?_; clear c33; rintro e w4 ⟨v', rfl, hown, hb⟩; have hsz := hB.size; have hlt := hown.lt; have hbs := hb.size; replace hB := hB.trans (hb.mono hB.size); clear hb)
      | (at_builtin; refine wpList_append_zeros8 rfl _ _ rfl _ _ _ _ rfl hown z rfl hkz2 hbs ?_; intro v2 w5 hown2 hgr; rw [hB8] at hown2; obtain ⟨a9, k9, hv, hs, _⟩ := SlAt.of_owns (k := .u8) (l := t) hown2; rw [et] at hv; subst hv; replace hB := hB.grown hgr (Nat.le_trans hsz hbs) (fun q hq => Nat.le_trans hsz (hlt q hq).1); clear hown2 hgr hlt hsz hbs hown)
      | (go_at_call 30; refine (c2' _ _ _ hs).mono ?_; clear c2'; rintro e w6 ⟨rfl, hb⟩; replace hs := hs.below' hb; replace hB := hB.trans (hb.mono hB.size); clear hb)
      | (go_at_call 32; refine (c32 _ _ _ hs hB).mono ?_; clear c32; rintro e w7 ⟨rfl, hb⟩; replace hB := hB.trans (hb.mono hB.size); clear hb))
    go_ret
    exact ⟨by simp, hB⟩
end Go.Proofs.Ytjgfcnhnlaobcaa
