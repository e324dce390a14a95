/- Walk of the second law: by how many irreducible polynomials two of some texts collide. -/
import Derived.Test.YtjgfcnhnlaobcaaSb
import Derived.Test.YtjgfcnhnlaobcaaFew
import Derived.Test.YtjgfcnhnlaobcaaColl
import Derived.Test.YtjgfcnhnlaobcaaPoly9
import Derived.Test.YtjgfcnhnlaobcaaCnt12
namespace Go.Proofs.Ytjgfcnhnlaobcaa
open Go.RowKit

theorem irrN_nodup : ∀ f p, (irrN f p).Nodup
  | 0, _ => List.nodup_nil
  | f + 1, p => by
    rw [irrN]
    split
    · refine List.nodup_cons.2 ⟨fun h => ?_, irrN_nodup f (p + 1)⟩
      have := irrN_mem _ _ h
      omega
    · exact irrN_nodup f (p + 1)

/-- The longest of the first k texts. -/
def pmax (Ls : List (List Nat)) : Nat → Nat
  | 0 => 0
  | k + 1 => max (pmax Ls k) (Ls.getD k []).length
theorem pmax_ge (Ls : List (List Nat)) : ∀ n k, k < n → (Ls.getD k []).length ≤ pmax Ls n
  | 0, _, h => by omega
  | n + 1, k, h => by
    rw [pmax]
    rcases Nat.lt_or_ge k n with h1 | h1
    · have := pmax_ge Ls n k h1; omega
    · obtain rfl : k = n := by omega
      omega
theorem pmax_le (Ls : List (List Nat)) (M : Nat) (h : ∀ k, k < Ls.length → (Ls.getD k []).length ≤ M) : ∀ k, k ≤ Ls.length → pmax Ls k ≤ M
  | 0, _ => Nat.zero_le _
  | k + 1, hk => by
    have := pmax_le Ls M h k (by omega)
    have := h k (by omega)
    rw [pmax]; omega

/-- The law itself. -/
theorem chance_law (d : Nat) (h1 : 1 ≤ d) (h12 : d ≤ 12) (Ls : List (List Nat)) (hb : ∀ l ∈ Ls, ∀ x ∈ l, x < 256) :
    (irrFrom d 0).countP (fun p => (tColl p Ls).2.2) ≤ min (Ls.length * (Ls.length - 1) / 2 * (8 * pmax Ls Ls.length / d)) (cnt d) := by
  refine Nat.le_min.2 ⟨?_, ?_⟩
  · have hcol : ∀ p, (tColl p Ls).2.2 = true → (Gf2.pairs Ls.length).any (fun c => decide (Ls.getD c.1 [] ≠ Ls.getD c.2 []) && (Gf2.onBytes p 1 (Ls.getD c.1 []) == Gf2.onBytes p 1 (Ls.getD c.2 []))) = true := by
      intro p hp
      rcases tColl_spec p Ls with ⟨h, _⟩ | ⟨i, k, h, hk, hik, _, h4, h5, _⟩
      · rw [h] at hp; cases hp
      · refine List.any_eq_true.2 ⟨(i, k), Gf2.mem_pairs hik _ hk, ?_⟩
        have e1 : (Ls.map (Gf2.onBytes p 1)).getD i 0 = Gf2.onBytes p 1 (Ls.getD i []) := by simp [show i < Ls.length by omega]
        have e2 : (Ls.map (Gf2.onBytes p 1)).getD k 0 = Gf2.onBytes p 1 (Ls.getD k []) := by simp [hk]
        rw [e1, e2] at h4
        simp only [h4, beq_self_eq_true, Bool.and_true]
        exact decide_eq_true h5
    refine Nat.le_trans (List.countP_mono_left fun p _ hp => hcol p hp) ?_
    have := Gf2.countP_any (fun p (c : Nat × Nat) => decide (Ls.getD c.1 [] ≠ Ls.getD c.2 []) && (Gf2.onBytes p 1 (Ls.getD c.1 []) == Gf2.onBytes p 1 (Ls.getD c.2 []))) (irrFrom d 0) (8 * pmax Ls Ls.length / d) (Gf2.pairs Ls.length) (fun c hc => by
      obtain ⟨hc1, hc2⟩ := Gf2.pairs_lt _ _ hc
      by_cases hne : Ls.getD c.1 [] = Ls.getD c.2 []
      · simp only [decide_eq_false (fun h => h hne : ¬ Ls.getD c.1 [] ≠ Ls.getD c.2 []), Bool.false_and]
        rw [List.countP_false]
        exact Nat.zero_le _
      · simp only [decide_eq_true (hne : Ls.getD c.1 [] ≠ Ls.getD c.2 []), Bool.true_and]
        have g : ∀ k, k < Ls.length → Ls.getD k [] ∈ Ls := fun k hk => by simp [List.getD, hk]
        refine Gf2.coll_many h1 _ (irrN_nodup _ _) (fun q hq => ?_) (hb _ (g _ (by omega))) (hb _ (g _ hc2)) hne (pmax_ge Ls _ _ (by omega)) (pmax_ge Ls _ _ hc2)
        obtain ⟨_, h2, h3⟩ := irrFrom_mem hq
        exact ⟨(Gf2.irrB_iff q).1 h3, h2⟩)
    refine Nat.le_trans this (Nat.mul_le_mul_right _ ?_)
    have := Gf2.pairs_length Ls.length
    omega
  · rw [← irr_count h1 h12]
    exact List.countP_le_length

theorem tMany_few8 {Ls : List (List Nat)} (h : tFew Ls 8 200 = true) : tMany Ls = false := by
  have h1 : Ls.length ≤ 8 ∧ psum Ls Ls.length ≤ 200 := by simpa [tFew] using h
  have h2 : ¬ 20000 < Ls.length := by omega
  rw [tMany, decide_eq_false h2, Bool.false_or]
  apply List.any_eq_false.2
  intro l hl
  obtain ⟨k, hk, rfl⟩ := List.getElem_of_mem hl
  have h3 := psum_get hk
  have h4 : (Ls.getD k []).length = Ls[k].length := by simp [hk]
  simp
  omega

set_option maxRecDepth 100000 in
set_option maxHeartbeats 3200000 in
theorem chance_walk (d : Int) (cap : Nat) (a : Option Addr) (Ls : List (List Nat)) (w : World) (hl : TextsAt w a Ls) (hn : Ls.length ≤ 140737488351232) (hs : ∀ l ∈ Ls, l.length ≤ 140737488351232) :
    Calls Try.prog 4 #[I d, .slice a Ls.length cap] w fun e w' => e = .returned (.bool true) ∧ Below w.heap.size w w' := by
  have hB : Below w.heap.size w w := Below.refl _ _
  have c25 := fun x (hb : Below w.heap.size w x) => few_calls a cap 8 200 Ls (by omega) hs (by omega) (by omega) x (hl.below hb)
  by_cases hd : d < 4
  · clear hs hn hl c25
    go_enter Try.func4, Try.ntmps4
    go_wp2_with (first
      | (go_at_call 14; refine (sane_calls _).mono ?_; rintro e w1 ⟨rfl, hb⟩; replace hB := hB.trans (hb.mono hB.size); clear hb))
    go_ret
    exact ⟨rfl, hB⟩
  by_cases hd2 : 12 < d
  · clear hs hn hl c25
    go_enter Try.func4, Try.ntmps4
    go_wp2_with (first
      | (go_at_call 14; refine (sane_calls _).mono ?_; rintro e w1 ⟨rfl, hb⟩; replace hB := hB.trans (hb.mono hB.size); clear hb))
    go_ret
    exact ⟨rfl, hB⟩
  by_cases hfew : tFew Ls 8 200 = false
  · rw [hfew] at c25
    clear hfew hs hn hl
    go_enter Try.func4, Try.ntmps4
    go_wp2_with (first
      | (go_at_call 14; refine (sane_calls _).mono ?_; rintro e w1 ⟨rfl, hb⟩; replace hB := hB.trans (hb.mono hB.size); clear hb)
      | (go_at_call 25; refine (c25 _ hB).mono ?_; rintro e w1 ⟨rfl, rfl⟩))
    go_ret
    exact ⟨rfl, hB⟩
  replace hfew : tFew Ls 8 200 = true := by simpa using hfew
  rw [hfew] at c25
  have hmany := tMany_few8 hfew
  have hbd : Ls.length ≤ 8 ∧ psum Ls Ls.length ≤ 200 := by simpa [tFew] using hfew
  obtain ⟨D, rfl⟩ : ∃ D : Nat, d = (D : Int) := ⟨d.toNat, by omega⟩
  have hlen : ∀ k, k < Ls.length → (Ls.getD k []).length ≤ 200 := fun k hk => by have := psum_get hk; omega
  have hpm := pmax_le Ls 200 hlen
  have h256 : ∀ l ∈ Ls, ∀ x ∈ l, x < 256 := fun l hl' => by
    obtain ⟨k, hk, rfl⟩ := List.getElem_of_mem hl'
    rcases hl with h | ⟨b, off, _, h⟩
    · rw [h] at hk; simp at hk
    · obtain ⟨x, c, _, h2⟩ := h k hk
      have e : Ls.getD k [] = Ls[k] := by simp [hk]
      rw [e] at h2
      exact h2.1
  have hlaw := chance_law D (by omega) (by omega) Ls h256
  have c26 := fun x (hb : Below w.heap.size w x) => Bad_calls (D : Int) a cap Ls (by omega) (fun l hl' => Nat.lt_of_le_of_lt (hs l hl') (by omega)) x (hl.below hb)
  rw [show tBad (D : Int) Ls = ((irrFrom D 0).countP (fun p => (tColl p Ls).2.2), 0) by rw [tBad, if_neg (by omega), hmany]; rfl] at c26
  have hpmn := hpm Ls.length (Nat.le_refl _)
  have c27 := Chance_calls (D : Int) (Ls.length : Int) (pmax Ls Ls.length : Int)
  obtain ⟨N, hN⟩ : ∃ N, Ls.length * (Ls.length - 1) / 2 * (8 * pmax Ls Ls.length / D) = N := ⟨_, rfl⟩
  have hNi : (Ls.length : Int) * ((Ls.length : Int) - 1) / 2 * (8 * (pmax Ls Ls.length : Int) / (D : Int)) = (N : Int) := by
    rw [← hN]
    cases hq : Ls.length with
    | zero => simp
    | succ q => simp
  rw [show tChance (D : Int) (Ls.length : Int) (pmax Ls Ls.length : Int) = (min (N : Int) (cnt D : Int), (cnt D : Int), 0) by
    rw [tChance, if_neg (by omega), hNi]; simp] at c27
  have c28 := Count_calls (D : Int)
  rw [show tCount (D : Int) = (cnt D, 0) by rw [tCount, if_neg (by omega)]; simp] at c28
  rw [hN] at hlaw
  generalize (irrFrom D 0).countP (fun p => (tColl p Ls).2.2) = bad at *
  generalize cnt D = C at *
  have hle : (bad : Int) ≤ min (N : Int) (C : Int) := by omega
  have hge : (0 : Int) ≤ (bad : Int) := by omega
  have hmc : ¬ (C : Int) < min (N : Int) (C : Int) := by omega
  generalize min (N : Int) (C : Int) = M at *
  dsimp only at c26 c27 c28
  have HL := Lib.hid hl
  have HLEN := Lib.hid hlen
  have HPM := Lib.hid hpm
  have HN := Lib.hid hbd.1
  clear hfew hs hn hl hlen hmany hbd hpm h256 hlaw hN hNi hpmn
  go_enter Try.func4, Try.ntmps4
  go_wp2_with (first
    | (go_at_call 14; refine (sane_calls _).mono ?_; rintro e w1 ⟨rfl, hb⟩; replace hB := hB.trans (hb.mono hB.size); clear hb)
    | (go_at_call 25; refine (c25 _ hB).mono ?_; rintro e w1 ⟨rfl, rfl⟩))
  have hn40 : Ls.length ≤ 8 := HN.out
  clear c25
  have HL2 := Lib.hid (HL.out.below hB)
  go_loop [5, 30] (fun vm vi => ∃ k : Nat, vi = I k ∧ k ≤ Ls.length ∧ vm = I (pmax Ls k)) (fun _ vi => Ls.length - (intOf vi).toNat)
  case atStart => exact ⟨0, rfl, Nat.zero_le _, rfl⟩
  case round =>
    obtain ⟨k, rfl, hk, rfl⟩ := hrel
    by_cases hkn : k < Ls.length
    · obtain ⟨b, off, rfl, hcs⟩ : ∃ b off, a = some ⟨b, off, none⟩ ∧ ∀ i, i < Ls.length → ∃ x c, w1.cell? ⟨b, off + i, none⟩ = some (.slice x (Ls.getD i []).length c) ∧ BytesAt w1 x (Ls.getD i []) := by
        rcases HL2.out with h | h
        · rw [h] at hkn; simp at hkn
        · exact h
      obtain ⟨x, c, hcell, _⟩ := hcs k hkn
      obtain ⟨t, hte⟩ : ∃ t, (Ls.getD k []).length = t := ⟨_, rfl⟩
      rw [hte] at hcell
      have hmx : ∀ w, (Builtin.max_ #[3, 3] 3 #[.int .i64 (pmax Ls k : Int), .int .i64 (t : Int)]).run Try.prog w = .ok (.int .i64 (pmax Ls (k + 1) : Int)) w := fun w => by
        rw [run_max_int2, pmax, hte, show (if (t : Int) > (pmax Ls k : Int) then (t : Int) else (pmax Ls k : Int)) = ((max (pmax Ls k) t : Nat) : Int) by split <;> omega]
      have hin : (k : Int) < (Ls.length : Int) := by omega
      clear hcs hte c26 c27 c28
      go_wp2
      go_round
      case rel => exact ⟨k + 1, by go_num, by omega, rfl⟩
      case measure => simp [intOf]; omega
    · obtain rfl : k = Ls.length := by omega
      go_wp2_with (first
        | (go_at_call 26; refine (c26 _ hB).mono ?_; rintro e w2 ⟨rfl, hb⟩; replace hB := hB.trans (hb.mono hB.size); clear hb)
        | (go_at_call 27; refine (c27 _).mono ?_; rintro e w2 ⟨rfl, hb⟩; replace hB := hB.trans (hb.mono hB.size); clear hb)
        | (go_at_call 28; refine (c28 _).mono ?_; rintro e w2 ⟨rfl, hb⟩; replace hB := hB.trans (hb.mono hB.size); clear hb))
      go_ret
      exact ⟨by simp, hB⟩
end Go.Proofs.Ytjgfcnhnlaobcaa
