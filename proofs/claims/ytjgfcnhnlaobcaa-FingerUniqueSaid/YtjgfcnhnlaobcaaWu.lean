/- Walks: Colliding, Bad, Chance. -/
import Derived.Test.YtjgfcnhnlaobcaaWt
namespace Go.Proofs.Ytjgfcnhnlaobcaa
open Go.RowKit Go.Shelf
attribute [local go_sem] Oper.semAt_some

theorem results_tmp4 {fn : Func} {t u v x : Tmp} (h : fn.results = #[.tmp t, .tmp u, .tmp v, .tmp x]) (tmps : Array Value) (P : Program) (w : World) :
    (results fn tmps).run P w = .ok (.tuple #[tmps.getD t undef, tmps.getD u undef, tmps.getD v undef, tmps.getD x undef]) w := by
  simp only [results, h]
  simp

def tColliding (p : Nat) (Ls : List (List Nat)) : Nat × Nat × Bool × Int := if Gf2.len p < 5 then (0, 0, false, 200) else if tMany Ls then (0, 0, false, 2) else ((tColl p Ls).1, (tColl p Ls).2.1, (tColl p Ls).2.2, 0)

set_option maxHeartbeats 800000 in
theorem Colliding_calls (p : Nat) (a : Option Addr) (cap : Nat) (Ls : List (List Nat)) (hp : p < 2 ^ 64) (hn : Ls.length < 2 ^ 40) (hs : ∀ l ∈ Ls, l.length < 2 ^ 60) (w : World) (hl : TextsAt w a Ls) :
    Calls Try.prog 36 #[U p, .slice a Ls.length cap] w fun e w' => e = .returned (.tuple #[I (tColliding p Ls).1, I (tColliding p Ls).2.1, .bool (tColliding p Ls).2.2.1, I (tColliding p Ls).2.2.2]) ∧ Below w.heap.size w w' := by
  have hc := isPoly_calls p hp w
  by_cases h5 : Gf2.len p < 5
  · have hd : decide (5 ≤ Gf2.len p) = false := by simp; omega
    rw [hd] at hc
    rw [tColliding, if_pos h5]
    clear hd hl hs
    go_enter Try.func36, Try.ntmps36
    go_wp2_with (go_at_call 56; refine hc.mono ?_; rintro e w' ⟨rfl, rfl⟩)
    refine bodyPost_ret (results_tmp4 rfl _ _ _) rfl ?_
    exact ⟨rfl, Below.refl _ _⟩
  have hd : decide (5 ≤ Gf2.len p) = true := by simp; omega
  rw [hd] at hc
  rw [tColliding, if_neg h5]
  have hm := tooMany_calls a cap Ls (by omega) w hl
  by_cases ht : tMany Ls = true
  · rw [if_pos ht]
    rw [ht] at hm
    clear hd hl hs ht
    go_enter Try.func36, Try.ntmps36
    go_wp2_with (first | (go_at_call 56; refine hc.mono ?_; rintro e w' ⟨rfl, rfl⟩) | (go_at_call 69; refine hm.mono ?_; rintro e w' ⟨rfl, rfl⟩))
    refine bodyPost_ret (results_tmp4 rfl _ _ _) rfl ?_
    exact ⟨rfl, Below.refl _ _⟩
  · rw [if_neg ht]
    have ht' : tMany Ls = false := by simpa using ht
    rw [ht'] at hm
    have hcc := colliding_calls p (Gf2.len p - 1) a cap Ls (by omega) (by omega) hp hn hs w hl
    generalize tColl p Ls = r at *
    obtain ⟨r1, r2, r3⟩ := r
    dsimp only at hcc ⊢
    clear hd hl hs ht ht'
    go_enter Try.func36, Try.ntmps36
    go_wp2_with (first | (go_at_call 56; refine hc.mono ?_; rintro e w' ⟨rfl, rfl⟩) | (go_at_call 69; refine hm.mono ?_; rintro e w' ⟨rfl, rfl⟩) | (go_at_call 71; refine hcc.mono ?_; rintro e w' ⟨rfl, hb⟩))
    refine bodyPost_ret (results_tmp4 rfl _ _ _) rfl ?_
    exact ⟨rfl, hb⟩

def tChance (d m b : Int) : Int × Int × Int := if d < 4 ∨ 63 < d ∨ m < 0 ∨ 20000 < m ∨ b < 0 ∨ 100000 < b then (0, 0, 1) else (min (m * (m - 1) / 2 * (8 * b / d)) (cnt d.toNat), cnt d.toNat, 0)

theorem chance_wrap {m b : Int} {n : Nat} (h0 : 0 ≤ m) (h1 : m ≤ 20000) (h2 : 0 ≤ b) (h3 : b ≤ 100000) (h4 : 4 ≤ n) :
    wrap64 (wrap64 ((wrap64 (m * (m - 1))).tdiv 2) * (8 * b / (n : Int))) = m * (m - 1) / 2 * (8 * b / (n : Int)) := by
  have hx0 : 0 ≤ m * (m - 1) := by
    rcases Int.lt_or_le 0 m with h | h
    · exact Int.mul_nonneg h0 (by omega)
    · obtain rfl : m = 0 := by omega
      simp
  have hx1 : m * (m - 1) ≤ 400000000 := by
    have h5 : m * (m - 1) ≤ m * 20000 := Int.mul_le_mul_of_nonneg_left (by omega) h0
    omega
  generalize m * (m - 1) = x at *
  have e1 : wrap64 x = x := by unfold wrap64; omega
  rw [e1, Int.tdiv_eq_ediv_of_nonneg hx0]
  have e2 : wrap64 (x / 2) = x / 2 := by unfold wrap64; omega
  rw [e2]
  have hy0 : 0 ≤ 8 * b / (n : Int) := Int.ediv_nonneg (by omega) (by omega)
  have hy1 : 8 * b / (n : Int) ≤ 800000 := Int.le_trans (Int.ediv_le_self _ (by omega)) (by omega)
  generalize 8 * b / (n : Int) = y at *
  have hz0 : 0 ≤ x / 2 * y := Int.mul_nonneg (by omega) hy0
  have hz1 : x / 2 * y ≤ x / 2 * 800000 := Int.mul_le_mul_of_nonneg_left hy1 (by omega)
  generalize x / 2 * y = z at *
  unfold wrap64; omega

set_option maxHeartbeats 800000 in
theorem Chance_calls (d m b : Int) (w : World) :
    Calls Try.prog 27 #[I d, I m, I b] w fun e w' => e = .returned (.tuple #[I (tChance d m b).1, I (tChance d m b).2.1, I (tChance d m b).2.2]) ∧ Below w.heap.size w w' := by
  have hdg := isDegree_calls d
  by_cases h1 : d < 4
  · rw [tChance, if_pos (.inl h1)]
    go_enter Try.func27, Try.ntmps27
    go_wp2
    go_ret3
    exact ⟨rfl, Below.refl _ _⟩
  by_cases h2 : 63 < d
  · rw [tChance, if_pos (.inr (.inl h2))]
    have hb : (decide (1 ≤ d) && decide (d ≤ 63)) = false := by rw [show decide (d ≤ 63) = false by simp; omega]; simp
    rw [hb] at hdg
    go_enter Try.func27, Try.ntmps27
    go_wp2_with (go_at_call 72; refine (hdg _).mono ?_; rintro e w1 ⟨rfl, rfl⟩)
    go_ret3
    exact ⟨rfl, Below.refl _ _⟩
  have hb : (decide (1 ≤ d) && decide (d ≤ 63)) = true := by simp; omega
  rw [hb] at hdg
  by_cases h3 : m < 0
  · rw [tChance, if_pos (.inr (.inr (.inl h3)))]
    go_enter Try.func27, Try.ntmps27
    go_wp2_with (go_at_call 72; refine (hdg _).mono ?_; rintro e w1 ⟨rfl, rfl⟩)
    go_ret3
    exact ⟨rfl, Below.refl _ _⟩
  by_cases h4 : 20000 < m
  · rw [tChance, if_pos (.inr (.inr (.inr (.inl h4))))]
    go_enter Try.func27, Try.ntmps27
    go_wp2_with (go_at_call 72; refine (hdg _).mono ?_; rintro e w1 ⟨rfl, rfl⟩)
    go_ret3
    exact ⟨rfl, Below.refl _ _⟩
  by_cases h5 : b < 0
  · rw [tChance, if_pos (.inr (.inr (.inr (.inr (.inl h5)))))]
    go_enter Try.func27, Try.ntmps27
    go_wp2_with (go_at_call 72; refine (hdg _).mono ?_; rintro e w1 ⟨rfl, rfl⟩)
    go_ret3
    exact ⟨rfl, Below.refl _ _⟩
  by_cases h6 : 100000 < b
  · rw [tChance, if_pos (.inr (.inr (.inr (.inr (.inr h6)))))]
    go_enter Try.func27, Try.ntmps27
    go_wp2_with (go_at_call 72; refine (hdg _).mono ?_; rintro e w1 ⟨rfl, rfl⟩)
    go_ret3
    exact ⟨rfl, Below.refl _ _⟩
  rw [tChance, if_neg (by omega)]
  obtain ⟨n, rfl⟩ : ∃ n : Nat, d = n := ⟨d.toNat, by omega⟩
  rw [Int.toNat_natCast]
  have hcc := count_calls n (by omega) (by omega)
  have hclt : cnt n < 2 ^ 63 := cnt_lt ⟨n, by omega⟩
  generalize cnt n = c at *
  clear hb
  have HW := Lib.hid (chance_wrap (m := m) (b := b) (n := n) (by omega) (by omega) (by omega) (by omega) (by omega))
  go_enter Try.func27, Try.ntmps27
  go_wp2_with (first | (go_at_call 72; refine (hdg _).mono ?_; rintro e w1 ⟨rfl, rfl⟩) | (go_at_call 73; refine (hcc _).mono ?_; rintro e w1 ⟨rfl, hbw⟩))
  go_ret3
  exact ⟨by rw [← HW.out]; rfl, hbw⟩

def tBad (d : Int) (Ls : List (List Nat)) : Nat × Int := if d < 4 ∨ 16 < d then (0, 1) else if tMany Ls then (0, 2) else ((irrFrom d.toNat 0).countP (fun p => (tColl p Ls).2.2), 0)
end Go.Proofs.Ytjgfcnhnlaobcaa
