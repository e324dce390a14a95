/- Which texts collide first: what the program's search by a table finds. -/
import Derived.Test.YtjgfcnhnlaobcaaWt
namespace Go.Proofs.Ytjgfcnhnlaobcaa

/-- No two texts ahead of n collide. -/
def NoColl (Ls : List (List Nat)) (fps : List Nat) (n : Nat) : Prop := ∀ b, b < n → ∀ a, a < b → fps.getD a 0 = fps.getD b 0 → Ls.getD a [] = Ls.getD b []
/-- What a search for the first collision may say. -/
def CollSpec (Ls : List (List Nat)) (fps : List Nat) (n : Nat) (r : Nat × Nat × Bool) : Prop :=
  (r = (0, 0, false) ∧ NoColl Ls fps n) ∨
  ∃ i k, r = (i, k, true) ∧ k < n ∧ i < k ∧ NoColl Ls fps k ∧ fps.getD i 0 = fps.getD k 0 ∧ Ls.getD i [] ≠ Ls.getD k [] ∧ ∀ m, m < i → fps.getD m 0 ≠ fps.getD k 0

theorem NoColl.succ {Ls : List (List Nat)} {fps : List Nat} {k : Nat} (h : NoColl Ls fps k) (hk : ∀ a, a < k → fps.getD a 0 = fps.getD k 0 → Ls.getD a [] = Ls.getD k []) : NoColl Ls fps (k + 1) := by
  intro b hb a ha e
  rcases Nat.lt_or_ge b k with h1 | h1
  · exact h b h1 a ha e
  · obtain rfl : b = k := by omega
    exact hk a ha e

theorem take_get {fps : List Nat} {k a : Nat} (hk : k ≤ fps.length) (ha : a < k) : (fps.take k)[a]? = some (fps.getD a 0) := by
  rw [List.getElem?_take, if_pos ha, List.getElem?_eq_getElem (by omega)]
  simp [show a < fps.length by omega]

theorem collAt_spec (Ls : List (List Nat)) (fps : List Nat) : ∀ g k, g + k = fps.length → NoColl Ls fps k → CollSpec Ls fps fps.length (collAt Ls fps g k)
  | 0, k, hg, h => by
    obtain rfl : k = fps.length := by omega
    exact .inl ⟨rfl, h⟩
  | g + 1, k, hg, h => by
    rw [collAt]
    split
    · rename_i hf
      refine collAt_spec Ls fps g (k + 1) (by omega) (h.succ fun a ha e => ?_)
      have h1 := List.findIdx?_eq_none_iff.1 hf (fps.getD a 0) (List.mem_of_getElem? (take_get (by omega) ha))
      simp at h1
      exact absurd e h1
    · rename_i i hf
      obtain ⟨hi, h1, h2⟩ := List.findIdx?_eq_some_iff_getElem.1 hf
      have hik : i < k := by
        have : i < min k fps.length := by simpa using hi
        omega
      have gi : ∀ j (hj : j < (fps.take k).length), (fps.take k)[j] = fps.getD j 0 := fun j hj => by
        have hjk : j < k := by
          have : j < min k fps.length := by simpa using hj
          omega
        have := take_get (fps := fps) (by omega) hjk
        rw [List.getElem?_eq_getElem hj] at this
        exact Option.some.inj this
      rw [gi i hi] at h1
      have hfi : fps.getD i 0 = fps.getD k 0 := by simpa using h1
      split
      · rename_i hL
        refine collAt_spec Ls fps g (k + 1) (by omega) (h.succ fun a ha e => ?_)
        rcases Nat.lt_trichotomy a i with h3 | h3 | h3
        · have h4 := h2 a h3
          rw [gi a (by simp; omega)] at h4
          simp at h4
          exact absurd e h4
        · rw [h3]; exact hL
        · have := h a ha i h3 (by rw [hfi, e])
          rw [← this]; exact hL
      · rename_i hL
        refine .inr ⟨i, k, rfl, by omega, hik, h, hfi, hL, fun m hm => ?_⟩
        have h4 := h2 m hm
        rw [gi m (by simp; omega)] at h4
        simpa using h4

theorem tColl_spec (p : Nat) (Ls : List (List Nat)) : CollSpec Ls (Ls.map (Gf2.onBytes p 1)) Ls.length (tColl p Ls) := by
  have := collAt_spec Ls (Ls.map (Gf2.onBytes p 1)) Ls.length 0 (by simp) (fun b hb => absurd hb (by omega))
  rwa [List.length_map] at this

/-- Where a first collision is found by two counters, it is the one that is told. -/
theorem CollSpec.here {Ls : List (List Nat)} {fps : List Nat} {N n m : Nat} {r : Nat × Nat × Bool} (h : CollSpec Ls fps N r) (hn : n < N) (hm : m < n) (h1 : NoColl Ls fps n)
    (h2 : ∀ a, a < m → fps.getD a 0 = fps.getD n 0 → Ls.getD a [] = Ls.getD n []) (he : fps.getD m 0 = fps.getD n 0) (hne : Ls.getD m [] ≠ Ls.getD n []) : r = (m, n, true) := by
  rcases h with ⟨_, h⟩ | ⟨i, k, rfl, hk, hik, h3, h4, h5, h6⟩
  · exact absurd (h n hn m hm he) hne
  · obtain rfl : k = n := by
      rcases Nat.lt_trichotomy k n with h7 | h7 | h7
      · exact absurd (h1 k h7 i hik h4) h5
      · exact h7
      · exact absurd (h3 n h7 m hm he) hne
    obtain rfl : i = m := by
      rcases Nat.lt_trichotomy i m with h7 | h7 | h7
      · exact absurd (h2 i h7 h4) h5
      · exact h7
      · exact absurd he (h6 m h7)
    rfl
theorem CollSpec.nowhere {Ls : List (List Nat)} {fps : List Nat} {N : Nat} {r : Nat × Nat × Bool} (h : CollSpec Ls fps N r) (h1 : NoColl Ls fps N) : r = (0, 0, false) := by
  rcases h with ⟨h, _⟩ | ⟨i, k, rfl, hk, hik, _, h4, h5, _⟩
  · exact h
  · exact absurd (h1 k hk i hik h4) h5
end Go.Proofs.Ytjgfcnhnlaobcaa
