/- The factors that two polynomials have in common. -/
import Derived.Test.YtjgfcnhnlaobcaaFr
import Derived.Test.YtjgfcnhnlaobcaaPoly6
namespace Go.Proofs.Ytjgfcnhnlaobcaa
open Gf2 (len Irr prodL)

theorem gcd_of_parts {c a b : Nat} (hc : c ≠ 0) (hab : Gf2.gcd a b = 1) : Gf2.gcd (Gf2.mul c a) (Gf2.mul c b) = c := by
  obtain ⟨g, hg⟩ : ∃ g, Gf2.gcd (Gf2.mul c a) (Gf2.mul c b) = g := ⟨_, rfl⟩
  have h1 := Gf2.gcd_dvd_left (Gf2.mul c a) (Gf2.mul c b)
  have h2 := Gf2.gcd_dvd_right (Gf2.mul c a) (Gf2.mul c b)
  have h3 : Gf2.Dvd c (Gf2.gcd (Gf2.mul c a) (Gf2.mul c b)) := Gf2.dvd_gcd (Gf2.dvd_mul_right c a) (Gf2.dvd_mul_right c b)
  rw [hg] at h1 h2 h3 ⊢
  obtain ⟨e, rfl⟩ := h3
  have hd : ∀ x, Gf2.Dvd (Gf2.mul e c) (Gf2.mul c x) → Gf2.Dvd e x := fun x ⟨k, hk⟩ => ⟨k, by
    rw [Gf2.mul_comm c x, ← Gf2.mul_assoc] at hk
    exact Gf2.mul_right_cancel hc hk⟩
  have h4 := Gf2.dvd_gcd (hd a h1) (hd b h2)
  rw [hab] at h4
  rw [Gf2.dvd_one h4, Gf2.one_mul]
theorem coprime_lists {M K : List Nat} (hM : ∀ x ∈ M, Irr x) (hK : ∀ x ∈ K, Irr x) (h : ∀ x ∈ M, x ∉ K) : Gf2.gcd (prodL M) (prodL K) = 1 := by
  obtain ⟨g, hg⟩ : ∃ g, Gf2.gcd (prodL M) (prodL K) = g := ⟨_, rfl⟩
  have h1 := Gf2.gcd_dvd_left (prodL M) (prodL K)
  have h2 := Gf2.gcd_dvd_right (prodL M) (prodL K)
  rw [hg] at h1 h2 ⊢
  have h0 : g ≠ 0 := fun e => by
    rw [e] at h1
    exact Gf2.prodL_ne_zero hM (Gf2.dvd_of_zero_left h1)
  refine Classical.byContradiction fun hne => ?_
  have hl : len g ≠ 1 := fun e => hne (Gf2.len_eq_one.1 e)
  have := Gf2.len_pos h0
  obtain ⟨x, hx, hxg⟩ := Gf2.exists_irr (len g) g (Nat.le_refl _) (by omega)
  exact h x (Gf2.irr_mem_of_dvd hx hM (Gf2.dvd_trans hxg h1)) (Gf2.irr_mem_of_dvd hx hK (Gf2.dvd_trans hxg h2))

/-- Behind j factors of l: C are in both, K is left of the other's. -/
structure Comm (l k : List Nat) (j : Nat) (C K : List Nat) : Prop where
  parts : ∃ M : List Nat, (l.take j).Perm (C ++ M) ∧ ∀ x ∈ M, x ∉ K
  rest : k.Perm (C ++ K)
theorem Comm.start (l k : List Nat) : Comm l k 0 [] k := ⟨⟨[], by simp, fun x hx => by simp at hx⟩, List.Perm.refl _⟩
theorem Comm.miss {l k C K : List Nat} {j x : Nat} (h : Comm l k j C K) (hx : l[j]? = some x) (hn : x ∉ K) : Comm l k (j + 1) C K := by
  obtain ⟨M, h1, h2⟩ := h.parts
  refine ⟨⟨M ++ [x], ?_, fun y hy => ?_⟩, h.rest⟩
  · rw [List.take_add_one, hx, ← List.append_assoc]
    exact h1.append_right _
  · rcases List.mem_append.1 hy with hy | hy
    · exact h2 y hy
    · rw [List.mem_singleton.1 hy]; exact hn
theorem take_drop_perm {K : List Nat} {i x : Nat} (h : K[i]? = some x) : K.Perm (x :: (K.take i ++ K.drop (i + 1))) := by
  obtain ⟨hi, he⟩ := List.getElem?_eq_some_iff.1 h
  have h1 : K = K.take i ++ x :: K.drop (i + 1) := by
    conv => lhs; rw [← List.take_append_drop i K, List.drop_eq_getElem_cons hi, he]
  conv => lhs; rw [h1]
  exact List.perm_middle
theorem Comm.hit {l k C K : List Nat} {j i x : Nat} (h : Comm l k j C K) (hx : l[j]? = some x) (hi : K[i]? = some x) : Comm l k (j + 1) (C ++ [x]) (K.take i ++ K.drop (i + 1)) := by
  obtain ⟨M, h1, h2⟩ := h.parts
  have hp := take_drop_perm hi
  refine ⟨⟨M, ?_, fun y hy hy2 => h2 y hy (hp.mem_iff.2 (List.mem_cons_of_mem _ hy2))⟩, ?_⟩
  · rw [List.take_add_one, hx, List.append_assoc]
    refine (h1.append_right _).trans ?_
    rw [List.append_assoc]
    exact List.Perm.append_left C List.perm_append_comm
  · rw [List.append_assoc]
    exact h.rest.trans (List.Perm.append_left C hp)
theorem Comm.done {p q : Nat} (hp0 : p ≠ 0) (hp : p < 2 ^ 64) (hq0 : q ≠ 0) (hq : q < 2 ^ 64) {C K : List Nat} (h : Comm (facL p) (facL q) (facL p).length C K) : Gf2.gcd p q = prodL C := by
  obtain ⟨M, h1, h2⟩ := h.parts
  rw [List.take_length] at h1
  have i1 : ∀ x ∈ C ++ M, Irr x := fun x hx => facL_irr hp0 hp x (h1.mem_iff.2 hx)
  have i2 : ∀ x ∈ C ++ K, Irr x := fun x hx => facL_irr hq0 hq x (h.rest.mem_iff.2 hx)
  have e1 : p = Gf2.mul (prodL C) (prodL M) := by rw [← Gf2.prodL_append, ← Gf2.prodL_perm h1, facL_prod hp0 hp]
  have e2 : q = Gf2.mul (prodL C) (prodL K) := by rw [← Gf2.prodL_append, ← Gf2.prodL_perm h.rest, facL_prod hq0 hq]
  have iC : ∀ x ∈ C, Irr x := fun x hx => i1 x (by simp [hx])
  have iM : ∀ x ∈ M, Irr x := fun x hx => i1 x (by simp [hx])
  have iK : ∀ x ∈ K, Irr x := fun x hx => i2 x (by simp [hx])
  rw [e1, e2]
  exact gcd_of_parts (Gf2.prodL_ne_zero iC) (coprime_lists iM iK h2)
/-- The product of some factors and one more fits. -/
theorem fits_of {p x : Nat} {C R : List Nat} (hp0 : p ≠ 0) (hp : p < 2 ^ 64) (h : (facL p).Perm (C ++ [x] ++ R)) : prodL C ≠ 0 ∧ prodL C < 2 ^ 64 ∧ x ≠ 0 ∧ x < 2 ^ 64 ∧ Irr x ∧ len (prodL C) + len x ≤ 65 ∧ Gf2.mul (prodL C) x = prodL (C ++ [x]) ∧ prodL (C ++ [x]) ≠ 0 := by
  have i1 : ∀ y ∈ C ++ [x] ++ R, Irr y := fun y hy => facL_irr hp0 hp y (h.mem_iff.2 hy)
  have iC : ∀ y ∈ C, Irr y := fun y hy => i1 y (by simp [hy])
  have iR : ∀ y ∈ R, Irr y := fun y hy => i1 y (by simp [hy])
  have ix : Irr x := i1 x (by simp)
  have e1 : p = Gf2.mul (prodL (C ++ [x])) (prodL R) := by rw [← Gf2.prodL_append, ← Gf2.prodL_perm h, facL_prod hp0 hp]
  have e2 : Gf2.mul (prodL C) x = prodL (C ++ [x]) := by rw [Gf2.prodL_append, Gf2.prodL_cons, show prodL [] = 1 by rfl, Gf2.mul_one]
  have c0 := Gf2.prodL_ne_zero iC
  have r0 := Gf2.prodL_ne_zero iR
  have x0 := ix.ne_zero
  have m0 : prodL (C ++ [x]) ≠ 0 := by rw [← e2]; exact Gf2.mul_ne_zero c0 x0
  have l1 := Gf2.len_mul m0 r0
  rw [← e1] at l1
  have l2 := Gf2.len_mul c0 x0
  rw [e2] at l2
  have := Gf2.len_pos r0
  have := Gf2.len_pos x0
  have := Gf2.len_pos c0
  have := len_le_64 hp
  exact ⟨c0, lt_of_len (by omega), x0, lt_of_len (by omega), ix, by omega, e2, m0⟩
theorem Comm.fits {p : Nat} {k C K : List Nat} {j x : Nat} (hp0 : p ≠ 0) (hp : p < 2 ^ 64) (h : Comm (facL p) k j C K) (hx : (facL p)[j]? = some x) :
    prodL C ≠ 0 ∧ prodL C < 2 ^ 64 ∧ x ≠ 0 ∧ x < 2 ^ 64 ∧ Irr x ∧ len (prodL C) + len x ≤ 65 ∧ Gf2.mul (prodL C) x = prodL (C ++ [x]) ∧ prodL (C ++ [x]) ≠ 0 := by
  obtain ⟨M, h1, -⟩ := h.parts
  refine fits_of (R := M ++ (facL p).drop (j + 1)) hp0 hp ?_
  have e : facL p = (facL p).take j ++ ([x] ++ (facL p).drop (j + 1)) := by
    obtain ⟨hi, he⟩ := List.getElem?_eq_some_iff.1 hx
    conv => lhs; rw [← List.take_append_drop j (facL p), List.drop_eq_getElem_cons hi, he]
    rfl
  conv => lhs; rw [e]
  refine (h1.append_right _).trans ?_
  simp only [List.append_assoc]
  refine List.Perm.append_left C ?_
  rw [← List.append_assoc, ← List.append_assoc [x]]
  exact List.perm_append_comm.append_right _
/-- The first j factors. -/
theorem take_fits {p j x : Nat} (hp0 : p ≠ 0) (hp : p < 2 ^ 64) (hx : (facL p)[j]? = some x) :
    prodL ((facL p).take j) ≠ 0 ∧ prodL ((facL p).take j) < 2 ^ 64 ∧ x ≠ 0 ∧ x < 2 ^ 64 ∧ Irr x ∧ len (prodL ((facL p).take j)) + len x ≤ 65 ∧ Gf2.mul (prodL ((facL p).take j)) x = prodL ((facL p).take (j + 1)) := by
  have e : facL p = (facL p).take j ++ [x] ++ (facL p).drop (j + 1) := by
    obtain ⟨hi, he⟩ := List.getElem?_eq_some_iff.1 hx
    conv => lhs; rw [← List.take_append_drop j (facL p), List.drop_eq_getElem_cons hi, he]
    simp
  obtain ⟨a1, a2, a3, a4, a5, a6, a7, -⟩ := fits_of hp0 hp (List.Perm.of_eq e)
  exact ⟨a1, a2, a3, a4, a5, a6, by rw [a7, List.take_add_one, hx]; rfl⟩
theorem irrB_one {p : Nat} (hp0 : p ≠ 0) (hp : p < 2 ^ 64) : Gf2.irrB p = decide ((facL p).length = 1) := by
  refine Gf2.irrB_eq ⟨fun h => ?_, fun h => ?_⟩
  · have := facL_unique hp0 hp (l := [p]) (fun x hx => by rw [List.mem_singleton.1 hx]; exact h) (by rw [Gf2.prodL_cons]; exact Gf2.mul_one p)
    rw [← this, asc_length]
    rfl
  · have h1 : (facL p).length = 1 := by simpa using h
    obtain ⟨x, hx⟩ := List.length_eq_one_iff.1 h1
    have h2 := facL_prod hp0 hp
    rw [hx, Gf2.prodL_cons, show prodL [] = 1 by rfl, Gf2.mul_one] at h2
    have := facL_irr hp0 hp x (by rw [hx]; simp)
    rwa [← h2]
theorem sorted_at {p j : Nat} (h : j < (facL p).length) (h0 : 0 < j) : (facL p)[j - 1] ≤ (facL p)[j] :=
  (List.pairwise_iff_getElem.1 (facL_sorted p)) (j - 1) j (by omega) h (by omega)
end Go.Proofs.Ytjgfcnhnlaobcaa
