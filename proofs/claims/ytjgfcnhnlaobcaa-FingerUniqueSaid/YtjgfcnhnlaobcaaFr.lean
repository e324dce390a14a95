/- What the program reckons as factors are the irreducible factors. Walk: Factors of the program, sorted. Walks: derived and root of the reference. Walk: split of the reference. Walk: the factors that the reference finds. Walk: Factors of the reference, sorted. -/
import Derived.Test.YtjgfcnhnlaobcaaWy
import Derived.Test.YtjgfcnhnlaobcaaPolyC
import Derived.Test.YtjgfcnhnlaobcaaSrt2
import Derived.Maps.AppendAt
import Derived.Test.YtjgfcnhnlaobcaaWm
import Derived.Laws.OwnMore
namespace Go.Proofs.Ytjgfcnhnlaobcaa
open Gf2 (len Irr prodL)

theorem tz_prod : ∀ (f p : Nat), p ≠ 0 → len p ≤ f → p = 2 ^ (tz f p).1 * (tz f p).2 ∧ (tz f p).2 % 2 = 1
  | 0, p, h, hl => absurd (Gf2.len_eq_zero.1 (Nat.le_zero.1 hl)) h
  | f + 1, p, h, hl => by
    rw [tz]
    split
    · next he =>
      have h2 : p = 2 * (p / 2) := by omega
      have h3 : p / 2 ≠ 0 := by omega
      have hl2 := Gf2.len_two_mul h3
      rw [← h2] at hl2
      obtain ⟨h4, h5⟩ := tz_prod f (p / 2) h3 (by omega)
      refine ⟨?_, h5⟩
      show p = 2 ^ ((tz f (p / 2)).1 + 1) * (tz f (p / 2)).2
      rw [Nat.pow_succ, Nat.mul_comm _ 2, Nat.mul_assoc, ← h4]
      exact h2
    · exact ⟨by simp, by simpa using (by omega : p % 2 = 1)⟩
theorem prodL_twos : ∀ k, prodL (List.replicate k 2) = 2 ^ k
  | 0 => rfl
  | k + 1 => by rw [List.replicate_succ, Gf2.prodL_cons, prodL_twos k, Gf2.mul_two_pow, Nat.pow_succ]

theorem rootN_sq (A : Nat) : ∀ k, rootN k (Gf2.sq A) = A % 2 ^ k
  | 0 => by simp [rootN, Nat.mod_one]
  | k + 1 => by
    have e : Gf2.sq A / 2 ^ (2 * k) % 2 = A / 2 ^ k % 2 := by
      have h1 := Gf2.div_mod_testBit (Gf2.sq A) (2 * k)
      have h2 := Gf2.div_mod_testBit A k
      rw [Gf2.sq_testBit] at h1
      have h3 := h1.trans h2.symm
      omega
    rw [rootN, rootN_sq A k, e, Nat.mod_pow_succ, Nat.or_comm, Nat.add_comm, Nat.two_pow_add_eq_or_of_lt (Nat.mod_lt _ (Nat.two_pow_pos k))]
theorem slope_der {q : Nat} (hq : q < 2 ^ 64) : slope q = Gf2.der q := by
  have h := Gf2.and_msk 32 q (by simpa using hq)
  have hm : Gf2.msk 32 = 12297829382473034410 := by decide
  rw [hm] at h
  exact h

theorem spIn_spec {p i : Nat} {R F : Nat → Nat} (hp : p ≠ 0) (h : Gf2.Ech p i R F) : ∀ (f row own : Nat), Gf2.sqx p own = row → own % 2 = 0 → (own ^^^ 2 ^ i) < 2 ^ i → len row ≤ f →
    ((spIn f ⟨R, F, row, own⟩).row = 0 ∧ Gf2.sqx p (spIn f ⟨R, F, row, own⟩).own = 0 ∧ (spIn f ⟨R, F, row, own⟩).own % 2 = 0 ∧ ((spIn f ⟨R, F, row, own⟩).own ^^^ 2 ^ i) < 2 ^ i) ∨
    ((spIn f ⟨R, F, row, own⟩).row ≠ 0 ∧ Gf2.Ech p (i + 1) (spIn f ⟨R, F, row, own⟩).R (spIn f ⟨R, F, row, own⟩).F)
  | 0, row, own, h1, h2, h3, h4 => by
    have h0 : row = 0 := Gf2.len_eq_zero.1 (Nat.le_zero.1 h4)
    exact .inl ⟨h0, h1.trans h0, h2, h3⟩
  | f + 1, row, own, h1, h2, h3, h4 => by
    rw [spIn]
    by_cases h0 : row = 0
    · rw [if_pos h0]
      exact .inl ⟨h0, h1.trans h0, h2, h3⟩
    · rw [if_neg h0]
      have hk : len row = (len row - 1) + 1 := by have := Gf2.len_pos h0; omega
      by_cases hr : R (len row - 1) = 0
      · rw [if_pos hr]
        exact .inr ⟨h0, h.add hp h1 h2 h3 hk hr⟩
      · rw [if_neg hr]
        obtain ⟨a1, a2, a3, a4⟩ := h.rows _ hr
        refine spIn_spec hp h f _ _ ?_ (Gf2.xor_even h2 a3) ?_ ?_
        · rw [Gf2.sqx_xor hp, h1, a2]
        · have : (own ^^^ F (len row - 1)) ^^^ 2 ^ i = (own ^^^ 2 ^ i) ^^^ F (len row - 1) := by ac_rfl
          rw [this]
          exact Gf2.below_xor h3 a4
        · have := Gf2.len_xor_same (a := row) (b := R (len row - 1)) (by rw [a1]; exact hk) h0
          show len (row ^^^ R (len row - 1)) ≤ f
          omega

theorem spOut_spec {p : Nat} (h2 : 2 ≤ len p) (h64 : len p ≤ 64) : ∀ (g i a : Nat) (R F : Nat → Nat), i + g + 1 = len p → 1 ≤ i → Gf2.Ech p i R F → a = Gf2.pmod (2 ^ (2 * i)) p →
    (spOut g p (Gf2.pmod 4 p) i a R F ≠ 0 → Gf2.sqx p (spOut g p (Gf2.pmod 4 p) i a R F) = 0 ∧ spOut g p (Gf2.pmod 4 p) i a R F ≠ 1 ∧ len (spOut g p (Gf2.pmod 4 p) i a R F) < len p) ∧
    (spOut g p (Gf2.pmod 4 p) i a R F = 0 → ∀ v, len v < len p → Gf2.sqx p v = 0 → v = 0 ∨ v = 1)
  | 0, i, a, R, F, hg, hi, hE, _ => ⟨fun h => absurd rfl h, fun _ v hv h0 => hE.none h2 (by omega) v hv h0⟩
  | g + 1, i, a, R, F, hg, hi, hE, ha => by
    have hp : p ≠ 0 := fun e => by rw [e, Gf2.len_zero] at h2; omega
    have hrow : Gf2.sqx p (2 ^ i) = a ^^^ 2 ^ i := by rw [ha, Gf2.sqx_two_pow]
    have hlen : len (a ^^^ 2 ^ i) < len p := by rw [← hrow]; exact Gf2.sqx_lt hp (by rw [Gf2.len_two_pow]; omega)
    have hev : 2 ^ i % 2 = 0 := by
      obtain ⟨j, rfl⟩ : ∃ j, i = j + 1 := ⟨i - 1, by omega⟩
      rw [Nat.pow_succ]; omega
    have hS := spIn_spec hp hE 64 (a ^^^ 2 ^ i) (2 ^ i) hrow hev (by rw [Nat.xor_self]; exact Nat.two_pow_pos i) (by omega)
    rw [spOut]
    generalize spIn 64 ⟨R, F, a ^^^ 2 ^ i, 2 ^ i⟩ = s at *
    rcases hS with ⟨b1, b2, b3, b4⟩ | ⟨b1, b2⟩
    · have hne : s.own ≠ 0 := fun e => by rw [e, Nat.zero_xor] at b4; omega
      have hc : s.row = 0 ∧ 1 < s.own := ⟨b1, by omega⟩
      simp only [if_pos hc]
      have hlt : s.own < 2 ^ (i + 1) := by
        have h1 : s.own = (s.own ^^^ 2 ^ i) ^^^ 2 ^ i := (Gf2.xor_cancel_right _ _).symm
        rw [h1]
        exact Nat.xor_lt_two_pow (Nat.lt_of_lt_of_le b4 (Nat.pow_le_pow_right (by decide) (by omega))) (Nat.pow_lt_pow_right (by decide) (by omega))
      exact ⟨fun _ => ⟨b2, by omega, Nat.lt_of_le_of_lt (Gf2.len_le_iff.2 hlt) (by omega)⟩, fun e => absurd e hne⟩
    · have hc : ¬ (s.row = 0 ∧ 1 < s.own) := fun e => b1 e.1
      simp only [if_neg hc]
      refine spOut_spec h2 h64 g (i + 1) _ s.R s.F (by omega) (by omega) b2 ?_
      rw [ha, Gf2.mm_mod_left hp, Gf2.mm_mod_right hp, Gf2.mm, show (4 : Nat) = 2 ^ 2 by rfl, Gf2.mul_two_pow, ← Nat.pow_add, show 2 + 2 * i = 2 * (i + 1) by omega]
theorem splitF_spec {p : Nat} (h2 : 2 ≤ len p) (h64 : len p ≤ 64) :
    (splitF p ≠ 0 → Gf2.sqx p (splitF p) = 0 ∧ splitF p ≠ 1 ∧ len (splitF p) < len p) ∧ (splitF p = 0 → ∀ v, len v < len p → Gf2.sqx p v = 0 → v = 0 ∨ v = 1) := by
  have hp : p ≠ 0 := fun e => by rw [e, Gf2.len_zero] at h2; omega
  have h1 : Gf2.pmod 1 p = 1 := Gf2.mod_of_lt (by rw [Gf2.len_one]; omega)
  have hsq : Gf2.mm p (Gf2.xr p) (Gf2.xr p) = Gf2.pmod 4 p := by
    rw [Gf2.xr, Gf2.mm_mod_left hp, Gf2.mm_mod_right hp, Gf2.mm, show Gf2.mul 2 2 = 4 from Gf2.mul_two_pow 2 1]
  obtain ⟨n, hn⟩ : ∃ n, len p - 1 = n + 1 := ⟨len p - 2, by omega⟩
  have he : splitF p = spOut n p (Gf2.pmod 4 p) 1 (Gf2.mm p 1 (Gf2.pmod 4 p)) (fun _ => 0) (fun _ => 0) := by
    rw [splitF, hsq, hn, h1, spOut]
    have hs : spIn 64 ⟨fun _ => 0, fun _ => 0, 1 ^^^ 2 ^ 0, 2 ^ 0⟩ = ⟨fun _ => 0, fun _ => 0, 1 ^^^ 2 ^ 0, 2 ^ 0⟩ := by
      rw [spIn, if_pos (by decide)]
    rw [hs]
    simp only [if_neg (show ¬ ((1 ^^^ 2 ^ 0 : Nat) = 0 ∧ 1 < 2 ^ 0) by decide)]
  rw [he]
  refine spOut_spec h2 h64 n 1 _ _ _ (by omega) (Nat.le_refl _) (Gf2.Ech.start _) ?_
  rw [Gf2.mm_mod_right hp, Gf2.mm, Gf2.one_mul]

theorem fact2_ok {out l m : List Nat} (hl : l ≠ []) (hm : m ≠ []) (h : (out ++ l ++ m).length ≤ 200) : fact2 out (some l) (some m) = some (out ++ l ++ m) := by
  match l, m with
  | x :: l, y :: m => show short _ = _; rw [short, if_pos h]

theorem factF_ok : ∀ (f p : Nat), p ≠ 0 → len p ≤ f → len p ≤ 64 → ∃ l, factF f p = some l ∧ (∀ x ∈ l, Irr x) ∧ prodL l = p
  | 0, p, h, hl, _ => absurd (Gf2.len_eq_zero.1 (Nat.le_zero.1 hl)) h
  | f + 1, p, h, hl, h64 => by
    obtain ⟨hpq, hodd⟩ := tz_prod 64 p h h64
    rw [factF]
    generalize (tz 64 p).1 = z at *
    generalize (tz 64 p).2 = q at *
    have hq0 : q ≠ 0 := by omega
    have hlq : len p = len q + z := by rw [hpq]; exact Gf2.len_two_pow_mul hq0 z
    have hq64 : q < 2 ^ 64 := Gf2.len_le_iff.1 (by omega)
    have hirr2 : ∀ x ∈ List.replicate z 2, Irr x := fun x hx => by rw [(List.mem_replicate.1 hx).2]; exact Gf2.irr_two
    -- two lists whose product is q
    have both : ∀ l m : List Nat, (∀ x ∈ l, Irr x) → (∀ x ∈ m, Irr x) → prodL l ≠ 1 → prodL m ≠ 1 → Gf2.mul (prodL l) (prodL m) = q →
        ∃ r, fact2 (List.replicate z 2) (some l) (some m) = some r ∧ (∀ x ∈ r, Irr x) ∧ prodL r = p := fun l m hl' hm' h1 h2 h3 => by
      have hall : ∀ x ∈ List.replicate z 2 ++ l ++ m, Irr x := fun x hx => by
        simp only [List.mem_append] at hx
        rcases hx with (hx | hx) | hx
        · exact hirr2 x hx
        · exact hl' x hx
        · exact hm' x hx
      have hpr : prodL (List.replicate z 2 ++ l ++ m) = p := by
        rw [Gf2.prodL_append, Gf2.prodL_append, Gf2.mul_assoc, h3, prodL_twos, Gf2.mul_comm, Gf2.mul_two_pow, ← hpq]
      have hlen := Gf2.prodL_len hall
      rw [hpr] at hlen
      exact ⟨_, fact2_ok (fun e => h1 (by rw [e]; rfl)) (fun e => h2 (by rw [e]; rfl)) (by omega), hall, hpr⟩
    -- a divisor parts q
    have part : ∀ c, Gf2.Dvd c q → c ≠ 1 → c ≠ q → ∃ r, fact2 (List.replicate z 2) (factF f c) (factF f (Gf2.pdiv q c)) = some r ∧ (∀ x ∈ r, Irr x) ∧ prodL r = p := fun c hc h1 h2 => by
      obtain ⟨hc0, he0, -⟩ := div_facts hq64 hq0 hc
      have hm := Gf2.div_add_mod q hc0
      rw [(Gf2.dvd_iff_mod hc0).1 hc, Nat.xor_zero] at hm
      have he1 : Gf2.pdiv q c ≠ 1 := fun e => by rw [e, Gf2.one_mul] at hm; exact h2 hm
      have hl2 := Gf2.len_mul he0 hc0
      rw [hm] at hl2
      have c2 : len c ≠ 1 := fun e => h1 (Gf2.len_eq_one.1 e)
      have e2 : len (Gf2.pdiv q c) ≠ 1 := fun e => he1 (Gf2.len_eq_one.1 e)
      have := Gf2.len_pos hc0
      have := Gf2.len_pos he0
      obtain ⟨l, a1, a2, a3⟩ := factF_ok f c hc0 (by omega) (by omega)
      obtain ⟨m, b1, b2, b3⟩ := factF_ok f (Gf2.pdiv q c) he0 (by omega) (by omega)
      rw [a1, b1]
      exact both l m a2 b2 (by rw [a3]; exact h1) (by rw [b3]; exact he1) (by rw [a3, b3, Gf2.mul_comm]; exact hm)
    by_cases hq1 : q = 1
    · rw [if_pos hq1]
      exact ⟨_, rfl, hirr2, by rw [prodL_twos, hpq, hq1, Nat.mul_one]⟩
    rw [if_neg hq1]
    have hlq2 : 2 ≤ len q := by
      have := Gf2.len_pos hq0
      have : len q ≠ 1 := fun e => hq1 (Gf2.len_eq_one.1 e)
      omega
    rw [slope_der hq64]
    by_cases hd0 : Gf2.der q = 0
    · rw [if_pos hd0]
      obtain ⟨A, hA⟩ : ∃ A, Gf2.evens q = A := ⟨_, rfl⟩
      have hsq := Gf2.der_zero hd0
      rw [hA] at hsq
      have hA32 : A < 2 ^ 32 := Gf2.sq_lt (k := 32) (by rw [← hsq]; exact hq64)
      have hr : rootN 32 q = A := by rw [hsq, rootN_sq, Nat.mod_eq_of_lt hA32]
      have hA0 : A ≠ 0 := fun e => hq0 (by rw [hsq, e, Gf2.sq_zero])
      have hA1 : A ≠ 1 := fun e => hq1 (by rw [hsq, e, Gf2.sq_one])
      have hlA := Gf2.len_mul hA0 hA0
      rw [show Gf2.mul A A = q from hsq.symm] at hlA
      have hA2 : len A ≠ 1 := fun e => hA1 (Gf2.len_eq_one.1 e)
      have := Gf2.len_pos hA0
      obtain ⟨l, a1, a2, a3⟩ := factF_ok f A hA0 (by omega) (by omega)
      rw [hr, a1]
      exact both l l a2 a2 (by rw [a3]; exact hA1) (by rw [a3]; exact hA1) (by rw [a3]; exact hsq.symm)
    rw [if_neg hd0]
    by_cases hg : Gf2.gcd q (Gf2.der q) = 1
    · rw [if_pos hg]
      obtain ⟨s1, s2⟩ := splitF_spec hlq2 (by omega)
      by_cases hs : splitF q = 0
      · rw [hs, Gf2.gcd_zero, if_pos rfl]
        have hirr : Irr q := Gf2.irr_of_none hlq2 hg (s2 hs)
        refine ⟨_, rfl, fun x hx => ?_, ?_⟩
        · simp only [List.mem_append, List.mem_singleton] at hx
          rcases hx with hx | rfl
          · exact hirr2 x hx
          · exact hirr
        · rw [Gf2.prodL_append, prodL_twos, Gf2.prodL_cons, show prodL [] = 1 by rfl, Gf2.mul_one, Gf2.mul_comm, Gf2.mul_two_pow, ← hpq]
      · obtain ⟨b1, b2, b3⟩ := s1 hs
        obtain ⟨c1, c2⟩ := Gf2.sqx_parts hq0 b1 b3 hs b2
        rw [if_neg c2]
        exact part _ (Gf2.gcd_dvd_left _ _) c1 c2
    · rw [if_neg hg]
      refine part _ (Gf2.gcd_dvd_left _ _) hg fun e => ?_
      have h1 := Gf2.gcd_dvd_right q (Gf2.der q)
      rw [e] at h1
      obtain ⟨c, hc⟩ := h1
      have hc0 : c ≠ 0 := fun e => hd0 (by rw [hc, e, Gf2.zero_mul])
      have hlm := Gf2.len_mul hc0 hq0
      rw [← hc] at hlm
      have hlt := Gf2.der_lt hq0
      have h3 : len (Gf2.der q) ≤ len q := Gf2.len_le_iff.2 (Nat.lt_trans hlt (Gf2.lt_two_pow_len q))
      have := Gf2.len_pos hc0
      have hc1 : c = 1 := Gf2.len_eq_one.1 (by omega)
      rw [hc1, Gf2.one_mul] at hc
      omega
end Go.Proofs.Ytjgfcnhnlaobcaa
namespace Go.Proofs.Ytjgfcnhnlaobcaa
open Go.RowKit
open Gf2 (len Irr prodL)

theorem asc_perm (l : List Nat) : (asc l).Perm l := List.mergeSort_perm _ _
theorem asc_sorted (l : List Nat) : (asc l).Pairwise (fun x y => x ≤ y) := by
  have h := List.pairwise_mergeSort (le := fun x y : Nat => decide (x ≤ y)) (fun a b c h1 h2 => by simp at *; omega) (fun a b => by simp; omega) l
  exact h.imp (fun h => by simpa using h)
theorem asc_eq {l m : List Nat} (h : l.Perm m) : asc l = asc m :=
  List.Perm.eq_of_pairwise (le := fun x y => x ≤ y) (fun _ _ _ _ => Nat.le_antisymm) (asc_sorted l) (asc_sorted m) ((asc_perm l).trans (h.trans (asc_perm m).symm))
theorem asc_nil : asc [] = [] := List.length_eq_zero_iff.1 (by rw [(asc_perm []).length_eq]; rfl)
theorem asc_length (l : List Nat) : (asc l).length = l.length := (asc_perm l).length_eq

/-- The irreducible factors, ascending. -/
def facL (p : Nat) : List Nat := asc ((factF 64 p).getD [])
theorem facL_some {p : Nat} (hp0 : p ≠ 0) (hp : p < 2 ^ 64) : ∃ l, factF 64 p = some l ∧ facL p = asc l ∧ (∀ x ∈ l, Irr x) ∧ prodL l = p := by
  obtain ⟨l, h1, h2, h3⟩ := factF_ok 64 p hp0 (len_le_64 hp) (len_le_64 hp)
  exact ⟨l, h1, by rw [facL, h1]; rfl, h2, h3⟩
theorem facL_irr {p : Nat} (hp0 : p ≠ 0) (hp : p < 2 ^ 64) : ∀ x ∈ facL p, Irr x := by
  obtain ⟨l, -, h2, h3, -⟩ := facL_some hp0 hp
  intro x hx
  rw [h2] at hx
  exact h3 x ((asc_perm l).mem_iff.1 hx)
theorem facL_prod {p : Nat} (hp0 : p ≠ 0) (hp : p < 2 ^ 64) : prodL (facL p) = p := by
  obtain ⟨l, -, h2, -, h4⟩ := facL_some hp0 hp
  rw [h2, Gf2.prodL_perm (asc_perm l), h4]
theorem facL_sorted (p : Nat) : (facL p).Pairwise (fun x y => x ≤ y) := asc_sorted _
theorem facL_unique {p : Nat} (hp0 : p ≠ 0) (hp : p < 2 ^ 64) {l : List Nat} (h1 : ∀ x ∈ l, Irr x) (h2 : prodL l = p) : asc l = facL p := by
  obtain ⟨m, -, h3, h4, h5⟩ := facL_some hp0 hp
  rw [h3]
  exact asc_eq (Gf2.factors_unique l m h1 h4 (h2.trans h5.symm))
theorem facL_length {p : Nat} (hp0 : p ≠ 0) (hp : p < 2 ^ 64) : (facL p).length ≤ 63 := by
  have := Gf2.prodL_len (facL_irr hp0 hp)
  rw [facL_prod hp0 hp] at this
  have := len_le_64 hp
  omega

theorem OwnU.srt {w : World} {base g cap : Nat} {l : List Nat} (h : OwnU w base (.slice (some ⟨g, 0, none⟩) l.length cap) l) : Srt w g cap l.toArray w ∧ base ≤ g := by
  obtain ⟨h1, h2⟩ := h
  rcases h2 with ⟨h2, _⟩ | ⟨g', cap', cur, h2, h3, h4, h5, h6, h7, h8⟩
  · cases h2
  · cases h2
    refine ⟨⟨⟨cur, h4, by simpa using h7, by simpa using h5, fun i hi => ?_⟩, ⟨rfl, rfl, rfl, Nat.le_refl _, fun _ _ _ => rfl⟩⟩, h3⟩
    have hi' : i < l.length := by simpa using hi
    have h9 : (cur.toList.take (l.length * 1))[i]? = (U64 l)[i]? := by rw [h8]
    rw [List.getElem?_take, if_pos (by omega), Array.getElem?_toList] at h9
    rw [h9, U64, List.getElem?_map, List.getElem?_eq_getElem hi']
    simp [hi']
theorem Srt.own {w w' : World} {base g cap : Nat} {l : List Nat} {d : Array Nat} (h : OwnU w base (.slice (some ⟨g, 0, none⟩) l.length cap) l) (k : Srt w g cap d w') (hs : d.size = l.length) : OwnU w' base (.slice (some ⟨g, 0, none⟩) l.length cap) d.toList := by
  obtain ⟨h1, h2⟩ := h
  rcases h2 with ⟨h2, _⟩ | ⟨g', cap', cur0, h2, h3, h4, h5, h6, h7, h8⟩
  · cases h2
  · cases h2
    obtain ⟨cur, k1, k2, k3, k4⟩ := k.row
    refine ⟨by rw [U64_length]; simp, .inr ⟨g, cap, cur, ?_, h3, k1, by simpa [hs] using h5, h6, by simpa using k2, ?_⟩⟩
    · simp [hs]
    · apply List.ext_getElem?
      intro i
      rw [List.getElem?_take]
      by_cases hi : i < d.size
      · rw [if_pos (by simpa using hi), Array.getElem?_toList, k4 i hi, U64, List.getElem?_map, List.getElem?_eq_getElem (by simpa using hi)]
        simp [hi]
      · rw [if_neg (by simpa using hi), List.getElem?_eq_none (by rw [U64_length]; simpa using hi)]

set_option maxRecDepth 100000 in
set_option maxHeartbeats 1600000 in
theorem insNil_calls (w : World) : Calls Try.prog 106 #[.slice none 0 0, I 0, I 0] w fun e w' => e = .returned (.tuple #[]) ∧ w' = w := by
  go_enter Try.func106, Try.ntmps106
  go_wp2
  go_loopw [6] (fun vi wr => vi = I 1 ∧ wr = w) (fun _ _ => 0)
  case atStart => exact ⟨by go_num, rfl⟩
  case round =>
    obtain ⟨rfl, rfl⟩ := hrel
    go_wp2
    go_end0
    exact ⟨rfl, rfl⟩
set_option maxRecDepth 100000 in
set_option maxHeartbeats 1600000 in
theorem pdqNil_calls (w : World) : Calls Try.prog 97 #[.slice none 0 0, I 0, I 0, I 0] w fun e w' => e = .returned (.tuple #[]) ∧ w' = w := by
  have hc := insNil_calls
  go_enter Try.func97, Try.ntmps97
  go_wp2
  go_loopw [1, 2, 3, 8, 9] (fun v1 v2 v3 v8 v9 wr => v1 = I 0 ∧ v2 = I 0 ∧ v3 = I 0 ∧ v8 = .bool true ∧ v9 = .bool true ∧ wr = w) (fun _ _ _ _ _ _ => 0)
  case atStart => exact ⟨rfl, rfl, rfl, rfl, rfl, rfl⟩
  case round =>
    obtain ⟨rfl, rfl, rfl, rfl, rfl, rfl⟩ := hrel
    go_wp2_with (go_at_call 106; refine (hc _).mono ?_; rintro e w1 ⟨rfl, rfl⟩)
    (try simp only [Exit.inBlock, Exit.then]); refine bodyPost_ret (results_none rfl _ _ _) rfl ?_
    exact ⟨rfl, rfl⟩
set_option maxRecDepth 100000 in
set_option maxHeartbeats 1600000 in
theorem sortNil_calls (w : World) : Calls Try.prog 79 #[.slice none 0 0] w fun e w' => e = .returned (.tuple #[]) ∧ w' = w := by
  have hb := fun x => Try.bits_Len 0 x (by omega) (by omega)
  have hl : Lib.bitLen (Int.toNat 0) = 0 := by decide
  rw [hl] at hb
  have hp := pdqNil_calls
  go_enter Try.func79, Try.ntmps79
  go_wp2_with (first
    | (go_at_call 98; refine (hb _).mono ?_; rintro e w1 ⟨rfl, rfl⟩)
    | (go_at_call 97; refine (hp _).mono ?_; rintro e w2 ⟨rfl, rfl⟩))
  go_end0
  exact ⟨rfl, rfl⟩
theorem ownSort_calls (v : Value) (l : List Nat) (base : Nat) (w : World) (h : OwnU w base v l) (hl : l.length < 2 ^ 60) :
    Calls Try.prog 79 #[v] w fun e w' => e = .returned (.tuple #[]) ∧ OwnU w' base v (asc l) ∧ w.grownBy w' v.ownBlock := by
  by_cases hne : l = []
  · subst hne
    have hv : v = .slice none 0 0 ∨ ∃ g cap, v = .slice (some ⟨g, 0, none⟩) ([] : List Nat).length cap := by
      rcases h.2 with ⟨h2, _⟩ | ⟨g', cap', cur, h2, _⟩
      · exact .inl h2
      · exact .inr ⟨g', cap', h2⟩
    rcases hv with rfl | ⟨g, cap, rfl⟩
    · refine (sortNil_calls w).mono ?_
      rintro e w' ⟨rfl, rfl⟩
      exact ⟨rfl, by rw [asc_nil]; exact OwnU.nil _ _, ⟨rfl, rfl, rfl, Nat.le_refl _, fun _ _ _ => rfl⟩⟩
    · refine (sort_calls g cap cap #[] w w (OwnU.srt h).1 (by simp)).mono ?_
      rintro e w' ⟨rfl, hS⟩
      refine ⟨rfl, ?_, hS.old⟩
      have := Srt.own h hS (by rw [sort_size]; rfl)
      rwa [sort_asc] at this
  · obtain ⟨g, cap, rfl⟩ := h.form hne
    have hc := sort_calls g cap cap l.toArray w w (OwnU.srt h).1 (by simpa using hl)
    rw [show l.toArray.size = l.length by simp] at hc
    refine hc.mono ?_
    rintro e w' ⟨rfl, hS⟩
    refine ⟨rfl, ?_, hS.old⟩
    have := Srt.own h hS (by rw [sort_size]; simp)
    rwa [sort_asc] at this

set_option maxHeartbeats 800000 in
theorem Factors_calls (p : Nat) (hp : p < 2 ^ 64) (hp0 : p ≠ 0) (w : World) :
    Calls Try.prog 37 #[U p] w fun e w' => ∃ v, e = .returned (.tuple #[v, I 0]) ∧ OwnU w' w.heap.size v (facL p) ∧ Below w.heap.size w w' := by
  obtain ⟨l, h1, h2, h3, h4⟩ := facL_some hp0 hp
  have hfa := factors_calls 64 p l hp hp0 h1 w
  have hlen := Gf2.prodL_len h3
  rw [h4] at hlen
  have hl64 := len_le_64 hp
  rw [h2]
  have hpz : ((p : Int) == 0) = false := beq_false (by omega)
  clear h1 h2 h3 h4
  go_enter Try.func37, Try.ntmps37
  go_wp2_with (first
    | (go_at_call 78; refine hfa.mono ?_; rintro e w1 ⟨v, rfl, hown, hb⟩)
    | (go_at_call 79; refine (ownSort_calls v l _ _ hown (by omega)).mono ?_; rintro e w2 ⟨rfl, hown2, hg⟩))
  go_ret2
  exact ⟨v, rfl, hown2, hb.grown hg hb.size (fun k e => (hown.lt k e).1)⟩
set_option maxHeartbeats 800000 in
theorem Factors_zero (w : World) : Calls Try.prog 37 #[U 0] w fun e w' => e = .returned (.tuple #[.slice none 0 0, I 1]) ∧ w' = w := by
  go_enter Try.func37, Try.ntmps37
  go_wp2
  go_ret2
  exact ⟨rfl, rfl⟩
end Go.Proofs.Ytjgfcnhnlaobcaa
namespace Go.Proofs.Ytjgfcnhnlaobcaa
open Go.RowKit
open Gf2 (len Irr prodL)

theorem der_half (p : Nat) : 2 * Gf2.der p ≤ p := by
  induction p using Gf2.quad_induction with
  | h0 => rw [Gf2.der]; simp
  | hs h a b ha hb ih => rw [Gf2.der_step _ _ _ ha hb]; omega
theorem der_bits : ∀ (k p : Nat), Gf2.der p % 2 ^ (2 * (k + 1)) = 2 ^ (2 * k) * (p / 2 ^ (2 * k + 1) % 2) + Gf2.der p % 2 ^ (2 * k)
  | 0, p => by
    have h4 : p = 4 * (p / 4) + 2 * (p / 2 % 2) + p % 2 := by omega
    have := Gf2.der_step (p / 4) (p % 2) (p / 2 % 2) (by omega) (by omega)
    rw [← h4] at this
    simp
    omega
  | k + 1, p => by
    have h4 : p = 4 * (p / 4) + 2 * (p / 2 % 2) + p % 2 := by omega
    have hd := Gf2.der_step (p / 4) (p % 2) (p / 2 % 2) (by omega) (by omega)
    rw [← h4] at hd
    have ih := der_bits k (p / 4)
    have e1 : p / 2 ^ (2 * (k + 1) + 1) = p / 4 / 2 ^ (2 * k + 1) := by rw [Nat.div_div_eq_div_mul, show 2 * (k + 1) + 1 = 2 + (2 * k + 1) by omega, Nat.pow_add]
    have e2 : ∀ j, 2 ^ (2 * (j + 1)) = 4 * 2 ^ (2 * j) := fun j => by rw [show 2 * (j + 1) = 2 + 2 * j by omega, Nat.pow_add]
    have e3 : ∀ x b m, b ≤ 1 → (4 * x + b) % (4 * m) = 4 * (x % m) + b := fun x b m hb => by
      have := Nat.mod_add_div x m
      have h1 : 4 * x + b = (4 * (x % m) + b) + (4 * m) * (x / m) := by rw [Nat.mul_assoc]; omega
      by_cases hm : m = 0
      · subst hm; simp
      · rw [h1, Nat.add_mul_mod_self_left, Nat.mod_eq_of_lt]
        have := Nat.mod_lt x (Nat.pos_of_ne_zero hm)
        omega
    rw [e1, hd, e2 (k + 1), e2 k, e3 _ _ _ (by omega), e3 _ _ _ (by omega), ← e2 k, ih, e2 k]
    have : p / 4 / 2 ^ (2 * k + 1) % 2 = 0 ∨ p / 4 / 2 ^ (2 * k + 1) % 2 = 1 := by omega
    rcases this with h | h <;> rw [h] <;> omega
theorem der_bits_off {k p : Nat} (h : p / 2 ^ (2 * k + 1) % 2 = 0) : Gf2.der p % 2 ^ (2 * (k + 1)) = Gf2.der p % 2 ^ (2 * k) := by rw [der_bits, h]; omega
theorem der_bits_on {k p : Nat} (h : p / 2 ^ (2 * k + 1) % 2 = 1) : Gf2.der p % 2 ^ (2 * (k + 1)) = (Gf2.der p % 2 ^ (2 * k)) ^^^ 2 ^ (2 * k) := by
  rw [der_bits, h, Gf2.add_eq_xor (Nat.mod_lt _ (Nat.two_pow_pos _)), Nat.mul_one, Nat.xor_comm]

theorem bit_fact {p n : Nat} (hp : p < 2 ^ 64) : (bits .and .u64 ((p : Int) / 2 ^ n) 1 == 1) = decide (p / 2 ^ n % 2 = 1) := by
  rw [shr_cast]
  exact bit_test (shr_lt hp)
theorem pow_wrap {n : Nat} (h : n < 64) : IntKind.u64.wrap ((2 : Int) ^ n) = ((2 ^ n : Nat) : Int) := by
  have := shl_u64 (a := 1) (n := n) (by have := pow_le_64 h; omega)
  simpa using this

set_option maxHeartbeats 800000 in
theorem rderived_calls (p : Nat) (hp : p < 2 ^ 64) (w : World) : Calls Try.prog 99 #[U p] w fun e w' => e = .returned (U (Gf2.der p)) ∧ w = w' := by
  have hdg := rdegree_calls p hp
  have hl := len_le_64 hp
  go_enter Try.func99, Try.ntmps99
  go_wp2
  go_loop [3, 4] (fun vo vi => ∃ k o : Nat, vi = I (2 * k + 1 : Nat) ∧ vo = U o ∧ o = Gf2.der p % 2 ^ (2 * k) ∧ k ≤ 32) (fun _ vi => (66 - intOf vi).toNat)
  case atStart => exact ⟨0, 0, rfl, rfl, by simp [Nat.mod_one], by omega⟩
  case round =>
    obtain ⟨k, o, rfl, rfl, ho, hk⟩ := hrel
    have HO := Lib.hid ho
    clear ho
    have hb1 := bit_fact (n := 2 * k + 1) hp
    by_cases hlt : 2 * k + 1 < len p
    · have hli : 2 * (k : Int) + 1 ≤ (len p : Int) - 1 := by omega
      have ho64 : o < 2 ^ 64 := by
        rw [HO.out]
        exact Nat.lt_of_lt_of_le (Nat.mod_lt _ (Nat.two_pow_pos _)) (Nat.pow_le_pow_right (by decide) (by omega))
      by_cases hb : p / 2 ^ (2 * k + 1) % 2 = 1
      · have HB := Lib.hid (der_bits_on hb)
        rw [decide_eq_true hb] at hb1
        have hpw := pow_wrap (n := 2 * k) (by omega)
        have hx : bits .xor .u64 (o : Int) ((2 ^ (2 * k) : Nat) : Int) = ((o ^^^ 2 ^ (2 * k) : Nat) : Int) := xor_u64 ho64 (pow_le_64 (by omega))
        have HX := Lib.hid (show bits .xor .u64 (o : Int) (IntKind.u64.wrap ((2 : Int) ^ (2 * k))) = ((o ^^^ 2 ^ (2 * k) : Nat) : Int) by rw [hpw, hx])
        clear hb hx hpw
        go_wp2_with (go_at_call 18; refine (hdg _).mono ?_; rintro e w1 ⟨rfl, rfl⟩)
        exact ⟨⟨k + 1, o ^^^ 2 ^ (2 * k), by go_num, u_eq HX.out, by rw [HO.out]; exact HB.out.symm, by omega⟩, by simp [intOf]; omega⟩
      · have HB := Lib.hid (der_bits_off (k := k) (p := p) (by omega))
        rw [decide_eq_false hb] at hb1
        clear hb
        go_wp2_with (go_at_call 18; refine (hdg _).mono ?_; rintro e w1 ⟨rfl, rfl⟩)
        exact ⟨⟨k + 1, o, by go_num, rfl, HO.out.trans HB.out.symm, by omega⟩, by simp [intOf]; omega⟩
    · have hli : ¬ 2 * (k : Int) + 1 ≤ (len p : Int) - 1 := by omega
      have hend : o = Gf2.der p := by
        rw [HO.out]
        refine Nat.mod_eq_of_lt ?_
        have h1 : p < 2 ^ (2 * k + 1) := Gf2.len_le_iff.1 (by omega)
        have h2 := der_half p
        rw [Nat.pow_succ] at h1
        omega
      have HE := Lib.hid hend
      clear hend
      go_wp2_with (go_at_call 18; refine (hdg _).mono ?_; rintro e w1 ⟨rfl, rfl⟩)
      go_ret
      exact ⟨by rw [← HE.out]; rfl, rfl⟩

theorem sq_bit_at (A k : Nat) : Gf2.sq A / 2 ^ (2 * k) % 2 = A / 2 ^ k % 2 := by
  have h1 := Gf2.div_mod_testBit (Gf2.sq A) (2 * k)
  have h2 := Gf2.div_mod_testBit A k
  rw [Gf2.sq_testBit] at h1
  have h3 := h1.trans h2.symm
  omega

set_option maxHeartbeats 800000 in
theorem rroot_calls (A : Nat) (hA : A < 2 ^ 32) (hp : Gf2.sq A < 2 ^ 64) (w : World) : Calls Try.prog 100 #[U (Gf2.sq A)] w fun e w' => e = .returned (U A) ∧ w = w' := by
  have hbit := sq_bit_at A
  have hlen : A = 0 ∧ Gf2.sq A = 0 ∨ A ≠ 0 ∧ len (Gf2.sq A) = len A + len A - 1 := by
    by_cases h : A = 0
    · exact .inl ⟨h, by rw [h, Gf2.sq_zero]⟩
    · exact .inr ⟨h, Gf2.len_mul h h⟩
  generalize Gf2.sq A = p at *
  have hdg := rdegree_calls p hp
  have hl := len_le_64 hp
  have hAl : len A ≤ 32 := Gf2.len_le_iff.2 hA
  go_enter Try.func100, Try.ntmps100
  go_wp2
  go_loop [3, 4] (fun vo vi => ∃ k o : Nat, vi = I (2 * k : Nat) ∧ vo = U o ∧ o = A % 2 ^ k ∧ k ≤ 33) (fun _ vi => (66 - intOf vi).toNat)
  case atStart => exact ⟨0, 0, rfl, rfl, by simp [Nat.mod_one], by omega⟩
  case round =>
    obtain ⟨k, o, rfl, rfl, ho, hk⟩ := hrel
    have HO := Lib.hid ho
    clear ho
    have hb1 := bit_fact (n := 2 * k) hp
    rw [hbit] at hb1
    by_cases hlt : 2 * k < len p
    · have hli : 2 * (k : Int) ≤ (len p : Int) - 1 := by omega
      have ho64 : o < 2 ^ 64 := by
        rw [HO.out]
        exact Nat.lt_of_lt_of_le (Nat.mod_lt _ (Nat.two_pow_pos _)) (Nat.pow_le_pow_right (by decide) (by omega))
      have hms := Nat.mod_pow_succ (x := A) (b := 2) (k := k)
      by_cases hb : A / 2 ^ k % 2 = 1
      · have HB := Lib.hid (show A % 2 ^ (k + 1) = (A % 2 ^ k) ^^^ 2 ^ k by
          rw [hms, hb, Nat.add_comm, Gf2.add_eq_xor (Nat.mod_lt _ (Nat.two_pow_pos _)), Nat.mul_one, Nat.xor_comm])
        rw [decide_eq_true hb] at hb1
        have hpw := pow_wrap (n := k) (by omega)
        have hx : bits .xor .u64 (o : Int) ((2 ^ k : Nat) : Int) = ((o ^^^ 2 ^ k : Nat) : Int) := xor_u64 ho64 (pow_le_64 (by omega))
        have HX := Lib.hid (show bits .xor .u64 (o : Int) (IntKind.u64.wrap ((2 : Int) ^ k)) = ((o ^^^ 2 ^ k : Nat) : Int) by rw [hpw, hx])
        clear hb hx hpw hms hbit hlen
        go_wp2_with (go_at_call 18; refine (hdg _).mono ?_; rintro e w1 ⟨rfl, rfl⟩)
        exact ⟨⟨k + 1, o ^^^ 2 ^ k, by go_num, u_eq HX.out, by rw [HO.out]; exact HB.out.symm, by omega⟩, by simp [intOf]; omega⟩
      · have HB := Lib.hid (show A % 2 ^ (k + 1) = A % 2 ^ k by
          rw [hms, show A / 2 ^ k % 2 = 0 by omega]; omega)
        rw [decide_eq_false hb] at hb1
        clear hb hms hbit hlen
        go_wp2_with (go_at_call 18; refine (hdg _).mono ?_; rintro e w1 ⟨rfl, rfl⟩)
        exact ⟨⟨k + 1, o, by go_num, rfl, HO.out.trans HB.out.symm, by omega⟩, by simp [intOf]; omega⟩
    · have hli : ¬ 2 * (k : Int) ≤ (len p : Int) - 1 := by omega
      have hend : o = A := by
        rw [HO.out]
        refine Nat.mod_eq_of_lt (Gf2.len_le_iff.1 ?_)
        rcases hlen with ⟨h1, h2⟩ | ⟨h1, h2⟩
        · rw [h1, Gf2.len_zero]; omega
        · omega
      have HE := Lib.hid hend
      clear hend hlen hbit
      go_wp2_with (go_at_call 18; refine (hdg _).mono ?_; rintro e w1 ⟨rfl, rfl⟩)
      go_ret
      exact ⟨by rw [← HE.out]; rfl, rfl⟩
end Go.Proofs.Ytjgfcnhnlaobcaa
namespace Go.Proofs.Ytjgfcnhnlaobcaa
open Go.RowKit
open Gf2 (len Irr prodL)

/-- The rows of a list, each at its degree. -/
def rowAt (L : List (Nat × Nat)) (k : Nat) : Nat × Nat := (L.find? fun e => len e.1 == k + 1).getD (0, 0)
theorem rowAt_append {L : List (Nat × Nat)} {e : Nat × Nat} {k : Nat} (he : len e.1 = k + 1) (h : ∀ x ∈ L, len x.1 ≠ k + 1) (j : Nat) : rowAt (L ++ [e]) j = if j = k then e else rowAt L j := by
  unfold rowAt
  rw [List.find?_append]
  by_cases hj : j = k
  · subst hj
    rw [if_pos rfl, List.find?_eq_none.2 (fun x hx => by simpa using h x hx)]
    simp [he]
  · rw [if_neg hj]
    have : List.find? (fun x : Nat × Nat => len x.1 == j + 1) [e] = none := List.find?_eq_none.2 (fun x hx => by
      rw [List.mem_singleton.1 hx]; simp [he]; omega)
    rw [this, Option.or_none]

/-- What split has laid down behind i rounds. -/
structure SpL (p i : Nat) (L : List (Nat × Nat)) : Prop where
  none : i = 0 → L = []
  few : L.length ≤ i
  each : ∀ e ∈ L, e.1 ≠ 0 ∧ Gf2.sqx p e.2 = e.1 ∧ e.2 % 2 = 0 ∧ e.2 < 2 ^ i
  ech : Gf2.Ech p i (fun k => (rowAt L k).1) (fun k => (rowAt L k).2)
theorem SpL.start (p : Nat) : SpL p 0 [] := by
  refine ⟨fun _ => rfl, Nat.le_refl _, fun e he => by simp at he, fun k h => absurd rfl h, fun c _ h2 h3 => ?_, fun c _ h2 _ => ?_⟩
  · obtain rfl : c = 0 := by simpa using h2
    exact absurd (Gf2.sqx_zero p) h3
  · simpa using h2
/-- What split has made of the row i. -/
structure SpV (p i : Nat) (v c : Nat) : Prop where
  val : Gf2.sqx p c = v
  even : 1 ≤ i → c % 2 = 0
  zero : i = 0 → c = 1
  top : (c ^^^ 2 ^ i) < 2 ^ i
theorem SpV.start (p i : Nat) : SpV p i (Gf2.sqx p (2 ^ i)) (2 ^ i) :=
  ⟨rfl, fun h => by obtain ⟨j, rfl⟩ : ∃ j, i = j + 1 := ⟨i - 1, by omega⟩; rw [Nat.pow_succ]; omega, fun h => by rw [h], by rw [Nat.xor_self]; exact Nat.two_pow_pos i⟩
theorem SpV.lt {p i v c : Nat} (h : SpV p i v c) : c < 2 ^ (i + 1) := by
  have h1 : c = (c ^^^ 2 ^ i) ^^^ 2 ^ i := (Gf2.xor_cancel_right _ _).symm
  rw [h1]
  exact Nat.xor_lt_two_pow (Nat.lt_of_lt_of_le h.top (Nat.pow_le_pow_right (by decide) (by omega))) (Nat.pow_lt_pow_right (by decide) (by omega))
theorem SpV.big {p i v c : Nat} (h : SpV p i v c) (hi : 1 ≤ i) : 1 < c := by
  have h1 := h.even hi
  have h2 : c ≠ 0 := fun e => by have := h.top; rw [e, Nat.zero_xor] at this; omega
  omega
theorem SpV.xor {p i v c : Nat} (hp : p ≠ 0) (h : SpV p i v c) {L : List (Nat × Nat)} (hL : SpL p i L) {e : Nat × Nat} (he : e ∈ L) : SpV p i (v ^^^ e.1) (c ^^^ e.2) := by
  obtain ⟨h1, h2, h3, h4⟩ := hL.each e he
  have hi : 1 ≤ i := by
    by_cases h0 : i = 0
    · rw [hL.none h0] at he; simp at he
    · omega
  refine ⟨by rw [Gf2.sqx_xor hp, h.val, h2], fun h5 => Gf2.xor_even (h.even h5) h3, fun h5 => by omega, ?_⟩
  have : (c ^^^ e.2) ^^^ 2 ^ i = (c ^^^ 2 ^ i) ^^^ e.2 := by ac_rfl
  rw [this]
  exact Gf2.below_xor h.top h4
theorem SpL.add {p i v c : Nat} (hp : p ≠ 0) (hi : 1 ≤ i) {L : List (Nat × Nat)} (h : SpL p i L) (hv : SpV p i v c) (h0 : v ≠ 0) (hn : ∀ e ∈ L, len e.1 ≠ len v) : SpL p (i + 1) (L ++ [(v, c)]) := by
  have hk : len v = (len v - 1) + 1 := by have := Gf2.len_pos h0; omega
  have hr : rowAt L (len v - 1) = (0, 0) := by
    unfold rowAt
    rw [List.find?_eq_none.2 (fun x hx => by have := hn x hx; simp; omega)]
    rfl
  refine ⟨fun h => by omega, by have := h.few; simp; omega, fun e he => ?_, ?_⟩
  · rw [List.mem_append, List.mem_singleton] at he
    rcases he with he | rfl
    · obtain ⟨a1, a2, a3, a4⟩ := h.each e he
      exact ⟨a1, a2, a3, Nat.lt_of_lt_of_le a4 (Nat.pow_le_pow_right (by decide) (by omega))⟩
    · exact ⟨h0, hv.val, hv.even hi, hv.lt⟩
  · have := h.ech.add hp hv.val (hv.even hi) hv.top hk (by rw [hr])
    have e1 : (fun k => (rowAt (L ++ [(v, c)]) k).1) = fun j => if j = len v - 1 then v else (rowAt L j).1 := by
      funext j
      rw [rowAt_append (e := (v, c)) (k := len v - 1) hk (fun x hx => by have := hn x hx; omega)]
      split <;> rfl
    have e2 : (fun k => (rowAt (L ++ [(v, c)]) k).2) = fun j => if j = len v - 1 then c else (rowAt L j).2 := by
      funext j
      rw [rowAt_append (e := (v, c)) (k := len v - 1) hk (fun x hx => by have := hn x hx; omega)]
      split <;> rfl
    rw [e1, e2]
    exact this
/-- The first round lays nothing down. -/
theorem SpV.first {p v c : Nat} (h2 : 2 ≤ len p) (h : SpV p 0 v c) : v = 0 := by rw [← h.val, h.zero rfl, Gf2.sqx_one h2]
theorem SpL.first {p : Nat} {L : List (Nat × Nat)} (h : SpL p 0 L) : SpL p 1 L := by
  have := h.none rfl
  subst this
  exact ⟨fun _ => rfl, by simp, fun e he => by simp at he, Gf2.Ech.start _⟩

theorem OwnU.shape {w : World} {base : Nat} {v : Value} {l : List Nat} (h : OwnU w base v l) : ∃ a cap, v = .slice a l.length cap ∧ (l ≠ [] → ∃ g, a = some ⟨g, 0, none⟩) := by
  rcases h.2 with ⟨h1, h2⟩ | ⟨g, cap, cur, h1, _⟩
  · have : l = [] := List.length_eq_zero_iff.1 h2
    subst this
    exact ⟨none, 0, h1, fun h => absurd rfl h⟩
  · exact ⟨some ⟨g, 0, none⟩, cap, h1, fun _ => ⟨g, rfl⟩⟩
theorem OwnU.cellAt {w : World} {base g cap : Nat} {l : List Nat} (h : OwnU w base (.slice (some ⟨g, 0, none⟩) l.length cap) l) (k : Nat) (hk : k < l.length) : w.cell? ⟨g, k, none⟩ = some (U l[k]) := by
  have := World.ownsRow.cells h (g := g) rfl k (U l[k]) (by simp [U64, hk])
  rwa [Addr.add_lit, Nat.zero_add] at this
/-- Two slices in two blocks. -/
def Apart (a b : Value) : Prop := ∀ k, a.ownBlock = some k → b.ownBlock ≠ some k
theorem Apart.symm {a b : Value} (h : Apart a b) : Apart b a := fun k h1 h2 => h k h2 h1
theorem Apart.ne {a b : Value} (h : Apart a b) : a.ownBlock = none ∨ a.ownBlock ≠ b.ownBlock := by
  cases ha : a.ownBlock with
  | none => exact .inl rfl
  | some k => exact .inr fun e => h k ha e.symm

/-- split's two slices in memory. -/
structure SpM (w : World) (B : Nat) (vv vc : Value) (L : List (Nat × Nat)) (wx : World) : Prop where
  vals : OwnU wx B vv (L.map (·.1))
  combs : OwnU wx B vc (L.map (·.2))
  below : Below B w wx
theorem SpM.drewN {w wx : World} {B : Nat} {vv vc : Value} {L : List (Nat × Nat)} (h : SpM w B vv vc L wx) (n : Nat) : SpM w B vv vc L (wx.drewN n) := ⟨h.vals, h.combs, below_drewN h.below n⟩
theorem SpM.cell1 {w wx : World} {B g N c : Nat} {vc : Value} {L : List (Nat × Nat)} (h : SpM w B (.slice (some ⟨g, 0, none⟩) N c) vc L wx) {k : Nat} {e : Nat × Nat} (he : L[k]? = some e) : wx.cell? ⟨g, k, none⟩ = some (U e.1) := by
  have h := World.ownsRow.cells h.vals (g := g) rfl k (U e.1) (by simp [U64, he])
  rwa [Addr.add_lit, Nat.zero_add] at h
theorem SpM.cell2 {w wx : World} {B g N c : Nat} {vv : Value} {L : List (Nat × Nat)} (h : SpM w B vv (.slice (some ⟨g, 0, none⟩) N c) L wx) {k : Nat} {e : Nat × Nat} (he : L[k]? = some e) : wx.cell? ⟨g, k, none⟩ = some (U e.2) := by
  have h := World.ownsRow.cells h.combs (g := g) rfl k (U e.2) (by simp [U64, he])
  rwa [Addr.add_lit, Nat.zero_add] at h

theorem wpList_append_at {ops : Array Oper} {rest : List Oper} {o : Oper} {a : Act} {w : World} {Q : Exit → Act → World → Prop} (hgd : o.guard = none) (s x : Operand)
    (ho : o.op = .call { callee := .builtin .append, args := #[s, x], argTypes := #[54, 54] })
    (base : Nat) (v : Value) (l : List Nat) (hs : a.eval s = v) (hown : OwnU w base v l) (b c y : Nat) (hx : a.eval x = .slice (some ⟨b, 0, none⟩) 1 c) (hy : w.cell? ⟨b, 0, none⟩ = some (U y))
    (hlen : l.length + 1 ≤ 2 ^ 40) (hb : base ≤ w.heap.size)
    (h : ∀ v' w', OwnU w' base v' (l ++ [y]) → w.grownBy w' v.ownBlock → (v'.ownBlock = v.ownBlock ∨ v'.ownBlock = some w.heap.size) → wpList Try.prog ops Q rest (a.put o.dst v') w') : wpList Try.prog ops Q (o :: rest) a w := by
  obtain ⟨i0, hi, hz0, hz1, hz2⟩ := info_parts Try.info22k
  refine wpList_append_own_at w hgd s x 54 ho base 22 i0 (.int .u64 0) 1 8 Try.underlying54 hi hz0 hz1 hz2 rfl (by decide) v l.length (U64 l) hs hown ⟨b, 0, none⟩ 1 c (U64 [y]) hx (by simp [U64]) ?_ ?_ (by unfold maxLen; omega) (by omega) hb ?_
  · intro j u hj
    cases j with
    | zero => simp [U64] at hj; subst hj; rw [Addr.add_lit]; exact hy
    | succ j => simp [U64] at hj
  · intro u hu; obtain ⟨y, _, rfl⟩ := List.mem_map.1 hu; rfl
  · intro v' w' h1 h2 _ h4
    refine h v' w' ?_ h2 h4
    unfold OwnU
    rw [List.length_append, U64_append]
    exact h1

set_option maxRecDepth 100000 in
set_option maxHeartbeats 3200000 in
theorem rsplit_calls (p : Nat) (hp2 : 2 ≤ len p) (hp : p < 2 ^ 64) (hv : ∃ v, len v < len p ∧ Gf2.sqx p v = 0 ∧ v ≠ 0 ∧ v ≠ 1) (w : World) :
    Calls Try.prog 102 #[U p] w fun e w' => ∃ g, e = .returned (U g) ∧ g < 2 ^ 64 ∧ Gf2.Dvd g p ∧ g ≠ 1 ∧ g ≠ p ∧ Below w.heap.size w w' := by
  have hdg := rdegree_calls p hp
  have hl := len_le_64 hp
  have hp0 : p ≠ 0 := fun e => by rw [e, Gf2.len_zero] at hp2; omega
  obtain ⟨B, hBe⟩ : ∃ B, w.heap.size = B := ⟨_, rfl⟩
  have hB0 : Below B w w := Below.refl _ _
  have HV := Lib.hid hv
  clear hv
  rw [hBe]
  go_enter Try.func102, Try.ntmps102
  go_wp2_with (go_at_call 18; refine (hdg _).mono ?_; rintro e w1 ⟨rfl, rfl⟩)
  go_loopw [4, 5, 6] (fun vv vc vi wr => ∃ (i : Nat) (L : List (Nat × Nat)), vi = I i ∧ i + 1 ≤ len p ∧ SpL p i L ∧ SpM w B vv vc L wr ∧ Apart vv vc) (fun _ _ vi _ => 64 - (intOf vi).toNat)
  case atStart => exact ⟨0, [], rfl, by omega, SpL.start p, ⟨OwnU.nil _ _, OwnU.nil _ _, hB0⟩, fun k h => by simp [Value.ownBlock] at h⟩
  case round =>
    clear hB0
    obtain ⟨i, L, rfl, hi, hL, hM, hap⟩ := hrel
    have HL := Lib.hid hL
    clear hL
    by_cases hlt : i < len p - 1
    · have hli : (i : Int) < (len p : Int) - 1 := by omega
      obtain ⟨P, hP⟩ : ∃ P, 2 ^ i = P := ⟨_, rfl⟩
      have hPl : len P = i + 1 := by rw [← hP]; exact Gf2.len_two_pow i
      have hpw := pow_wrap (n := i) (by omega)
      rw [hP] at hpw
      have hP64 : P < 2 ^ 64 := lt_of_len (by omega)
      have hdv := rdivide_calls P p hP64 hp hp0
      rw [Gf2.mod_of_lt (show len P < len p by omega)] at hdv
      have htm := rtimes_calls p P P hp2 hp (by omega) (by omega)
      have hml := Gf2.mm_lt hp0 P P
      obtain ⟨V, hV⟩ : ∃ V, Gf2.sqx p P = V := ⟨_, rfl⟩
      have hVl : len V < len p := by rw [← hV]; exact Gf2.sqx_lt hp0 (by omega)
      have hxr : bits .xor .u64 ((Gf2.mm p P P : Nat) : Int) (P : Int) = (V : Int) := by
        rw [xor_u64 (lt_of_len (by omega)) hP64, ← hV]; rfl
      have HS := Lib.hid (show SpV p i V P by rw [← hV, ← hP]; exact SpV.start p i)
      generalize Gf2.mm p P P = m at *
      generalize Gf2.pdiv P p = qd at *
      clear hml hV
      obtain ⟨av, cv, rfl, hav⟩ := hM.vals.shape
      obtain ⟨ac, cc, rfl, hac⟩ := hM.combs.shape
      obtain ⟨N, hN⟩ : ∃ N, L.length = N := ⟨_, rfl⟩
      have hNi : N ≤ i := by rw [← hN]; exact HL.out.few
      simp only [List.length_map, hN] at hM hap ⊢
      go_wp2_with (first
        | (go_at_call 68; refine (hdv _).mono ?_; rintro e w1 ⟨rfl, rfl⟩)
        | (go_at_call 61; refine (htm _).mono ?_; rintro e w1 ⟨rfl, rfl⟩))
      go_loopw [9, 10, 11] (fun v9 v10 v11 wx => ∃ (v c k : Nat), v9 = U v ∧ v10 = U c ∧ v11 = I k ∧ k ≤ N ∧ len v < len p ∧ SpV p i v c ∧ (∀ j, j < k → ∀ e, L[j]? = some e → len e.1 ≠ len v) ∧ SpM w B (.slice av N cv) (.slice ac N cc) L wx) (fun v9 _ v11 _ => Gf2.len (intOf v9).toNat * 100 + (100 - (intOf v11).toNat))
      case atStart => exact ⟨V, P, 0, rfl, rfl, rfl, Nat.zero_le _, hVl, HS.out, fun j hj => absurd hj (Nat.not_lt_zero _), by first | exact hM | exact hM.drewN _⟩
      case round =>
        clear hdv htm hxr HS hVl hpw hM
        obtain ⟨v, c, k, rfl, rfl, rfl, hk, hvl, hsv, hne, hM⟩ := hrel
        have HN := Lib.hid hne
        have HSV := Lib.hid hsv
        clear hne hsv
        have hv64 : v < 2 ^ 64 := lt_of_len (by omega)
        have hclt := HSV.out.lt
        have hc64 : c < 2 ^ 64 := Nat.lt_of_lt_of_le hclt (Nat.pow_le_pow_right (by decide) (by omega))
        by_cases hkN : k < N
        · have hki : (k : Int) < (N : Int) := by omega
          obtain ⟨⟨rv, rc⟩, hent⟩ : ∃ e, L[k]? = some e := ⟨L[k]'(by omega), List.getElem?_eq_getElem _⟩
          have hmem : (rv, rc) ∈ L := List.mem_of_getElem? hent
          obtain ⟨b1, b2, b3, b4⟩ := HL.out.each _ hmem
          simp only at b1 b2 b3 b4
          have hrl : len rv < len p := by rw [← b2]; exact Gf2.sqx_lt hp0 (by have := Gf2.len_le_iff.2 b4; omega)
          have hr64 : rv < 2 ^ 64 := lt_of_len (by omega)
          have hrc64 : rc < 2 ^ 64 := Nat.lt_of_lt_of_le b4 (Nat.pow_le_pow_right (by decide) (by omega))
          have hLne : L ≠ [] := fun e => by rw [e] at hent; simp at hent
          obtain ⟨gv, rfl⟩ := hav (by simpa using hLne)
          obtain ⟨gc, rfl⟩ := hac (by simpa using hLne)
          have cellv := hM.cell1 hent
          have cellc := hM.cell2 hent
          have kN : (k : Int) < (N : Int) := hki
          simp only at cellv cellc
          have hd : ∀ a, a < 2 ^ 64 → ∀ x, Calls Try.prog 18 #[U a] x fun e w' => e = .returned (I ((len a : Int) - 1)) ∧ w' = x := fun a ha x => (rdegree_calls a ha x).mono fun _ _ h => ⟨h.1, h.2.symm⟩
          by_cases heq : len v = len rv
          · have hte : ((len v : Int) - 1 == (len rv : Int) - 1) = true := by simp [heq]
            have hv0 : v ≠ 0 := fun e => by rw [e, Gf2.len_zero] at heq; have := Gf2.len_pos b1; omega
            have hvn : ((v : Int) == 0) = false := beq_false (by omega)
            have hx1 : bits .xor .u64 (v : Int) (rv : Int) = ((v ^^^ rv : Nat) : Int) := xor_u64 hv64 hr64
            have hx2 : bits .xor .u64 (c : Int) (rc : Int) = ((c ^^^ rc : Nat) : Int) := xor_u64 hc64 hrc64
            have HX := Lib.hid (HSV.out.xor hp0 HL.out hmem)
            have hless := Gf2.len_xor_same (a := v) (b := rv) heq hv0
            go_wp2
            go_quiet (first | (go_at_call 18; exact quiet2 (hd _ (by assumption) _) ⟨_, rfl⟩))
            go_wp2
            go_roundw
            case rel => exact ⟨v ^^^ rv, c ^^^ rc, 0, rfl, rfl, rfl, Nat.zero_le _, by omega, HX.out, fun j hj => absurd hj (Nat.not_lt_zero _), hM.drewN _⟩
            case measure => simp [intOf]; omega
          · have hte : ((len v : Int) - 1 == (len rv : Int) - 1) = false := beq_false (by omega)
            go_wp2
            go_quiet (first | (go_at_call 18; exact quiet2 (hd _ (by assumption) _) ⟨_, rfl⟩))
            go_wp2
            go_roundw
            case rel => exact ⟨v, c, k + 1, rfl, rfl, by go_num, by omega, hvl, HSV.out, fun j hj e he => by
              rcases Nat.lt_succ_iff_lt_or_eq.1 hj with h | h
              · exact HN.out j h e he
              · subst h; rw [hent] at he; cases he; exact fun e => heq e.symm, hM.drewN _⟩
            case measure => simp [intOf]; omega
        · have hki : ¬ (k : Int) < (N : Int) := by omega
          have hall : ∀ e ∈ L, len e.1 ≠ len v := fun e he => by
            obtain ⟨j, hj⟩ := List.getElem?_of_mem he
            refine HN.out j ?_ e hj
            have := (List.getElem?_eq_some_iff.1 hj).1
            omega
          have HA := Lib.hid hall
          clear hall HN
          by_cases hv0 : v = 0
          · subst hv0
            by_cases hi0 : i = 0
            · subst hi0
              have hc1 : c = 1 := HSV.out.zero rfl
              subst hc1
              go_wp2
              go_roundw
              case rel => exact ⟨1, L, by go_num, by omega, HL.out.first, hM, hap⟩
              case measure => simp [intOf]
            · have hc1 := HSV.out.big (by omega)
              have hc1i : (1 : Int) < (c : Int) := by omega
              have hcom := rcommon_calls p c hp hc64
              have hg64 : Gf2.gcd p c < 2 ^ 64 := gcd_lt64 hp hp0
              obtain ⟨g1, g2⟩ := Gf2.sqx_parts hp0 HSV.out.val (by have := Gf2.len_le_iff.2 hclt; omega) (by omega) (by omega)
              have g3 := Gf2.gcd_dvd_left p c
              generalize Gf2.gcd p c = g at *
              go_wp2_with (go_at_call 64; refine (hcom _).mono ?_; rintro e w1 ⟨rfl, rfl⟩)
              go_ret
              exact ⟨g, rfl, hg64, g3, g1, g2, hM.below⟩
          · have hvb : ((v : Int) == 0) = false := beq_false (by omega)
            have hvb2 : ((v : Int) != 0) = true := by simp; omega
            have hi1 : 1 ≤ i := by
              by_cases h : i = 0
              · subst h; exact absurd (HSV.out.first hp2) hv0
              · omega
            have HADD := Lib.hid (HL.out.add hp0 hi1 HSV.out hv0 HA.out)
            have hsz : B ≤ wr.heap.size := by have := hM.below.size; omega
            have hlen1 : (L.map (·.1)).length + 1 ≤ 2 ^ 40 := by simp; omega
            have hlen2 : (L.map (·.2)).length + 1 ≤ 2 ^ 40 := by simp; omega
            have hab := (Below.refl wr.heap.size wr).alloc (Nat.le_refl _) (.cells #[.int .u64 v] 22)
            have own0 := hM.vals.below hab
            have ownC := hM.combs.below hab
            have hB1 := hM.below.alloc hsz (.cells #[.int .u64 v] 22)
            have hc2 := cell_of_one (alloc_new wr (.cells #[.int .u64 v] 22))
            have hbz : B ≤ (wr.alloc (.cells #[.int .u64 v] 22)).heap.size := by have := lt_of_block (alloc_new wr (.cells #[.int .u64 v] 22)); omega
            go_wp2_with (first
              | (at_builtin; refine wpList_append_at rfl _ _ rfl B _ _ rfl own0 wr.heap.size 1 v rfl hc2 hlen1 hbz ?_
                 intro v1 w2 own1 grow1 at1
                 have ownC2 := ownC.kept grow1 hap.symm.ne
                 have ap1 : Apart v1 (.slice ac N cc) := (by
                   intro k h1 h2
                   rcases at1 with h | h
                   · exact hap k (h ▸ h1) h2
                   · rw [h] at h1; cases h1; exact Nat.lt_irrefl _ (ownC.lt _ h2).2)
                 have hB2 := hB1.grown grow1 hbz (fun k e => (own0.lt k e).1)
                 clear own0 ownC hc2 hbz hB1 grow1 at1 hap hab
                 have hab := (Below.refl w2.heap.size w2).alloc (Nat.le_refl _) (.cells #[.int .u64 c] 22)
                 have own1b := own1.below hab
                 have ownC3 := ownC2.below hab
                 have hsz2 : B ≤ w2.heap.size := (by have := hB2.size; omega)
                 have hB3 := hB2.alloc hsz2 (.cells #[.int .u64 c] 22)
                 have hc3 := cell_of_one (alloc_new w2 (.cells #[.int .u64 c] 22))
                 have hbz2 : B ≤ (w2.alloc (.cells #[.int .u64 c] 22)).heap.size := (by have := lt_of_block (alloc_new w2 (.cells #[.int .u64 c] 22)); omega))
              | (at_builtin; refine wpList_append_at rfl _ _ rfl B _ _ rfl ownC3 w2.heap.size 1 c rfl hc3 hlen2 hbz2 ?_
                 intro v2 w3 own2 grow2 at2
                 have own1c := own1b.kept grow2 ap1.ne
                 have ap2 : Apart v1 v2 := (by
                   intro k h1 h2
                   rcases at2 with h | h
                   · exact ap1 k h1 (h ▸ h2)
                   · rw [h] at h2; cases h2; exact Nat.lt_irrefl _ (own1b.lt _ h1).2)
                 have hB4 := hB3.grown grow2 hbz2 (fun k e => (ownC3.lt k e).1)))
            go_roundw
            case rel => exact ⟨i + 1, L ++ [(v, c)], by go_num, by omega, HADD.out, ⟨by rw [List.map_append]; exact own1c, by rw [List.map_append]; exact own2, hB4⟩, ap2⟩
            case measure => simp [intOf]; omega
    · have hli : ¬ (i : Int) < (len p : Int) - 1 := by omega
      exfalso
      obtain ⟨v, h1, h2, h3, h4⟩ := HV.out
      rcases HL.out.ech.none hp2 (by omega) v h1 h2 with h | h
      · exact h3 h
      · exact h4 h
end Go.Proofs.Ytjgfcnhnlaobcaa
namespace Go.Proofs.Ytjgfcnhnlaobcaa
open Go.RowKit
open Gf2 (len Irr prodL)

theorem OwnU.slAt {w : World} {base g cap : Nat} {l : List Nat} (h : OwnU w base (.slice (some ⟨g, 0, none⟩) l.length cap) l) : SlAt .u64 w (some ⟨g, 0, none⟩) l :=
  .inr ⟨g, 0, rfl, fun i hi => by
    rw [Nat.zero_add, h.cellAt i hi]
    simp [hi]⟩
/-- A polynomial without a factor twice that is not irreducible has one that is its own square. -/
theorem sqx_of_reducible {p : Nat} (h2 : 2 ≤ len p) (hd : Gf2.gcd p (Gf2.der p) = 1) (hn : ¬ Irr p) : ∃ v, len v < len p ∧ Gf2.sqx p v = 0 ∧ v ≠ 0 ∧ v ≠ 1 := by
  refine Classical.byContradiction fun hc => hn (Gf2.irr_of_none h2 hd fun v hv h0 => Classical.byContradiction fun h => hc ⟨v, hv, h0, fun e => h (.inl e), fun e => h (.inr e)⟩)
theorem gcd_der_ne {q : Nat} (hq0 : q ≠ 0) (hd0 : Gf2.der q ≠ 0) : Gf2.gcd q (Gf2.der q) ≠ q := fun e => by
  have h1 := Gf2.gcd_dvd_right q (Gf2.der q)
  rw [e] at h1
  obtain ⟨c, hc⟩ := h1
  have hc0 : c ≠ 0 := fun e => hd0 (by rw [hc, e, Gf2.zero_mul])
  have hlm := Gf2.len_mul hc0 hq0
  rw [← hc] at hlm
  have hlt := Gf2.der_lt hq0
  have h3 : len (Gf2.der q) ≤ len q := Gf2.len_le_iff.2 (Nat.lt_trans hlt (Gf2.lt_two_pow_len q))
  have := Gf2.len_pos hc0
  have hc1 : c = 1 := Gf2.len_eq_one.1 (by omega)
  rw [hc1, Gf2.one_mul] at hc
  omega
/-- A divisor, and what is left. -/
theorem parts_of {q c : Nat} (hq : q < 2 ^ 64) (hq0 : q ≠ 0) (hc : Gf2.Dvd c q) (h1 : c ≠ 1) (h2 : c ≠ q) :
    c ≠ 0 ∧ Gf2.pdiv q c ≠ 0 ∧ c < 2 ^ 64 ∧ Gf2.pdiv q c < 2 ^ 64 ∧ c ≠ 1 ∧ Gf2.pdiv q c ≠ 1 ∧ len c < len q ∧ len (Gf2.pdiv q c) < len q ∧ Gf2.mul c (Gf2.pdiv q c) = q := by
  obtain ⟨hc0, he0, he64⟩ := div_facts hq hq0 hc
  have hm := Gf2.div_add_mod q hc0
  rw [(Gf2.dvd_iff_mod hc0).1 hc, Nat.xor_zero] at hm
  have he1 : Gf2.pdiv q c ≠ 1 := fun e => by rw [e, Gf2.one_mul] at hm; exact h2 hm
  have hl2 := Gf2.len_mul he0 hc0
  rw [hm] at hl2
  have c2 : len c ≠ 1 := fun e => h1 (Gf2.len_eq_one.1 e)
  have e2 : len (Gf2.pdiv q c) ≠ 1 := fun e => he1 (Gf2.len_eq_one.1 e)
  have := Gf2.len_pos hc0
  have := Gf2.len_pos he0
  have := len_le_64 hq
  exact ⟨hc0, he0, lt_of_len (by omega), he64, h1, he1, by omega, by omega, by rw [Gf2.mul_comm]; exact hm⟩

/-- What the factors of p are. -/
def IsFac (p : Nat) (l : List Nat) : Prop := (∀ x ∈ l, Irr x) ∧ prodL l = p
theorem IsFac.few {p : Nat} {l : List Nat} (h : IsFac p l) (hp : p < 2 ^ 64) : l.length ≤ 63 := by
  have := Gf2.prodL_len h.1
  rw [h.2] at this
  have := len_le_64 hp
  omega
theorem IsFac.ne {p : Nat} {l : List Nat} (h : IsFac p l) (hp : p ≠ 1) : l ≠ [] := fun e => hp (by rw [← h.2, e]; rfl)
theorem IsFac.append {p q r : Nat} {l m : List Nat} (h : IsFac p l) (k : IsFac q m) (e : Gf2.mul p q = r) : IsFac r (l ++ m) :=
  ⟨fun x hx => by rcases List.mem_append.1 hx with hx | hx; · exact h.1 x hx
                  · exact k.1 x hx, by rw [Gf2.prodL_append, h.2, k.2, e]⟩

set_option maxRecDepth 100000 in
set_option maxHeartbeats 3200000 in
theorem rfactors_calls : ∀ (f p : Nat), len p ≤ f → p < 2 ^ 64 → p ≠ 0 → ∀ w : World,
    Calls Try.prog 80 #[U p] w fun e w' => ∃ v l, e = .returned v ∧ OwnU w' w.heap.size v l ∧ Below w.heap.size w w' ∧ IsFac p l := by
  intro f
  induction f with
  | zero => intro p h _ h0; exact absurd (Gf2.len_eq_zero.1 (Nat.le_zero.1 h)) h0
  | succ f ih =>
    intro p hf hp hp0 w
    have hdg := rdegree_calls p hp
    have hl64 := len_le_64 hp
    obtain ⟨B, hBe⟩ : ∃ B, w.heap.size = B := ⟨_, rfl⟩
    rw [hBe]
    by_cases h2 : len p < 2
    · have H1 := Lib.hid (show p = 1 from Gf2.len_eq_one.1 (by have := Gf2.len_pos hp0; omega))
      have hli : (len p : Int) - 1 < 1 := by omega
      clear ih
      go_enter Try.func80, Try.ntmps80
      go_wp2_with (go_at_call 18; refine (hdg _).mono ?_; rintro e w1 ⟨rfl, rfl⟩)
      go_ret
      exact ⟨_, [], rfl, OwnU.nil _ _, Below.refl _ _, fun x hx => by simp at hx, by rw [H1.out]; rfl⟩
    have hli : ¬ (len p : Int) - 1 < 1 := by omega
    have hirr := RIrreducible_calls p hp
    by_cases hI : Irr p
    · rw [(Gf2.irrB_iff p).2 hI] at hirr
      have HI := Lib.hid hI
      clear ih hI
      go_enter Try.func80, Try.ntmps80
      go_wp2_with (first
        | (go_at_call 18; refine (hdg _).mono ?_; rintro e w1 ⟨rfl, rfl⟩)
        | (go_at_call 29; refine (hirr _).mono ?_; rintro e w1 ⟨rfl, rfl⟩))
      go_ret
      refine ⟨_, [p], rfl, ?_, (Below.refl B w).alloc (Nat.le_of_eq hBe.symm) _, fun x hx => by rw [List.mem_singleton.1 hx]; exact HI.out, by rw [Gf2.prodL_cons]; exact Gf2.mul_one p⟩
      have hown := World.ownsRow_lit (e := 22) (size := 1) w #[.int .u64 p] 1 (Nat.le_of_eq hBe.symm) (by unfold maxLen; omega) rfl
      rw [hBe] at hown
      exact hown
    have hib : Gf2.irrB p = false := by
      cases h : Gf2.irrB p with
      | false => rfl
      | true => exact absurd ((Gf2.irrB_iff p).1 h) hI
    rw [hib] at hirr
    have hder := rderived_calls p hp
    have hdl := Nat.lt_of_le_of_lt (Nat.le_of_lt (Gf2.der_lt hp0)) hp
    have IH := Lib.hid ih
    clear ih hib
    by_cases hd0 : Gf2.der p = 0
    · rw [hd0] at hder
      obtain ⟨A, hA⟩ : ∃ A, Gf2.evens p = A := ⟨_, rfl⟩
      have hsq := Gf2.der_zero hd0
      rw [hA] at hsq
      have hA32 : A < 2 ^ 32 := Gf2.sq_lt (k := 32) (by rw [← hsq]; exact hp)
      have hA0 : A ≠ 0 := fun e => hp0 (by rw [hsq, e, Gf2.sq_zero])
      have hA1 : A ≠ 1 := fun e => h2 (by rw [hsq, e, Gf2.sq_one, Gf2.len_one]; omega)
      have hroot := rroot_calls A hA32 (by rw [← hsq]; exact hp)
      rw [← hsq] at hroot
      have hlA := Gf2.len_mul hA0 hA0
      rw [show Gf2.mul A A = p from hsq.symm] at hlA
      have hA2 : len A ≠ 1 := fun e => hA1 (Gf2.len_eq_one.1 e)
      have := Gf2.len_pos hA0
      have hA64 : A < 2 ^ 64 := Nat.lt_trans hA32 (by decide)
      have ihA := IH.out A (by omega) hA64 hA0
      have HSQ := Lib.hid (show Gf2.mul A A = p from hsq.symm)
      clear hd0 hsq hA hI
      go_enter Try.func80, Try.ntmps80
      go_wp2_with (first
        | (go_at_call 18; refine (hdg _).mono ?_; rintro e w1 ⟨rfl, rfl⟩)
        | (go_at_call 29; refine (hirr _).mono ?_; rintro e w1 ⟨rfl, rfl⟩)
        | (go_at_call 99; refine (hder _).mono ?_; rintro e w1 ⟨rfl, rfl⟩)
        | (go_at_call 100; refine (hroot _).mono ?_; rintro e w1 ⟨rfl, rfl⟩)
        | (go_at_call 80; refine (ihA _).mono ?_; clear ihA; rintro e w2 ⟨v2, l2, rfl, own2, hb2, fac2⟩
           have hne2 := fac2.ne hA1
           have hfew2 := fac2.few hA64
           obtain ⟨g2, c2, rfl⟩ := own2.form hne2)
        | (go_at_call 101; refine (clone64_calls (some ⟨g2, 0, none⟩) c2 l2 _ own2.slAt (by omega) (fun h => by cases h)).mono ?_
           rintro e w3 ⟨v3, rfl, own3, hb3⟩
           have own3' : OwnU w3 w2.heap.size v3 l2 := own3
           have own2b := own2.below hb3
           have hszB : B ≤ w2.heap.size := (by have := hb2.size; omega)
           have hszC : w2.heap.size ≤ w3.heap.size := hb3.size
           have hlen3 : l2.length + l2.length ≤ 2 ^ 40 := (by omega))
        | (at_builtin; refine wpList_append_U rfl _ _ rfl w2.heap.size _ _ rfl own3' _ _ _ rfl own2b hne2 hlen3 hszC ?_
           intro v4 w4 own4 grow4))
      go_ret
      refine ⟨v4, l2 ++ l2, rfl, own4.lift hszB, ?_, fac2.append fac2 HSQ.out⟩
      rw [hBe] at hb2
      exact (hb2.trans (hb3.mono hszB)).grown grow4 (by omega) (fun k e => Nat.le_trans hszB (own3'.lt k e).1)
    · have hd0b : ((Gf2.der p : Int) == 0) = false := beq_false (by omega)
      have hcom := rcommon_calls p (Gf2.der p) hp hdl
      have hgl := Gf2.gcd_dvd_left p (Gf2.der p)
      have hgn := gcd_der_ne hp0 hd0
      have hg0 := Gf2.gcd_ne_zero (b := Gf2.der p) hp0
      have hg64 : Gf2.gcd p (Gf2.der p) < 2 ^ 64 := gcd_lt64 hp hp0
      have hred := fun h => sqx_of_reducible (p := p) (by omega) h hI
      generalize Gf2.gcd p (Gf2.der p) = g0 at *
      generalize Gf2.der p = dp at *
      have hdg0 := rdegree_calls g0 hg64
      -- behind the choice of a divisor
      have tail : ∀ g, Gf2.Dvd g p → g ≠ 1 → g ≠ p → ∃ q, q = Gf2.pdiv p g ∧ IsFac p = IsFac p := fun g _ _ _ => ⟨_, rfl, rfl⟩
      clear tail
      by_cases hg1 : g0 = 1
      · have hlg : len g0 = 1 := Gf2.len_eq_one.2 hg1
        have hte : ((len g0 : Int) - 1 == 0) = true := by rw [hlg]; rfl
        have hsp := rsplit_calls p (by omega) hp (hred hg1)
        have HSP := Lib.hid hsp
        clear hred hsp hgl hgn hg0 hI hg1
        go_enter Try.func80, Try.ntmps80
        go_wp2_with (first
          | (go_at_call 18; first | (refine (hdg _).mono ?_; rintro e w1 ⟨rfl, rfl⟩; clear hdg) | (refine (hdg0 _).mono ?_; rintro e w1 ⟨rfl, rfl⟩))
          | (go_at_call 29; refine (hirr _).mono ?_; rintro e w1 ⟨rfl, rfl⟩)
          | (go_at_call 99; refine (hder _).mono ?_; rintro e w1 ⟨rfl, rfl⟩)
          | (go_at_call 64; refine (hcom _).mono ?_; rintro e w1 ⟨rfl, rfl⟩)
          | (go_at_call 102; refine (HSP.out _).mono ?_; rintro e ws ⟨g, rfl, hgg64, hdvd, hn1, hnp, hbs⟩
             obtain ⟨c0, e0, c64, e64, c1, e1, cl, el, hmul⟩ := parts_of hp hp0 hdvd hn1 hnp
             have hdv := rdivide_calls p g hp c64 c0
             have ihc := IH.out g (by omega) c64 c0
             have ihq := IH.out (Gf2.pdiv p g) (by omega) e64 e0
             have HM := Lib.hid hmul
             clear hmul hdvd
             generalize Gf2.pdiv p g = qd at *
             generalize Gf2.pmod p g = qm at *)
          | (go_at_call 68; refine (hdv _).mono ?_; rintro e wd ⟨rfl, rfl⟩)
          | (go_at_call 80; refine (ihc _).mono ?_; clear ihc; rintro e w3 ⟨v3, l3, rfl, own3, hb3, fac3⟩)
          | (go_at_call 80; refine (ihq _).mono ?_; clear ihq; rintro e w5 ⟨v5, l5, rfl, own5, hb5, fac5⟩
             have own3b := own3.below hb5
             have hne5 := fac5.ne e1
             have hf3 := fac3.few c64
             have hf5 := fac5.few e64
             have hlen5 : l3.length + l5.length ≤ 2 ^ 40 := (by omega)
             have hs3 := hb3.size
             have hs5 := hb5.size
             have hss := hbs.size)
          | (at_builtin; refine wpList_append_U rfl _ _ rfl ws.heap.size _ _ rfl own3b _ _ _ rfl own5 hne5 hlen5 (by omega) ?_
             intro v8 w8 own8 grow8))
        go_ret
        rw [hBe] at hbs hss
        refine ⟨v8, l3 ++ l5, rfl, own8.lift hss, ?_, fac3.append fac5 HM.out⟩
        exact ((hbs.trans (hb3.mono hss)).trans (hb5.mono (by omega))).grown grow8 (by omega) (fun k e => Nat.le_trans hss (own3b.lt k e).1)
      · have hte : ((len g0 : Int) - 1 == 0) = false := beq_false (by have := Gf2.len_pos hg0; have : len g0 ≠ 1 := fun e => hg1 (Gf2.len_eq_one.1 e); omega)
        obtain ⟨c0, e0, c64, e64, c1, e1, cl, el, hmul⟩ := parts_of hp hp0 hgl hg1 hgn
        have hdv := rdivide_calls p g0 hp c64 c0
        have ihc := IH.out g0 (by omega) c64 c0
        have ihq := IH.out (Gf2.pdiv p g0) (by omega) e64 e0
        have HM := Lib.hid hmul
        clear hmul hred hgl hgn hg0 hI hg1
        generalize Gf2.pdiv p g0 = qd at *
        generalize Gf2.pmod p g0 = qm at *
        go_enter Try.func80, Try.ntmps80
        go_wp2_with (first
          | (go_at_call 18; first | (refine (hdg _).mono ?_; rintro e w1 ⟨rfl, rfl⟩; clear hdg) | (refine (hdg0 _).mono ?_; rintro e w1 ⟨rfl, rfl⟩))
          | (go_at_call 29; refine (hirr _).mono ?_; rintro e w1 ⟨rfl, rfl⟩)
          | (go_at_call 99; refine (hder _).mono ?_; rintro e w1 ⟨rfl, rfl⟩)
          | (go_at_call 64; refine (hcom _).mono ?_; rintro e w1 ⟨rfl, rfl⟩)
          | (go_at_call 68; refine (hdv _).mono ?_; rintro e wd ⟨rfl, rfl⟩)
          | (go_at_call 80; refine (ihc _).mono ?_; clear ihc; rintro e w3 ⟨v3, l3, rfl, own3, hb3, fac3⟩)
          | (go_at_call 80; refine (ihq _).mono ?_; clear ihq; rintro e w5 ⟨v5, l5, rfl, own5, hb5, fac5⟩
             have own3b := own3.below hb5
             have hne5 := fac5.ne e1
             have hf3 := fac3.few c64
             have hf5 := fac5.few e64
             have hlen5 : l3.length + l5.length ≤ 2 ^ 40 := (by omega)
             have hs3 := hb3.size
             have hs5 := hb5.size)
          | (at_builtin; refine wpList_append_U rfl _ _ rfl w.heap.size _ _ rfl own3b _ _ _ rfl own5 hne5 hlen5 (by omega) ?_
             intro v8 w8 own8 grow8))
        go_ret
        rw [hBe] at own8 hb3 hs3 own3b
        refine ⟨v8, l3 ++ l5, rfl, own8, ?_, fac3.append fac5 HM.out⟩
        exact (hb3.trans (hb5.mono (by omega))).grown grow8 (by omega) (fun k e => (own3b.lt k e).1)
end Go.Proofs.Ytjgfcnhnlaobcaa
namespace Go.Proofs.Ytjgfcnhnlaobcaa
open Go.RowKit
open Gf2 (len Irr prodL)

set_option maxHeartbeats 800000 in
theorem RFactors_calls (p : Nat) (hp : p < 2 ^ 64) (hp0 : p ≠ 0) (w : World) :
    Calls Try.prog 38 #[U p] w fun e w' => ∃ v, e = .returned (.tuple #[v, I 0]) ∧ OwnU w' w.heap.size v (facL p) ∧ Below w.heap.size w w' := by
  have hfa := rfactors_calls 64 p (len_le_64 hp) hp hp0 w
  have hpz : ((p : Int) == 0) = false := beq_false (by omega)
  go_enter Try.func38, Try.ntmps38
  go_wp2_with (first
    | (go_at_call 80; refine hfa.mono ?_; rintro e w1 ⟨v, l, rfl, hown, hb, hfac⟩; have hfew := hfac.few hp)
    | (go_at_call 79; refine (ownSort_calls v l _ _ hown (by omega)).mono ?_; rintro e w2 ⟨rfl, hown2, hg⟩))
  go_ret2
  refine ⟨v, rfl, ?_, hb.grown hg hb.size (fun k e => (hown.lt k e).1)⟩
  rw [← facL_unique hp0 hp hfac.1 hfac.2]
  exact hown2
set_option maxHeartbeats 800000 in
theorem RFactors_zero (w : World) : Calls Try.prog 38 #[U 0] w fun e w' => e = .returned (.tuple #[.slice none 0 0, I 1]) ∧ w' = w := by
  go_enter Try.func38, Try.ntmps38
  go_wp2
  go_ret2
  exact ⟨rfl, rfl⟩
end Go.Proofs.Ytjgfcnhnlaobcaa
