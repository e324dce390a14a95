/- Fingerprints as remainders of the number that a text is: sums of texts, texts that are joined, texts that differ in one byte. -/
import Derived.Test.YtjgfcnhnlaobcaaPoly5
namespace Gf2

/-- The number that bytes are behind a number. -/
def numOn (f : Nat) (l : List Nat) : Nat := l.foldl (fun a b => 2 ^ 8 * a + b) f
/-- The number that bytes are. -/
def num (l : List Nat) : Nat := numOn 0 l

theorem numOn_cons (f b : Nat) (l : List Nat) : numOn f (b :: l) = numOn (2 ^ 8 * f + b) l := rfl
theorem numOn_append (f : Nat) (l m : List Nat) : numOn f (l ++ m) = numOn (numOn f l) m := List.foldl_append ..
theorem len_byte {b : Nat} (h : b < 256) : b < 2 ^ 8 := h

theorem pow_split (n : Nat) : 2 ^ (8 * (n + 1)) = 2 ^ (8 * n) * 2 ^ 8 := by rw [Nat.mul_add, Nat.mul_one, Nat.pow_add]

/-- A number ahead of bytes stands in their place's power. -/
theorem numOn_eq (l : List Nat) (h : ∀ x ∈ l, x < 256) : ∀ f, numOn f l = (2 ^ (8 * l.length) * f) ^^^ num l := by
  induction l with
  | nil => intro f; show f = (2 ^ (8 * 0) * f) ^^^ 0; simp
  | cons b l ih =>
    intro f
    have hb : b < 2 ^ 8 := h b (by simp)
    have ih' := ih fun x hx => h x (by simp [hx])
    rw [num, numOn_cons, numOn_cons, ih', ih' (2 ^ 8 * 0 + b), add_eq_xor hb, Nat.mul_zero, Nat.zero_add, ← mul_two_pow, xor_mul, mul_two_pow, mul_two_pow, Nat.xor_assoc, List.length_cons, pow_split, Nat.mul_assoc]

theorem num_cons (b : Nat) (l : List Nat) (h : ∀ x ∈ l, x < 256) : num (b :: l) = (2 ^ (8 * l.length) * b) ^^^ num l := by
  rw [num, numOn_cons, numOn_eq l h, Nat.mul_zero, Nat.zero_add]

theorem num_lt (l : List Nat) (h : ∀ x ∈ l, x < 256) : num l < 2 ^ (8 * l.length) := by
  induction l with
  | nil => decide
  | cons b l ih =>
    have hb : b < 2 ^ 8 := h b (by simp)
    have hl := ih fun x hx => h x (by simp [hx])
    rw [num_cons b l fun x hx => h x (by simp [hx]), ← add_eq_xor hl, List.length_cons, pow_split]
    generalize 2 ^ (8 * l.length) = t at *
    have : t * (b + 1) ≤ t * 2 ^ 8 := Nat.mul_le_mul_left t hb
    rw [Nat.mul_add, Nat.mul_one] at this
    omega

theorem num_append (l m : List Nat) (hm : ∀ x ∈ m, x < 256) : num (l ++ m) = (2 ^ (8 * m.length) * num l) ^^^ num m := by
  rw [num, numOn_append, numOn_eq m hm]; rfl

/-- Bytes are known by their number. -/
theorem num_inj : ∀ (l m : List Nat), l.length = m.length → (∀ x ∈ l, x < 256) → (∀ x ∈ m, x < 256) → num l = num m → l = m
  | [], [], _, _, _, _ => rfl
  | [], _ :: _, h, _, _, _ => by simp at h
  | _ :: _, [], h, _, _, _ => by simp at h
  | b :: l, c :: m, h, hl, hm, e => by
    have hl' : ∀ x ∈ l, x < 256 := fun x hx => hl x (by simp [hx])
    have hm' : ∀ x ∈ m, x < 256 := fun x hx => hm x (by simp [hx])
    have h' : l.length = m.length := by simpa using h
    have h1 := num_lt l hl'
    have h2 := num_lt m hm'
    rw [num_cons b l hl', num_cons c m hm', ← add_eq_xor h1, ← add_eq_xor h2, h'] at e
    rw [h'] at h1
    have hbc : b = c := by
      have e1 : (2 ^ (8 * m.length) * b + num l) / 2 ^ (8 * m.length) = b := by
        rw [Nat.mul_add_div (Nat.two_pow_pos _), Nat.div_eq_of_lt h1, Nat.add_zero]
      have e2 : (2 ^ (8 * m.length) * c + num m) / 2 ^ (8 * m.length) = c := by
        rw [Nat.mul_add_div (Nat.two_pow_pos _), Nat.div_eq_of_lt h2, Nat.add_zero]
      rw [← e1, e, e2]
    subst hbc
    have : num l = num m := by omega
    rw [num_inj l m h' hl' hm' this]

theorem onByte_mod {p : Nat} (hp : p ≠ 0) (f b : Nat) (hb : b < 256) : onByte p (pmod f p) b = pmod (2 ^ 8 * f + b) p := by
  have hb' : b < 2 ^ 8 := hb
  rw [onByte, add_eq_xor hb', mod_xor _ _ hp, mod_pow_mul hp, ← mod_xor _ _ hp, ← add_eq_xor hb']

/-- The fingerprint of bytes is the remainder of their number. -/
theorem onBytes_mod {p : Nat} (hp : p ≠ 0) (l : List Nat) (h : ∀ x ∈ l, x < 256) : ∀ f, onBytes p (pmod f p) l = pmod (numOn f l) p := by
  induction l with
  | nil => intro f; rfl
  | cons b l ih =>
    intro f
    show onBytes p (onByte p (pmod f p) b) l = _
    rw [onByte_mod hp f b (h b (by simp)), ih (fun x hx => h x (by simp [hx])), numOn_cons]

theorem onBytes_eq {p f : Nat} (hf : len f < len p) (l : List Nat) (h : ∀ x ∈ l, x < 256) : onBytes p f l = pmod ((2 ^ (8 * l.length) * f) ^^^ num l) p := by
  have hp : p ≠ 0 := fun e => by rw [e, len_zero] at hf; omega
  have := onBytes_mod hp l h f
  rw [mod_of_lt hf] at this
  rw [this, numOn_eq l h]

theorem one_lt {p : Nat} (h : 2 ≤ len p) : len 1 < len p := by rw [len_one]; omega

/-- The fingerprint of a text. -/
theorem fp_eq {p : Nat} (h2 : 2 ≤ len p) (l : List Nat) (h : ∀ x ∈ l, x < 256) : onBytes p 1 l = pmod (2 ^ (8 * l.length)) p ^^^ pmod (num l) p := by
  have hp : p ≠ 0 := fun e => by rw [e, len_zero] at h2; omega
  rw [onBytes_eq (one_lt h2) l h, Nat.mul_one, mod_xor _ _ hp]

/-- The exclusive or of texts. -/
def xorL (l m : List Nat) : List Nat := List.zipWith (· ^^^ ·) l m
theorem xorL_length {l m : List Nat} (h : l.length = m.length) : (xorL l m).length = l.length := by simp [xorL, h]
theorem byte_xor {a b : Nat} (ha : a < 256) (hb : b < 256) : a ^^^ b < 256 := Nat.xor_lt_two_pow (n := 8) ha hb
theorem xorL_lt : ∀ (l m : List Nat), (∀ x ∈ l, x < 256) → (∀ x ∈ m, x < 256) → ∀ x ∈ xorL l m, x < 256
  | [], _, _, _, x, h => by simp [xorL] at h
  | _ :: _, [], _, _, x, h => by simp [xorL] at h
  | a :: l, b :: m, hl, hm, x, h => by
    have h' : x = a ^^^ b ∨ x ∈ xorL l m := by simpa [xorL] using h
    rcases h' with rfl | h'
    · exact byte_xor (hl a (by simp)) (hm b (by simp))
    · exact xorL_lt l m (fun x hx => hl x (by simp [hx])) (fun x hx => hm x (by simp [hx])) x h'
theorem num_xorL : ∀ (l m : List Nat), l.length = m.length → (∀ x ∈ l, x < 256) → (∀ x ∈ m, x < 256) → num (xorL l m) = num l ^^^ num m
  | [], [], _, _, _ => rfl
  | [], _ :: _, h, _, _ => by simp at h
  | _ :: _, [], h, _, _ => by simp at h
  | a :: l, b :: m, h, hl, hm => by
    have hl' : ∀ x ∈ l, x < 256 := fun x hx => hl x (by simp [hx])
    have hm' : ∀ x ∈ m, x < 256 := fun x hx => hm x (by simp [hx])
    have h' : l.length = m.length := by simpa using h
    have ih := num_xorL l m h' hl' hm'
    show num ((a ^^^ b) :: xorL l m) = _
    rw [num_cons _ _ (xorL_lt l m hl' hm'), num_cons a l hl', num_cons b m hm', ih, xorL_length h', ← h', xor4]
    congr 1
    rw [← mul_two_pow, ← mul_two_pow, ← mul_two_pow, xor_mul]

/-- P20.8. -/
theorem fp_linear {p : Nat} (h2 : 2 ≤ len p) (l m : List Nat) (h : l.length = m.length) (hl : ∀ x ∈ l, x < 256) (hm : ∀ x ∈ m, x < 256) :
    onBytes p 1 (xorL l m) = onBytes p 1 l ^^^ onBytes p 1 m ^^^ powm p (xr p) (8 * l.length) := by
  have hp : p ≠ 0 := fun e => by rw [e, len_zero] at h2; omega
  rw [fp_eq h2 _ (xorL_lt l m hl hm), fp_eq h2 l hl, fp_eq h2 m hm, powm_x h2, num_xorL l m h hl hm, xorL_length h, mod_xor _ _ hp, ← h]
  generalize pmod (2 ^ (8 * l.length)) p = t
  generalize pmod (num l) p = a
  generalize pmod (num m) p = b
  rw [xor4, Nat.xor_self, Nat.zero_xor, Nat.xor_comm]

/-- P20.9: Join. -/
theorem fp_join {p : Nat} (h2 : 2 ≤ len p) (l m : List Nat) (hl : ∀ x ∈ l, x < 256) (hm : ∀ x ∈ m, x < 256) :
    mm p (onBytes p 1 l) (powm p (xr p) (8 * m.length)) ^^^ onBytes p 1 m ^^^ powm p (xr p) (8 * m.length) = onBytes p 1 (l ++ m) := by
  have hp : p ≠ 0 := fun e => by rw [e, len_zero] at h2; omega
  have hlm : ∀ x ∈ l ++ m, x < 256 := fun x hx => (List.mem_append.1 hx).elim (hl x) (hm x)
  rw [fp_eq h2 _ hlm, fp_eq h2 m hm, fp_eq h2 l hl, powm_x h2, num_append l m hm, List.length_append, ← mod_xor _ _ hp, mm_mod_left hp, mm_mod_right hp, mm, mul_two_pow, mod_xor _ _ hp, ← mul_two_pow _ (8 * m.length), xor_mul, mul_two_pow, mod_xor _ _ hp, mul_two_pow, ← Nat.pow_add, show 8 * m.length + 8 * l.length = 8 * (l.length + m.length) by omega]
  generalize pmod (2 ^ (8 * (l.length + m.length))) p = a
  generalize pmod (2 ^ (8 * m.length) * num l) p = b
  generalize pmod (2 ^ (8 * m.length)) p = c
  generalize pmod (num m) p = d
  apply Nat.eq_of_testBit_eq
  intro i
  simp only [Nat.testBit_xor]
  cases a.testBit i <;> cases b.testBit i <;> cases c.testBit i <;> cases d.testBit i <;> rfl

/-- P20.9: Change. -/
theorem fp_change {p : Nat} (h2 : 2 ≤ len p) (l : List Nat) (i c : Nat) (hi : i < l.length) (hl : ∀ x ∈ l, x < 256) (hc : c < 256) :
    onBytes p 1 l ^^^ mm p (pmod (l.getD i 0 ^^^ c) p) (powm p (xr p) (8 * (l.length - 1 - i))) = onBytes p 1 (l.set i c) := by
  have hp : p ≠ 0 := fun e => by rw [e, len_zero] at h2; omega
  have hm : ∀ x ∈ l.set i c, x < 256 := fun x hx => (List.mem_or_eq_of_mem_set hx).elim (hl x) (fun e => by omega)
  have hdr : ∀ x ∈ l.drop (i + 1), x < 256 := fun x hx => hl x (List.mem_of_mem_drop hx)
  have hg : l.getD i 0 = l[i] := by simp [hi]
  have hb : l[i] < 256 := hl _ (List.getElem_mem hi)
  have e1 : l = l.take i ++ l[i] :: l.drop (i + 1) := by simp
  have e2 : l.set i c = l.take i ++ c :: l.drop (i + 1) := by rw [List.set_eq_take_append_cons_drop, if_pos hi]
  have hd1 : ∀ x ∈ l[i] :: l.drop (i + 1), x < 256 := fun x hx => by
    rcases List.mem_cons.1 hx with rfl | hx
    · exact hb
    · exact hdr x hx
  have hd2 : ∀ x ∈ c :: l.drop (i + 1), x < 256 := fun x hx => by
    rcases List.mem_cons.1 hx with rfl | hx
    · exact hc
    · exact hdr x hx
  have n1 : num l = (2 ^ (8 * (l.length - i)) * num (l.take i)) ^^^ ((2 ^ (8 * (l.length - 1 - i)) * l[i]) ^^^ num (l.drop (i + 1))) := by
    conv => lhs; rw [e1]
    rw [num_append _ _ hd1, num_cons _ _ hdr]
    simp only [List.length_cons, List.length_drop]
    rw [show l.length - (i + 1) = l.length - 1 - i by omega, show l.length - 1 - i + 1 = l.length - i by omega]
  have n2 : num (l.set i c) = (2 ^ (8 * (l.length - i)) * num (l.take i)) ^^^ ((2 ^ (8 * (l.length - 1 - i)) * c) ^^^ num (l.drop (i + 1))) := by
    rw [e2, num_append _ _ hd2, num_cons _ _ hdr]
    simp only [List.length_cons, List.length_drop]
    rw [show l.length - (i + 1) = l.length - 1 - i by omega, show l.length - 1 - i + 1 = l.length - i by omega]
  rw [fp_eq h2 l hl, fp_eq h2 _ hm, powm_x h2, mm_mod_left hp, mm_mod_right hp, mm, mul_two_pow, n1, n2, hg, List.length_set]
  rw [← mul_two_pow (l[i] ^^^ c), xor_mul, mul_two_pow, mul_two_pow]
  simp only [mod_xor _ _ hp]
  generalize pmod (2 ^ (8 * l.length)) p = a
  generalize pmod (2 ^ (8 * (l.length - i)) * num (l.take i)) p = b
  generalize pmod (2 ^ (8 * (l.length - 1 - i)) * l[i]) p = x
  generalize pmod (2 ^ (8 * (l.length - 1 - i)) * c) p = y
  generalize pmod (num (l.drop (i + 1))) p = d
  apply Nat.eq_of_testBit_eq
  intro j
  simp only [Nat.testBit_xor]
  cases a.testBit j <;> cases b.testBit j <;> cases x.testBit j <;> cases y.testBit j <;> cases d.testBit j <;> rfl

/-- P20.10: texts that are as long and have at most as many bits as the degree. -/
theorem fp_inj {p : Nat} (h2 : 2 ≤ len p) (l m : List Nat) (h : l.length = m.length) (hs : 8 * l.length < len p) (hl : ∀ x ∈ l, x < 256) (hm : ∀ x ∈ m, x < 256) :
    onBytes p 1 l = onBytes p 1 m ↔ l = m := by
  constructor
  · intro e
    rw [fp_eq h2 l hl, fp_eq h2 m hm, ← h] at e
    have e' := xor_left_cancel e
    have h1 : len (num l) < len p := Nat.lt_of_le_of_lt (len_le_iff.2 (num_lt l hl)) hs
    have h3 : len (num m) < len p := Nat.lt_of_le_of_lt (len_le_iff.2 (num_lt m hm)) (by omega)
    rw [mod_of_lt h1, mod_of_lt h3] at e'
    exact num_inj l m h hl hm e'
  · intro e; rw [e]

end Gf2
