/- Walks: the factors of a polynomial, in the order in which they are found. -/
import Derived.Test.YtjgfcnhnlaobcaaWw
import Derived.Test.YtjgfcnhnlaobcaaWh
import Derived.Deep.Onto
namespace Go.Proofs.Ytjgfcnhnlaobcaa
open Go.RowKit

def U64 (l : List Nat) : List Value := l.map fun x : Nat => Value.int .u64 x
/-- A slice of the call's own. -/
def OwnU (w : World) (base : Nat) (v : Value) (l : List Nat) : Prop := w.ownsRow base 22 1 v l.length (U64 l)
theorem U64_length (l : List Nat) : (U64 l).length = l.length := by simp [U64]
theorem U64_append (l m : List Nat) : U64 (l ++ m) = U64 l ++ U64 m := by simp [U64]
theorem OwnU.kept {w w' : World} {base : Nat} {v : Value} {l : List Nat} {row : Option Nat} (h : OwnU w base v l) (hg : w.grownBy w' row) (hne : v.ownBlock = none ∨ v.ownBlock ≠ row) : OwnU w' base v l := World.ownsRow.kept h hg hne
theorem OwnU.below {w w' : World} {base : Nat} {v : Value} {l : List Nat} (h : OwnU w base v l) (hb : Below w.heap.size w w') : OwnU w' base v l :=
  h.kept (grownBy_below' hb) (by cases hv : v.ownBlock with | none => exact .inl rfl | some k => exact .inr (by simp))
  where grownBy_below' {A C : World} (h : Below A.heap.size A C) : A.grownBy C none := ⟨h.os, h.tape, h.output, h.size, fun k hk _ => h.block k hk⟩
theorem OwnU.lt {w : World} {base : Nat} {v : Value} {l : List Nat} (h : OwnU w base v l) : ∀ k, v.ownBlock = some k → base ≤ k ∧ k < w.heap.size := World.ownsRow.lt h
theorem OwnU.nil (w : World) (base : Nat) : OwnU w base (.slice none 0 0) [] := World.ownsRow_nil w base 22 1
theorem OwnU.lift {w : World} {base base' : Nat} {v : Value} {l : List Nat} (h : OwnU w base v l) (hb : base' ≤ base) : OwnU w base' v l := World.ownsRow.mono h hb
theorem OwnU.form {w : World} {base : Nat} {v : Value} {l : List Nat} (h : OwnU w base v l) (hne : l ≠ []) : ∃ g cap, v = .slice (some ⟨g, 0, none⟩) l.length cap := by
  obtain ⟨x, t, rfl⟩ : ∃ x t, l = x :: t := by cases l with | nil => exact absurd rfl hne | cons x t => exact ⟨x, t, rfl⟩
  exact ownsRow_succ h

theorem wpList_append_U {ops : Array Oper} {rest : List Oper} {o : Oper} {a : Act} {w : World} {Q : Exit → Act → World → Prop} (hgd : o.guard = none) (s x : Operand)
    (ho : o.op = .call { callee := .builtin .append, args := #[s, x], argTypes := #[54, 54] })
    (base : Nat) (v : Value) (l : List Nat) (hs : a.eval s = v) (hown : OwnU w base v l) (base2 : Nat) (v2 : Value) (l2 : List Nat) (hx : a.eval x = v2) (hown2 : OwnU w base2 v2 l2) (hne : l2 ≠ [])
    (hlen : l.length + l2.length ≤ 2 ^ 40) (hb : base ≤ w.heap.size)
    (h : ∀ v' w', OwnU w' base v' (l ++ l2) → w.grownBy w' v.ownBlock → wpList Try.prog ops Q rest (a.put o.dst v') w') : wpList Try.prog ops Q (o :: rest) a w := by
  obtain ⟨i0, hi, hz0, hz1, hz2⟩ := info_parts Try.info22k
  obtain ⟨g, cap, rfl⟩ := hown2.form hne
  refine wpList_append_own w hgd s x 54 ho base 22 i0 (.int .u64 0) 1 8 Try.underlying54 hi hz0 hz1 hz2 rfl (by decide) v l.length (U64 l) hs hown ⟨g, 0, none⟩ l2.length cap (U64 l2) hx (by simp [U64]) ?_ ?_ (by unfold maxLen; omega) (by omega) hb ?_
  · exact World.ownsRow.cells hown2 rfl
  · intro u hu; obtain ⟨y, _, rfl⟩ := List.mem_map.1 hu; rfl
  · intro v' w' h1 h2 _
    refine h v' w' ?_ h2
    unfold OwnU
    rw [List.length_append, U64_append]
    exact h1

theorem wpList_append_1 {ops : Array Oper} {rest : List Oper} {o : Oper} {a : Act} {w : World} {Q : Exit → Act → World → Prop} (hgd : o.guard = none) (s x : Operand)
    (ho : o.op = .call { callee := .builtin .append, args := #[s, x], argTypes := #[54, 54] })
    (base : Nat) (v : Value) (l : List Nat) (hs : a.eval s = v) (hown : OwnU w base v l) (b c y : Nat) (hx : a.eval x = .slice (some ⟨b, 0, none⟩) 1 c) (hy : w.cell? ⟨b, 0, none⟩ = some (U y))
    (hlen : l.length + 1 ≤ 2 ^ 40) (hb : base ≤ w.heap.size)
    (h : ∀ v' w', OwnU w' base v' (l ++ [y]) → w.grownBy w' v.ownBlock → wpList Try.prog ops Q rest (a.put o.dst v') w') : wpList Try.prog ops Q (o :: rest) a w := by
  obtain ⟨i0, hi, hz0, hz1, hz2⟩ := info_parts Try.info22k
  refine wpList_append_own w hgd s x 54 ho base 22 i0 (.int .u64 0) 1 8 Try.underlying54 hi hz0 hz1 hz2 rfl (by decide) v l.length (U64 l) hs hown ⟨b, 0, none⟩ 1 c (U64 [y]) hx (by simp [U64]) ?_ ?_ (by unfold maxLen; omega) (by omega) hb ?_
  · intro j u hj
    cases j with
    | zero => simp [U64] at hj; subst hj; rw [Addr.add_lit]; exact hy
    | succ j => simp [U64] at hj
  · intro u hu; obtain ⟨y, _, rfl⟩ := List.mem_map.1 hu; rfl
  · intro v' w' h1 h2 _
    refine h v' w' ?_ h2
    unfold OwnU
    rw [List.length_append, U64_append]
    exact h1

def tz : Nat → Nat → Nat × Nat
  | 0, p => (0, p)
  | f + 1, p => if p % 2 = 0 then ((tz f (p / 2)).1 + 1, (tz f (p / 2)).2) else (0, p)
def slope (q : Nat) : Nat := (q &&& 12297829382473034410) / 2
def short (l : List Nat) : Option (List Nat) := if l.length ≤ 200 then some l else none
def fact2 (out : List Nat) : Option (List Nat) → Option (List Nat) → Option (List Nat)
  | some (x :: l), some (y :: m) => short (out ++ (x :: l) ++ (y :: m))
  | _, _ => none
def factF : Nat → Nat → Option (List Nat)
  | 0, _ => none
  | f + 1, p =>
    if (tz 64 p).2 = 1 then some (List.replicate (tz 64 p).1 2)
    else if slope (tz 64 p).2 = 0 then fact2 (List.replicate (tz 64 p).1 2) (factF f (rootN 32 (tz 64 p).2)) (factF f (rootN 32 (tz 64 p).2))
    else if Gf2.gcd (tz 64 p).2 (slope (tz 64 p).2) = 1 then
      if Gf2.gcd (tz 64 p).2 (splitF (tz 64 p).2) = (tz 64 p).2 then some (List.replicate (tz 64 p).1 2 ++ [(tz 64 p).2])
      else fact2 (List.replicate (tz 64 p).1 2) (factF f (Gf2.gcd (tz 64 p).2 (splitF (tz 64 p).2))) (factF f (Gf2.pdiv (tz 64 p).2 (Gf2.gcd (tz 64 p).2 (splitF (tz 64 p).2))))
    else fact2 (List.replicate (tz 64 p).1 2) (factF f (Gf2.gcd (tz 64 p).2 (slope (tz 64 p).2))) (factF f (Gf2.pdiv (tz 64 p).2 (Gf2.gcd (tz 64 p).2 (slope (tz 64 p).2))))
end Go.Proofs.Ytjgfcnhnlaobcaa
