/- A region that draws its order, whose operations read and whose callees lay new blocks alone. -/
import Derived.Test.YtjgfcnhnlaobcaaRnq
namespace Go.Proofs.Ytjgfcnhnlaobcaa
open Go.RowKit

structure BelowW (w : World) where
  val : World
  h : Below w.heap.size w val
instance (w : World) : Nonempty (BelowW w) := ⟨⟨w, Below.refl _ _⟩⟩

theorem wp_region_below_lit {P : Program} {id : Nat} {Q : Exit → Act → World → Prop} {a : Act} {w : World} {l : List Oper} (hm : P.follows .mixedOrders = true) (hB : Region.lexB .any l.toArray = true)
    (h : wpQuiet P l.toArray (fun w' => ∃ x : BelowW w, w' = x.val) (fun a' => ∀ w', (∃ x : BelowW w, w' = x.val) → Q .normal a' w') l a) : (Code.region id l.toArray true).wp P Q a w :=
  wp_region_quiet (C := fun w' => ∃ x : BelowW w, w' = x.val) hm hB ⟨⟨{ w with drawn := w.drawn + 1 }, (Below.refl _ w).drew⟩, rfl⟩ (by simpa using h)

theorem Calls.below_of {P : Program} {f : FuncId} {args : Array Value} {w : World} {x : BelowW w} {v : Value}
    (h : Calls P f args x.val fun e w' => e = .returned v ∧ Below x.val.heap.size x.val w') : Calls P f args x.val fun e w' => e = .returned v ∧ ∃ y : BelowW w, w' = y.val :=
  h.mono fun _ w' ⟨h1, h2⟩ => ⟨h1, ⟨w', x.h.trans (h2.mono x.h.size)⟩, rfl⟩
theorem Calls.below_same {P : Program} {f : FuncId} {args : Array Value} {w : World} {x : BelowW w} {v : Value}
    (h : Calls P f args x.val fun e w' => e = .returned v ∧ x.val = w') : Calls P f args x.val fun e w' => e = .returned v ∧ ∃ y : BelowW w, w' = y.val :=
  h.mono fun _ _ ⟨h1, h2⟩ => ⟨h1, x, h2.symm⟩

end Go.Proofs.Ytjgfcnhnlaobcaa
