/- A region that draws its order, by an invariant over what has been done; a world in which one block has been written. -/
import Derived.Test.YtjgfcnhnlaobcaaBase
namespace Go.Proofs.Ytjgfcnhnlaobcaa
open Go.RowKit

/-- Each operation comes behind those that it waits for. -/
def dag (ops : Array Oper) : Bool := (List.range ops.size).all fun i => ((ops[i]?).map fun o => o.after.all fun e => !Region.binds .any e || e.on < i).getD true
theorem dag_spec {ops : Array Oper} (h : dag ops = true) : ∀ i o, ops[i]? = some o → ∀ e ∈ o.after, Region.binds .any e = true → e.on < i := by
  intro i o ho e he hb
  have hlt := (Array.getElem?_eq_some_iff.1 ho).1
  have := List.all_eq_true.1 h i (List.mem_range.2 hlt)
  rw [ho] at this
  simp only [Option.map_some, Option.getD_some, Array.all_eq_true_iff_forall_mem] at this
  have := this e he
  simpa [hb] using this

section
variable {P : Program} {ops : Array Oper} {Q : Exit → Act → World → Prop}

/-- Whatever the order is: what holds of the operations that are done (L) holds in the end of all of them. -/
theorem region_inv {id : Nat} {a : Act} {w : World} (hm : P.follows .mixedOrders = true) (J : (Nat → Bool) → Act → World → Prop)
    (hdag0 : dag ops = true)
    (h0 : J (fun _ => false) a w.drew)
    (hs : ∀ i o L a w, ops[i]? = some o → L i = false → (∀ e ∈ o.after, Region.binds .any e = true → L e.on = true) → J L a w → wpOp P ops Q i (fun a' w' => J (fun j => j == i || L j) a' w') a w)
    (he : ∀ L a w, (∀ i, i < ops.size → L i = true) → J L a w → Q .normal a w) : (Code.region id ops true).wp P Q a w := by
  have hdag := dag_spec hdag0
  refine wp_region_any hm ?_
  have key : ∀ fuel listed a w, listed.size = ops.size → J (fun j => listed.getD j false) a w → ops.size ≤ fuel + (List.range ops.size).countP (fun j => listed.getD j false) → wpAny P .any ops Q fuel listed a w := by
    intro fuel
    induction fuel with
    | zero =>
      intro listed a w hsz hJ hc
      have hall : ∀ i, i < ops.size → listed.getD i false = true := by
        have : (List.range ops.size).countP (fun j => listed.getD j false) = (List.range ops.size).length := by
          have := List.countP_le_length (l := List.range ops.size) (p := fun j => listed.getD j false)
          rw [List.length_range] at *; omega
        intro i hi
        exact List.countP_eq_length.1 this i (List.mem_range.2 hi)
      have hr : Region.ready .any ops listed = [] := by
        refine List.eq_nil_iff_forall_not_mem.2 fun i hi => ?_
        obtain ⟨h1, o, ho, _⟩ := mem_ready.1 hi
        have hlt := (Array.getElem?_eq_some_iff.1 ho).1
        have := hall i hlt
        have e : listed.getD i true = listed.getD i false := by simp [Array.getElem?_eq_getElem (show i < listed.size by omega)]
        rw [e, this] at h1
        exact absurd h1 (by decide)
      exact ⟨hr, he _ a w hall hJ⟩
    | succ fuel ih =>
      intro listed a w hsz hJ hc
      refine ⟨fun hr => ?_, fun i hi => ?_⟩
      · refine he _ a w ?_ hJ
        intro i
        induction i using Nat.strongRecOn with
        | ind i ihi =>
          intro hi
          refine Classical.byContradiction fun hn => ?_
          have hn' : listed.getD i false = false := by simpa using hn
          have hmem : i ∈ Region.ready .any ops listed := by
            refine mem_ready.2 ⟨?_, ops[i], Array.getElem?_eq_getElem hi, fun e hem hb => ?_⟩
            · simpa [Array.getElem?_eq_getElem (show i < listed.size by omega)] using hn'
            · have hlt := hdag i ops[i] (Array.getElem?_eq_getElem hi) e hem hb
              exact ihi e.on hlt (by omega)
          rw [hr] at hmem
          exact absurd hmem (by simp)
      · obtain ⟨h1, o, ho, hd⟩ := mem_ready.1 hi
        have hlt := (Array.getElem?_eq_some_iff.1 ho).1
        have hL : listed.getD i false = false := by
          simpa [Array.getElem?_eq_getElem (show i < listed.size by omega)] using h1
        refine wpOp_mono (fun a' w' hJ' => ?_) (hs i o _ a w ho hL hd hJ)
        have hfun : (fun j => j == i || listed.getD j false) = fun j => (listed.setIfInBounds i true).getD j false := by
          funext j
          by_cases hij : i = j
          · subst hij; simp [show i < listed.size by omega]
          · rw [getD_set_ne false hij]; simp [Ne.symm hij]
        rw [hfun] at hJ'
        refine ih _ a' w' (by simpa using hsz) hJ' ?_
        have hcnt : (List.range ops.size).countP (fun j => listed.getD j false) + 1 ≤ (List.range ops.size).countP (fun j => (listed.setIfInBounds i true).getD j false) := by
          rw [← hfun]
          have hi' : i ∈ List.range ops.size := List.mem_range.2 hlt
          have gen : ∀ l : List Nat, i ∈ l → l.countP (fun j => listed.getD j false) + 1 ≤ l.countP (fun j => j == i || listed.getD j false) := by
            intro l
            induction l with
            | nil => intro h; exact absurd h (by simp)
            | cons x l ihl =>
              intro hm
              have hle : l.countP (fun j => listed.getD j false) ≤ l.countP (fun j => j == i || listed.getD j false) := List.countP_mono_left fun j _ h => by simp [h]
              by_cases hx : x = i
              · subst hx
                rw [List.countP_cons, List.countP_cons, hL]
                simp only [BEq.rfl, Bool.true_or, Bool.false_eq_true, if_false, if_true]
                omega
              · have := ihl (by rcases List.mem_cons.1 hm with e | e; exact absurd e.symm hx; exact e)
                rw [List.countP_cons, List.countP_cons]
                simp only [beq_eq_false_iff_ne.2 hx, Bool.false_or]
                omega
          exact gen _ hi'
        omega
  refine key ops.size (Array.replicate ops.size false) a _ (by simp) ?_ (by omega)
  have : (fun j => (Array.replicate ops.size false).getD j false) = fun _ => false := by
    funext j
    by_cases h : j < ops.size <;> simp [h]
  rw [this]
  exact h0
end

/-- One block has been written: nothing else. -/
structure Upd (b : Nat) (o : Obj) (w w' : World) : Prop where
  os : w'.os = w.os
  tape : w'.tape = w.tape
  output : w'.output = w.output
  size : w'.heap.size = w.heap.size
  at_ : w'.heap[b]? = some o
  block : ∀ k, k ≠ b → w'.heap[k]? = w.heap[k]?

theorem Upd.refl {b : Nat} {o : Obj} {w : World} (h : w.heap[b]? = some o) : Upd b o w w := ⟨rfl, rfl, rfl, rfl, h, fun _ _ => rfl⟩
theorem Upd.trans {b : Nat} {o o' : Obj} {w w' w'' : World} (h : Upd b o w w') (k : Upd b o' w' w'') : Upd b o' w w'' :=
  ⟨k.os.trans h.os, k.tape.trans h.tape, k.output.trans h.output, k.size.trans h.size, k.at_, fun i hi => (k.block i hi).trans (h.block i hi)⟩
theorem Upd.setCell {b : Nat} {v u : Value} {t : TypeId} {w : World} (h : w.heap[b]? = some (.cells #[v] t (0, 0))) : Upd b (.cells #[u] t (0, 0)) w (w.setCell ⟨b, 0, none⟩ u) :=
  ⟨rfl, rfl, rfl, by simp [World.setCell], one_setCell h, fun k hk => Below.heap_setCell _ _ _ _ hk⟩
theorem Upd.drew {b : Nat} {o : Obj} {w w' : World} (h : Upd b o w w') (n : Nat) : Upd b o w (w'.drewN n) := ⟨h.os, h.tape, h.output, h.size, h.at_, h.block⟩
theorem Upd.below {B b : Nat} {o : Obj} {w w' : World} (h : Upd b o w w') (hb : B ≤ b) : Below B w w' :=
  ⟨h.os, h.tape, h.output, Nat.le_of_eq h.size.symm, fun k hk => h.block k (by omega)⟩
theorem Below.newBlock {B : Nat} {a w : World} (h : Below B a w) (hB : B ≤ w.heap.size) (o : Obj) : Below B a (w.alloc o) ∧ (w.alloc o).heap[w.heap.size]? = some o :=
  ⟨h.alloc hB o, by show (w.heap.push o)[w.heap.size]? = _; simp⟩
theorem alloc_old {w : World} {k : Nat} {o x : Obj} (h : w.heap[k]? = some x) : (w.alloc o).heap[k]? = some x := by
  rw [Below.heap_alloc _ _ _ (lt_of_block h), h]
theorem alloc_new (w : World) (o : Obj) : (w.alloc o).heap[w.heap.size]? = some o := by show (w.heap.push o)[w.heap.size]? = _; simp
end Go.Proofs.Ytjgfcnhnlaobcaa
