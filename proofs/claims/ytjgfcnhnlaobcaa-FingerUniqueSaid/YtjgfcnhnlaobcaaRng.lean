/- A range over a function whose elements are a known list: what an iterator promises (it may write one block of its own), and the statement. -/
import Derived.RangeFuncNested
import Derived.RangeFuncBound
import Derived.RangeFuncCalls
import Derived.RangeFuncLeaves
import Derived.Shelf.Abstract
import Derived.Shelf.RegionOpen
import Derived.WalkKit
import Derived.OwnWalkIn
import Derived.TacticsInMore
import Derived.LoopNIn
import Derived.LoopIn
import Derived.Test.YtjgfcnhnlaobcaaReg
namespace Go.Proofs.Ytjgfcnhnlaobcaa
open Go.RowKit

/-- What yield does at a round. -/
abbrev Yields (P : Program) (l : Nat) (args : Array Value) (W : World) (R : Ending → World → Prop) : Prop := YieldAt Fence.wide 0 P l args W R

/-- A function that hands the elements of L to yield, one after the other; between two rounds it may write the block row; ks are the blocks that it reads between two rounds. -/
def Iter {α : Type} (P : Program) (g : Nat) (lb : Array Value) (enc : α → Array Value) (row : Option Nat) (ks : List Nat) (L : List α) (w0 : World) : Prop :=
  ∀ (l : Nat) (J Jx : List α → World → Prop) (W : World), (∀ k ∈ ks, W.heap[k]? = w0.heap[k]?) → w0.heap.size ≤ W.heap.size →
    (∀ s A B r, J s A → A.grownBy B r → (r = none ∨ r = row) → J s B) → (∀ s A B r, Jx s A → A.grownBy B r → (r = none ∨ r = row) → Jx s B) →
    (∀ pre x W1, pre ++ [x] <+: L → J pre W1 → Yields P l (enc x) W1 fun e W' =>
      (e = .returned (.bool true) ∧ J (pre ++ [x]) W' ∧ (∀ k ∈ ks, W'.heap[k]? = W1.heap[k]?) ∧ W1.heap.size ≤ W'.heap.size) ∨ (e = .returned (.bool false) ∧ Jx (pre ++ [x]) W')) →
    J [] W →
    CallsIn Fence.wide 0 P g (#[.func (.yield l) #[] #[]] ++ lb) W fun e W' => (∃ v, e = .returned v) ∧ (J L W' ∨ ∃ pre, pre <+: L ∧ Jx pre W')

theorem grownBy_putObj {W : World} {l : Nat} {o : Obj} : W.grownBy (W.putObj l o) (some l) := grownBy_putObj' W l o

/-- How a round may be left: the blocks of the loop's own (B and the next one) lie as they lay. -/
def rngPost {α : Type} (B : Nat) (ks : List Nat) (I : List α → World → Prop) (Ix : Code → List α → World → Prop) (xs : List α) (W : World) : Exit → Act → World → Prop
  | .normal, _, W' => W'.heap[B]? = W.heap[B]? ∧ W'.heap[B + 1]? = W.heap[B + 1]? ∧ (∀ k ∈ ks, W'.heap[k]? = W.heap[k]?) ∧ W.heap.size ≤ W'.heap.size ∧ I xs W'
  | .ret, _, W' => W'.heap[B]? = W.heap[B]? ∧ W'.heap[B + 1]? = W.heap[B + 1]? ∧ Ix .ret xs W'
  | .exit id, _, W' => W'.heap[B]? = W.heap[B]? ∧ W'.heap[B + 1]? = W.heap[B + 1]? ∧ Ix (.exit id) xs W'
  | .goto t, _, W' => W'.heap[B]? = W.heap[B]? ∧ W'.heap[B + 1]? = W.heap[B + 1]? ∧ Ix (.goto t) xs W'
  | .panic _, _, _ => False
  | .outgrown, _, _ => False

theorem wp_range {P : Program} {α : Type} {g : Operand} {ps : Array Tmp} {assign body : Code} {Q : Exit → Act → World → Prop} {a : Act} {w : World}
    {gf : Nat} {lb : Array Value} (hg : a.eval g = .func (.func gf) #[] lb) (eg : ∀ args w, (callFunc gf args).run P w = .ok (.enter gf args) w)
    {enc : α → Array Value} {row : Option Nat} {ks : List Nat} {L : List α} (hit : Iter P gf lb enc row ks L w)
    (hks : ∀ k ∈ ks, k < w.heap.size) (hrow : ∀ k, row = some k → k < w.heap.size) (hps : ∀ x, (enc x).size = ps.size)
    (I : List α → World → Prop) (Ix : Code → List α → World → Prop)
    (hI : ∀ s A B r, I s A → A.grownBy B r → (∀ k, r = some k → row = some k ∨ w.heap.size ≤ k) → I s B)
    (hIx : ∀ c s A B r, Ix c s A → A.grownBy B r → (∀ k, r = some k → row = some k ∨ w.heap.size ≤ k) → Ix c s B)
    (h0 : I [] w) (a₁ : α → Act)
    (hassign : ∀ (l : Nat) (x : α) (W : World) (K : Act → World → Prop), K (a₁ x) W →
      assign.wpIn (Fence.wide.inRound l) 0 P (Exit.then K (fun _ _ _ => False)) { tmps := (ps.zip (enc x)).foldl (fun t (p, v) => t.setIfInBounds p v) a.tmps, defers := [] } W)
    (hbody : ∀ (l : Nat) (pre : List α) (x : α) (W : World), pre ++ [x] <+: L → w.heap.size + 1 < W.heap.size → I pre W → body.wpIn (Fence.wide.inRound l) 0 P (rngPost w.heap.size ks I Ix (pre ++ [x]) W) (a₁ x) W)
    (hdone : ∀ (W : World), I L W → W.heap[w.heap.size]? = some (.deferred (some [])) → Q .normal { a with defers := { target := .collected w.heap.size, args := #[] } :: a.defers } W)
    (hstop : ∀ (c : Code) (pre : List α) (W : World), pre <+: L → Ix c pre W → W.heap[w.heap.size]? = some (.deferred (some [])) → c.wpIn Fence.wide 0 P Q { a with defers := { target := .collected w.heap.size, args := #[] } :: a.defers } W) :
    (Code.rangeFunc g ps assign body).wpIn Fence.wide 0 P Q a w := by
  refine wpIn_rangeFunc ?_
  intro fn hfn
  obtain ⟨rec, hrec⟩ : ∃ rec : LoopState → Option Code → Loop, rec = fun st pe => { state := st, pending := pe, fn, tmps := a.tmps, params := ps, assign, body, defers := w.heap.size } := ⟨_, rfl⟩
  obtain ⟨W1, hW1⟩ : ∃ W1, (w.alloc (.deferred (some []))).alloc (.loop (rec .ready none)) = W1 := ⟨_, rfl⟩
  have hL1 : W1.heap[w.heap.size + 1]? = some (.loop (rec .ready none)) := by
    rw [← hW1]; have := World.alloc_heap_new (w.alloc (.deferred (some []))) (.loop (rec .ready none)); rwa [World.size_alloc] at this
  have hK1 : W1.heap[w.heap.size]? = some (.deferred (some [])) := by
    rw [← hW1]; exact (Below.heap_alloc _ _ _ (by simp)).trans (World.alloc_heap_new w _)
  have hI1 : I [] W1 := by
    rw [← hW1]
    exact hI _ _ _ none (hI _ _ _ none h0 (World.grownBy_alloc _ _ none) (fun k e => by cases e)) (World.grownBy_alloc _ _ none) (fun k e => by cases e)
  have hold : ∀ k, k < w.heap.size → W1.heap[k]? = w.heap[k]? := fun k hk => by
    rw [← hW1, Below.heap_alloc _ _ _ (by simp; omega), Below.heap_alloc _ _ _ hk]
  have hsz1 : w.heap.size ≤ W1.heap.size := by rw [← hW1]; simp; omega
  refine ⟨w.heap.size + 1, [{ target := .collected w.heap.size, args := #[] }], W1, { target := .fn (.func gf) lb, args := #[.func (.yield (w.heap.size + 1)) #[] #[]] }, W1, gf,
    #[.func (.yield (w.heap.size + 1)) #[] #[]] ++ lb, W1, ?_, ?_, ?_, ?_, (fun h => by cases h), ?_⟩
  · rw [← hW1, hrec]; exact run_enterLoop_outer _ _ _ _ _
  · simp only [resolve, hg]
    simp [go_sem]
  · intro f' _; trivial
  · simp [invoke, go_sem, eg]
  · have hkeep : ∀ {A B : World} {r : Option Nat} {k : Nat} {o : Obj}, A.grownBy B r → (r = none ∨ r = row) → w.heap.size ≤ k → A.heap[k]? = some o → B.heap[k]? = some o := by
      intro A B r k o hgr hr hk ho
      refine (hgr.block k (Array.getElem?_eq_some_iff.1 ho).1 ?_).trans ho
      rintro rfl
      rcases hr with hr | hr
      · cases hr
      · have := hrow k hr.symm; omega
    have hImp : ∀ {r : Option Nat}, (r = none ∨ r = row) → ∀ k, r = some k → row = some k ∨ w.heap.size ≤ k := by
      intro r hr k e
      rcases hr with hr | hr
      · rw [hr] at e; cases e
      · exact .inl (hr ▸ e)
    refine (hit (w.heap.size + 1)
      (fun pre W => I pre W ∧ W.heap[w.heap.size + 1]? = some (.loop (rec .ready none)) ∧ W.heap[w.heap.size]? = some (.deferred (some [])))
      (fun pre W => ∃ c, Ix c pre W ∧ W.heap[w.heap.size + 1]? = some (.loop (rec .done (some c))) ∧ W.heap[w.heap.size]? = some (.deferred (some [])))
      W1 (fun k hk => hold k (hks k hk)) hsz1
      (fun s A B r hs hg' hr => ⟨hI s A B r hs.1 hg' (hImp hr), hkeep hg' hr (by omega) hs.2.1, hkeep hg' hr (Nat.le_refl _) hs.2.2⟩)
      (fun s A B r hs hg' hr => by
        obtain ⟨c, hc, hl, hk⟩ := hs
        exact ⟨c, hIx c s A B r hc hg' (hImp hr), hkeep hg' hr (by omega) hl, hkeep hg' hr (Nat.le_refl _) hk⟩)
      ?_ ⟨hI1, hL1, hK1⟩).mono ?_
    · rintro pre x W hpre ⟨hi, hl, hk⟩
      have hlt : w.heap.size + 1 < W.heap.size := (Array.getElem?_eq_some_iff.1 hl).1
      have hy := run_yield (P := P) (args := enc x) hl (by rw [hrec]; exact hps x)
      rw [hrec] at hy
      refine ⟨fn, _, assign, body, hy, roundIn_of_wpIn hfn (hassign _ x W _ ?_)⟩
      clear hy
      refine ⟨_, run_beginRound hl (by rw [hrec]), ?_⟩
      obtain ⟨Wb, hWb⟩ : ∃ Wb, Wb = W.putObj (w.heap.size + 1) (.loop { rec .ready none with state := .busy }) := ⟨_, rfl⟩
      have hl2 : Wb.heap[w.heap.size + 1]? = some (.loop { rec .ready none with state := .busy }) := by rw [hWb]; exact World.putObj_heap_same hlt
      have hoth : ∀ k, k ≠ w.heap.size + 1 → Wb.heap[k]? = W.heap[k]? := fun k hne => by rw [hWb]; exact World.putObj_heap_other hne
      have hk2 : Wb.heap[w.heap.size]? = some (.deferred (some [])) := (hoth _ (by omega)).trans hk
      have hszb : Wb.heap.size = W.heap.size := by rw [hWb]; simp [World.putObj]
      have hib : I pre Wb := by rw [hWb]; exact hI _ _ _ _ hi grownBy_putObj (fun k e => by cases e; exact .inr (by omega))
      rw [← hWb]
      refine wpIn_mono (hbody _ pre x Wb hpre (by omega) hib) ?_
      have fin : ∀ (jump : Option Code) (W3 : World), W3.heap[w.heap.size]? = Wb.heap[w.heap.size]? → W3.heap[w.heap.size + 1]? = Wb.heap[w.heap.size + 1]? →
          (Instr.endRound (w.heap.size + 1) jump).run P W3 = .ok (.bool jump.isNone) (W3.putObj (w.heap.size + 1) (.loop (rec (if jump.isNone then .ready else .done) jump))) ∧
          (W3.putObj (w.heap.size + 1) (.loop (rec (if jump.isNone then .ready else .done) jump))).heap[w.heap.size + 1]? = some (.loop (rec (if jump.isNone then .ready else .done) jump)) ∧
          (W3.putObj (w.heap.size + 1) (.loop (rec (if jump.isNone then .ready else .done) jump))).heap[w.heap.size]? = some (.deferred (some [])) := fun jump W3 e1 e2 => by
        have hl3 := e2.trans hl2
        have := run_endRound (P := P) jump hl3
        rw [hrec] at this ⊢
        exact ⟨this, World.putObj_heap_same (Array.getElem?_eq_some_iff.1 hl3).1, (World.putObj_heap_other (by omega)).trans (e1.trans hk2)⟩
      rintro e a3 W3 hp
      cases e with
      | normal =>
        obtain ⟨e1, e2, hks3, hsz3, hi3⟩ := hp
        obtain ⟨hr, hl4, hk4⟩ := fin none W3 e1 e2
        refine ⟨_, _, hr, .inl ⟨rfl, ⟨hI _ _ _ _ hi3 grownBy_putObj (fun k e => by cases e; exact .inr (by omega)), hl4, hk4⟩, fun k hkk => ?_, ?_⟩⟩
        · have := hks k hkk
          rw [World.putObj_heap_other (by omega), hks3 k hkk, hoth k (by omega)]
        · simp only [World.putObj, Array.size_setIfInBounds]; omega
      | ret =>
        obtain ⟨e1, e2, hi3⟩ := hp
        obtain ⟨hr, hl4, hk4⟩ := fin (some .ret) W3 e1 e2
        exact ⟨_, _, hr, .inr ⟨rfl, .ret, hIx _ _ _ _ _ hi3 grownBy_putObj (fun k e => by cases e; exact .inr (by omega)), hl4, hk4⟩⟩
      | exit id =>
        obtain ⟨e1, e2, hi3⟩ := hp
        obtain ⟨hr, hl4, hk4⟩ := fin (some (.exit id)) W3 e1 e2
        exact ⟨_, _, hr, .inr ⟨rfl, .exit id, hIx _ _ _ _ _ hi3 grownBy_putObj (fun k e => by cases e; exact .inr (by omega)), hl4, hk4⟩⟩
      | goto t =>
        obtain ⟨e1, e2, hi3⟩ := hp
        obtain ⟨hr, hl4, hk4⟩ := fin (some (.goto t)) W3 e1 e2
        exact ⟨_, _, hr, .inr ⟨rfl, .goto t, hIx _ _ _ _ _ hi3 grownBy_putObj (fun k e => by cases e; exact .inr (by omega)), hl4, hk4⟩⟩
      | panic ch => exact hp.elim
      | outgrown => exact hp.elim
    · rintro e W2 ⟨⟨v, rfl⟩, (⟨hi, hl, hk⟩ | ⟨pre, hpre, c, hi, hl, hk⟩)⟩
      · exact ⟨none, _, by have := run_endLoop (P := P) hl (by rw [hrec]; simp); rw [hrec] at this; exact this,
          hdone _ (hI _ _ _ _ hi grownBy_putObj (fun k e => by cases e; exact .inr (by omega))) ((World.putObj_heap_other (by omega)).trans hk)⟩
      · exact ⟨some c, _, by have := run_endLoop (P := P) hl (by rw [hrec]; simp); rw [hrec] at this; exact this,
          hstop c pre _ hpre (hIx _ _ _ _ _ hi grownBy_putObj (fun k e => by cases e; exact .inr (by omega))) ((World.putObj_heap_other (by omega)).trans hk)⟩
end Go.Proofs.Ytjgfcnhnlaobcaa
