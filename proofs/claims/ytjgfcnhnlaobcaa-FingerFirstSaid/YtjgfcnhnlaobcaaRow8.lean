/- A row of bytes that the law itself lays: its first k bytes; slices of bytes that came in, and their prefixes. -/
import Derived.Test.YtjgfcnhnlaobcaaSb
import Derived.Test.YtjgfcnhnlaobcaaPoly8
import Derived.Deep.OwnRows
namespace Go.Proofs.Ytjgfcnhnlaobcaa
open Go.RowKit

/-- A row of n bytes at block B, of which the first k are known. -/
def Row8 (B n k : Nat) (T : Nat → Nat) (w : World) : Prop :=
  ∃ C : Array Value, w.heap[B]? = some (.cells C 5 (0, 0)) ∧ C.size = n ∧ ∀ j, j < k → C[j]? = some (.int .u8 (T j))
theorem Row8.free {B n k : Nat} {T : Nat → Nat} {w : World} (h : Row8 B n k T w) (o : Nat) : w.frozen? ⟨B, o, none⟩ = false := by
  obtain ⟨C, h1, _, _⟩ := h
  simp [World.frozen?, h1]
theorem Row8.some_cell {B n k : Nat} {T : Nat → Nat} {w : World} (h : Row8 B n k T w) {o : Nat} (ho : o < n) : ∃ v, w.cell? ⟨B, o, none⟩ = some v := by
  obtain ⟨C, h1, h2, _⟩ := h
  exact ⟨C[o], by simp [World.cell?, h1, h2, ho]⟩
theorem Row8.cell {B n k : Nat} {T : Nat → Nat} {w : World} (h : Row8 B n k T w) {j : Nat} (hj : j < k) : w.cell? ⟨B, j, none⟩ = some (.int .u8 (T j)) := by
  obtain ⟨C, h1, h2, h3⟩ := h
  have := h3 j hj
  simp [World.cell?, h1, this]
theorem Row8.of_below {B b n k : Nat} {T : Nat → Nat} {w w' : World} (h : Row8 B n k T w) (hb : Below b w w') (hlt : B < b) : Row8 B n k T w' := by
  obtain ⟨C, h1, r⟩ := h
  exact ⟨C, (hb.block B hlt).trans h1, r⟩
theorem Row8.drew {B n k : Nat} {T : Nat → Nat} {w : World} (h : Row8 B n k T w) : Row8 B n k T w.drew := h
theorem Row8.store {B n k : Nat} {T : Nat → Nat} {w : World} (h : Row8 B n k T w) (hk : k < n) : Row8 B n (k + 1) T (w.setCell ⟨B, k, none⟩ (.int .u8 (T k))) := by
  obtain ⟨C, h1, h2, h5⟩ := h
  refine ⟨C.setIfInBounds k (.int .u8 (T k)), ?_, by simpa using h2, ?_⟩
  · have hlt := lt_of_block h1
    have h' : w.heap[B] = .cells C 5 (0, 0) := by simpa [Array.getElem?_eq_getElem hlt] using h1
    show (w.heap.modify B _)[B]? = _
    rw [Array.getElem?_eq_getElem (by simpa using hlt), Array.getElem_modify_self, h']
    rfl
  · intro j hj
    by_cases e : j = k
    · rw [e, Array.getElem?_setIfInBounds, if_pos rfl, if_pos (by omega)]
    · rw [Array.getElem?_setIfInBounds_ne (by omega)]; exact h5 j (by omega)
theorem Row8.made (n : Nat) (T : Nat → Nat) (w : World) : Row8 w.heap.size n 0 T (w.alloc (.cells (madeCells #[.int .u8 0] n) 5)) :=
  ⟨_, alloc_new w _, size_madeCells _ _, fun j hj => absurd hj (by omega)⟩
theorem Row8.lt {B n k : Nat} {T : Nat → Nat} {w : World} (h : Row8 B n k T w) : B < w.heap.size := by
  obtain ⟨C, h1, _⟩ := h
  exact lt_of_block h1
theorem Row8.below' {B n k : Nat} {T : Nat → Nat} {w w' : World} (h : Row8 B n k T w) (hb : Below w.heap.size w w') : Row8 B n k T w' := h.of_below hb h.lt
/-- The whole row reads as bytes. -/
theorem Row8.bytes {B n : Nat} {T : Nat → Nat} {w : World} {l : List Nat} (h : Row8 B n n T w) (hl : l.length = n) (h256 : ∀ x ∈ l, x < 256) (hT : ∀ j, j < n → T j = l.getD j 0) : BytesAt w (some ⟨B, 0, none⟩) l := by
  refine ⟨h256, .inr ⟨B, 0, rfl, fun i hi => ?_⟩⟩
  rw [Nat.zero_add, h.cell (show i < n by omega), hT i (by omega)]

theorem make8 (n : Nat) (hn : n ≤ 281474976710656) (w : World) : (Instr.makeSlice 35 (.int .i64 (n : Int)) (.int .i64 (n : Int))).run Try.prog w = .ok (.slice (some ⟨w.heap.size, 0, none⟩) n n) (w.alloc (.cells (madeCells #[.int .u8 0] n) 5)) :=
  Go.run_make_row' 35 5 (.int .u8 0) 1 Try.underlying35 Try.info5k rfl .i64 .i64 n (by omega) (by omega) w

theorem BytesAt.take {w : World} {a : Option Addr} {l : List Nat} (h : BytesAt w a l) (n : Nat) : BytesAt w a (l.take n) := by
  refine ⟨fun x hx => h.1 x (List.mem_of_mem_take hx), ?_⟩
  rcases h.2 with rfl | ⟨b, off, rfl, hc⟩
  · exact .inl (by simp)
  · refine .inr ⟨b, off, rfl, fun i hi => ?_⟩
    have h1 : i < n ∧ i < l.length := by
      have : i < min n l.length := by simpa using hi
      omega
    rw [hc i h1.2]
    simp [List.getD, h1.1]
theorem BytesAt.drop {w : World} {b off : Nat} {l : List Nat} (h : BytesAt w (some ⟨b, off, none⟩) l) (n : Nat) : BytesAt w (some ⟨b, off + n, none⟩) (l.drop n) := by
  refine ⟨fun x hx => h.1 x (List.mem_of_mem_drop hx), ?_⟩
  rcases h.2 with rfl | ⟨b', off', e, hc⟩
  · exact .inl (by simp)
  · cases e
    refine .inr ⟨b, off + n, rfl, fun i hi => ?_⟩
    have h1 : i < l.length - n := by simpa using hi
    rw [Nat.add_assoc, hc (n + i) (by omega)]
    simp [List.getD, List.getElem?_drop]
theorem BytesAt.cell {w : World} {b off : Nat} {l : List Nat} (h : BytesAt w (some ⟨b, off, none⟩) l) {i : Nat} (hi : i < l.length) : ∃ x : Nat, l.getD i 0 = x ∧ x < 256 ∧ w.cell? ⟨b, off + i, none⟩ = some (.int .u8 x) := by
  refine ⟨_, rfl, h.1 _ (by simp [List.getD, hi]), ?_⟩
  rcases h.2 with rfl | ⟨b', off', e, hc⟩
  · simp at hi
  · cases e
    exact hc i hi

theorem BytesAt.at {w : World} {a : Option Addr} {l : List Nat} (h : BytesAt w a l) (i : Nat) (hi : i < l.length) : ∃ x : Nat, l.getD i 0 = x ∧ x < 256 ∧ ∃ b off, a = some ⟨b, off, none⟩ ∧ w.cell? ⟨b, off + i, none⟩ = some (.int .u8 x) := by
  refine ⟨_, rfl, h.1 _ (by simp [List.getD, hi]), ?_⟩
  rcases h.2 with rfl | ⟨b, off, rfl, hc⟩
  · simp at hi
  · exact ⟨b, off, rfl, hc i hi⟩

/-- Contracts at a slice's length under another name. -/
theorem Of_n (p c n : Nat) (a : Option Addr) (l : List Nat) (hp : p < 2 ^ 64) (w : World) (hl : BytesAt w a l) (he : l.length = n) (hn : n < 2 ^ 60) :
    Calls Try.prog 30 #[U p, .slice a n c] w fun e w' => e = .returned (.tuple #[U (tExtend p 1 l).1, I (tExtend p 1 l).2]) ∧ Below w.heap.size w w' := by
  subst he; exact Of_calls p c a l hp w hl hn
theorem Extend_n (p f c n : Nat) (a : Option Addr) (l : List Nat) (hp : p < 2 ^ 64) (hf : f < 2 ^ 64) (w : World) (hl : BytesAt w a l) (he : l.length = n) (hn : n < 2 ^ 60) :
    Calls Try.prog 46 #[U p, U f, .slice a n c] w fun e w' => e = .returned (.tuple #[U (tExtend p f l).1, I (tExtend p f l).2]) ∧ Below w.heap.size w w' := by
  subst he; exact Extend_calls p f c a l hp hf w hl hn
theorem tExtend_one {p : Nat} {l : List Nat} (h5 : 5 ≤ Gf2.len p) (h : l.length ≤ 100000) : tExtend p 1 l = (Gf2.onBytes p 1 l, 0) := by
  rw [tExtend, if_neg (by omega), if_neg (by rw [Gf2.len_one]; omega), if_neg (by omega)]
theorem tExtend_bad {p f : Nat} {l : List Nat} (h5 : Gf2.len p < 5) : tExtend p f l = (0, 200) := by rw [tExtend, if_pos h5]
end Go.Proofs.Ytjgfcnhnlaobcaa
