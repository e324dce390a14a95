/- What a law is told of a slice of texts that came in. -/
import Derived.Test.YtjgfcnhnlaobcaaLb2
import Derived.Test.YtjgfcnhnlaobcaaWs
import Derived.Deep.Slices
import Derived.SizedLaws
import Derived.ProofKit
namespace Go.Proofs.Ytjgfcnhnlaobcaa
open Go.ChangeShapes Go.WideShapes Go.ChangeAt Go.RowKit

theorem weights_all_mem {H : Type} {P : Program} {e : TypeId} : ∀ {ds : List (DataW H)} {d : DataW H}, d ∈ ds → ∀ n ∈ d.weights P e, n ∈ DataW.weightsAll P e ds
  | d0 :: ds, d, hd, n, hn => by
    simp only [DataW.weightsAll, List.mem_append]
    rcases List.mem_cons.1 hd with rfl | hd
    · exact .inl hn
    · exact .inr (weights_all_mem hd n hn)
  | [], _, hd, _, _ => by simp at hd

theorem cells33 : Try.prog.cellsOf 35 = 1 := by kernel_rfl
theorem cells5 : Try.prog.cellsOf 5 = 1 := by kernel_rfl

/-- A slice of texts that came in reads so; each text and the slice itself are within the reach. -/
theorem open_texts {H : Type} {enc : TypeId × Value → H} {w : World} {spare : Nat → Bool} {held : Bool} {fuel : Nat} {a : Option Addr} {len cap : Nat} {d : DataW H} {p : List MemPlace}
    (hsp : ∀ k, spare k = true) (h : DataW.trod enc Try.prog w 0 spare held fuel 33 [.slice a len cap] = some (d, p)) (hw : ∀ n ∈ d.weights Try.prog 33, n ≤ reachBytes) :
    ∃ Ls : List (List Nat), len = Ls.length ∧ TextsAt w a Ls ∧ Ls.length ≤ 140737488351232 ∧ ∀ l ∈ Ls, l.length ≤ 140737488351232 := by
  rcases Go.Deep.open_slice1 Try.underlying33 cells33 h with ⟨hcs, _⟩ | ⟨x, len', cap', m, n, V, D, Pl, hcs, _, hl, _, hm, hx, hc⟩
  · simp at hcs
    obtain ⟨rfl, rfl, rfl⟩ := hcs
    exact ⟨[], rfl, .inl rfl, by simp, by simp⟩
  · simp at hcs
    obtain ⟨rfl, rfl, rfl⟩ := hcs
    rw [hsp, if_pos rfl] at hm
    subst hm
    have hd := (Prod.mk.inj hx).1
    subst hd
    have hel : ∀ i, i < len → D i ∈ (List.range len).map D := fun i hi => List.mem_map.2 ⟨i, by simpa using hi, rfl⟩
    have hlen : len ≤ 140737488351232 := by
      have h1 := hw _ (by simp only [DataW.weights, Try.underlying33]; exact List.mem_cons_self)
      have h2 : 1 ≤ Try.prog.bytesOf 35 := by decide +kernel
      have h3 := Nat.mul_le_mul_left (((List.range len).map D).length + ((List.range (m - len)).map fun j => D (len + j)).length) h2
      simp only [List.length_map, List.length_range, Nat.mul_one, reachBytes] at h1 h3
      omega
    have each : ∀ i, i < len → ∃ l : List Nat, ∃ y c, w.cell? (x.add i) = some (.slice y l.length c) ∧ BytesAt w y l ∧ l.length ≤ 140737488351232 := by
      intro i hi
      obtain ⟨h1, h2⟩ := hc i (by omega)
      have hwi : ∀ k ∈ (D i).weights Try.prog 35, k ≤ reachBytes := fun k hk => hw k (by
        simp only [DataW.weights, Try.underlying33]
        exact List.mem_cons_of_mem _ (List.mem_append_left _ (weights_all_mem (hel i hi) k hk)))
      rcases open_ints Try.underlying35 Try.underlying5 cells5 h2 with ⟨hcs, _⟩ | ⟨y, l, c, zs, hcs, _, hl', _, hz, hx', hcell, hwz⟩
      · simp at hcs
        rw [hcs] at h1
        exact ⟨[], none, 0, h1, ⟨by simp, .inl rfl⟩, by simp⟩
      · simp at hcs
        rw [hcs] at h1
        have hz' : zs.length = c := by rw [hz, hsp]; rfl
        have hd := (Prod.mk.inj hx').1
        have hr := hwi _ (by rw [hd]; simp only [DataW.weights, Try.underlying35]; exact List.mem_cons_self)
        rw [bytes5] at hr
        simp only [lits, List.length_map, List.length_take, List.length_drop, reachBytes] at hr
        obtain ⟨l2, e2, hb2, _, _, _⟩ := bytes_of_row (w := w) (a := some y) (len := l) (cap := c) (zs := zs) (.inr ⟨y, rfl, hl', by omega, hz', hcell, hwz⟩)
        rw [e2] at h1
        exact ⟨l2, some y, c, h1, hb2, by omega⟩
    have pick : ∃ f : Nat → List Nat, ∀ i, i < len → ∃ y c, w.cell? (x.add i) = some (.slice y (f i).length c) ∧ BytesAt w y (f i) ∧ (f i).length ≤ 140737488351232 := Go.Deep.choose_lt each
    obtain ⟨f, hf⟩ := pick
    refine ⟨(List.range len).map f, by simp, ?_, by simpa using hlen, ?_⟩
    · by_cases h0 : len = 0
      · subst h0; exact .inl (by simp)
      · obtain ⟨b, off, spot⟩ := x
        have hspot : spot = none := by
          obtain ⟨y, c, h1, _⟩ := hf 0 (by omega)
          simpa [Addr.add] using World.cell?_spot h1
        subst hspot
        refine .inr ⟨b, off, rfl, fun i hi => ?_⟩
        have hi' : i < len := by simpa using hi
        obtain ⟨y, c, h1, h2, _⟩ := hf i hi'
        have e : ((List.range len).map f).getD i [] = f i := by simp [List.getD, hi']
        rw [e]
        rw [Addr.add_lit] at h1
        exact ⟨y, c, h1, h2⟩
    · intro l hl'
      obtain ⟨i, hi, rfl⟩ := List.mem_map.1 hl'
      exact (hf i (by simpa using hi)).choose_spec.choose_spec.2.2
end Go.Proofs.Ytjgfcnhnlaobcaa
