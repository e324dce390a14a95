/- What a law is told of a slice of bytes that came in. -/
import Derived.Test.YtjgfcnhnlaobcaaLb
import Derived.Test.YtjgfcnhnlaobcaaWh
import Derived.OpenShut
namespace Go.Proofs.Ytjgfcnhnlaobcaa
theorem bytes5 : Try.prog.bytesOf 5 = 1 := by kernel_rfl

/-- A slice of bytes that came in: it is nil; or it leads to a row of 'cap' cells, of which the first 'len' are its elements. -/
def IsRow8 (w : World) (a : Option Addr) (len cap : Nat) (zs : List Int) : Prop :=
  (a = none ∧ len = 0 ∧ cap = 0 ∧ zs = []) ∨
  ∃ x, a = some x ∧ len ≤ cap ∧ cap ≤ 140737488351232 ∧ zs.length = cap ∧ (∀ i, i < zs.length → w.cell? (x.add i) = some (.int .u8 (zs.getD i 0))) ∧ ∀ n ∈ zs, (Lit.int .u8 n).wf = true

theorem bytes_of_row {w : World} {a : Option Addr} {len cap : Nat} {zs : List Int} (h : IsRow8 w a len cap zs) :
    ∃ l : List Nat, len = l.length ∧ BytesAt w a l ∧ l.length ≤ cap ∧ cap ≤ 140737488351232 ∧ (a = none → l = []) := by
  rcases h with ⟨rfl, rfl, rfl, rfl⟩ | ⟨x, rfl, h1, h2, h3, h4, h5⟩
  · exact ⟨[], rfl, ⟨by simp, .inl rfl⟩, by simp, by omega, fun _ => rfl⟩
  · refine ⟨(zs.take len).map Int.toNat, by simp; omega, ⟨?_, ?_⟩, by simp; omega, h2, fun h => by cases h⟩
    · intro n hn
      obtain ⟨m, hm, rfl⟩ := List.mem_map.1 hn
      obtain ⟨k, hk, h256⟩ := u8_nat (h5 m (List.mem_of_mem_take hm))
      omega
    · by_cases h0 : 0 < zs.length
      · obtain ⟨b, off, rfl, hc⟩ := Go.ints_at h4 h0
        refine .inr ⟨b, off, rfl, fun i hi => ?_⟩
        have hi' : i < len ∧ i < zs.length := by
          have : i < min len zs.length := by simpa using hi
          omega
        rw [hc i hi'.2]
        obtain ⟨k, hk, _⟩ := u8_nat (h5 zs[i] (List.getElem_mem hi'.2))
        have e1 : zs.getD i 0 = (k : Int) := by simpa [hi'.2] using hk
        have e2 : ((zs.take len).map Int.toNat).getD i 0 = k := by
          simp [List.getD, hi'.1, hi'.2, hk]
        rw [e1, e2]
      · have : zs = [] := List.eq_nil_of_length_eq_zero (by omega)
        subst this
        exact .inl (by simp)
end Go.Proofs.Ytjgfcnhnlaobcaa
