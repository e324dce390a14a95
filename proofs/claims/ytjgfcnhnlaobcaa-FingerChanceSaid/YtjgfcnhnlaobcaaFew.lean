/- Walk: whether texts are few, and short together. -/
import Derived.Test.YtjgfcnhnlaobcaaWs
namespace Go.Proofs.Ytjgfcnhnlaobcaa
open Go.RowKit

/-- How many bytes the first k texts have. -/
def psum (Ls : List (List Nat)) (k : Nat) : Nat := ((Ls.take k).map List.length).sum
theorem psum_zero (Ls : List (List Nat)) : psum Ls 0 = 0 := by simp [psum]
theorem psum_succ {Ls : List (List Nat)} {k : Nat} (h : k < Ls.length) : psum Ls (k + 1) = psum Ls k + (Ls.getD k []).length := by
  unfold psum
  rw [List.take_succ_eq_append_getElem h, List.map_append, List.sum_append]
  simp [h]
theorem psum_le {Ls : List (List Nat)} {M : Nat} (h : ∀ l ∈ Ls, l.length ≤ M) : ∀ k, k ≤ Ls.length → psum Ls k ≤ k * M
  | 0, _ => by simp [psum_zero]
  | k + 1, hk => by
    have ih := psum_le h k (by omega)
    have h1 : (Ls.getD k []).length ≤ M := h _ (by simp [List.getD, show k < Ls.length by omega])
    rw [psum_succ (by omega), Nat.add_mul, Nat.one_mul]
    omega
theorem psum_get {Ls : List (List Nat)} {k : Nat} (h : k < Ls.length) : (Ls.getD k []).length ≤ psum Ls Ls.length := by
  have mono : ∀ d j, j + d ≤ Ls.length → psum Ls j ≤ psum Ls (j + d) := by
    intro d
    induction d with
    | zero => intro j _; exact Nat.le_refl _
    | succ d ih => intro j hj; have h1 := ih j (by omega); have h2 := psum_succ (Ls := Ls) (k := j + d) (by omega); rw [← Nat.add_assoc]; omega
  have h1 := mono (Ls.length - (k + 1)) (k + 1) (by omega)
  rw [show k + 1 + (Ls.length - (k + 1)) = Ls.length by omega, psum_succ h] at h1
  omega
def tFew (Ls : List (List Nat)) (many bytes : Nat) : Bool := decide (Ls.length ≤ many) && decide (psum Ls Ls.length ≤ bytes)

set_option maxHeartbeats 800000 in
theorem few_calls (a : Option Addr) (cap many bytes : Nat) (Ls : List (List Nat)) (hn : Ls.length < 2 ^ 60) (hs : ∀ l ∈ Ls, l.length ≤ 140737488351232) (hm : many ≤ 40) (hb : bytes ≤ 4000) (w : World) (hl : TextsAt w a Ls) :
    Calls Try.prog 25 #[.slice a Ls.length cap, I many, I bytes] w fun e w' => e = .returned (.bool (tFew Ls many bytes)) ∧ w = w' := by
  have hps := psum_le hs
  go_enter Try.func25, Try.ntmps25
  go_wp2
  go_loop [2, 11] (fun vb vi => ∃ (k : Nat) (v : Int), vi = I k ∧ vb = I v ∧ k ≤ Ls.length ∧ (Ls.length ≤ many → v = (bytes : Int) - (psum Ls k : Int))) (fun _ vi => Ls.length - (intOf vi).toNat)
  case atStart => exact ⟨0, bytes, rfl, rfl, Nat.zero_le _, fun _ => by rw [psum_zero]; simp⟩
  case round =>
    obtain ⟨k, v, rfl, rfl, hk, hv⟩ := hrel
    by_cases hlt : k < Ls.length
    · obtain ⟨b, off, rfl, hcs⟩ : ∃ b off, a = some ⟨b, off, none⟩ ∧ ∀ i, i < Ls.length → ∃ x c, w.cell? ⟨b, off + i, none⟩ = some (.slice x (Ls.getD i []).length c) ∧ BytesAt w x (Ls.getD i []) := by
        rcases hl with h | h
        · rw [h] at hlt; simp at hlt
        · exact h
      obtain ⟨x, c, hcell, _⟩ := hcs k hlt
      have hsu := psum_succ hlt
      have hp1 := hps (k + 1) (by omega)
      obtain ⟨t, hte⟩ : ∃ t, (Ls.getD k []).length = t := ⟨_, rfl⟩
      rw [hte] at hcell hsu
      have hv' : Ls.length ≤ many → wrap64 (v - (t : Int)) = (bytes : Int) - (psum Ls (k + 1) : Int) := fun hle => by
        rw [hv hle, IntWalk.wrap64_in _ (by omega)]; omega
      have HV := Lib.hid hv'
      have hin : (k : Int) < (Ls.length : Int) := by omega
      clear hl hcs hv hv' hte hps hsu hp1 hs
      go_wp2
      go_round
      case rel => exact ⟨k + 1, _, by go_num, rfl, hlt, HV.out⟩
      case measure => simp [intOf]; omega
    · obtain rfl : k = Ls.length := by omega
      by_cases hle : Ls.length ≤ many
      · have hd : (Ls.length : Int) ≤ (many : Int) := by omega
        have hv' := hv hle
        have hq : decide ((0 : Int) ≤ v) = tFew Ls many bytes := by
          rw [tFew, hv', decide_eq_true hle, Bool.true_and]
          apply decide_eq_decide.2
          omega
        have HQ := Lib.hid hq
        clear hv hv' hq hps hs hl
        go_wp2
        go_ret
        exact ⟨by rw [← HQ.out]; rfl, rfl⟩
      · have hd : ¬ (Ls.length : Int) ≤ (many : Int) := by omega
        have hq : tFew Ls many bytes = false := by rw [tFew, decide_eq_false hle, Bool.false_and]
        have HQ := Lib.hid hq
        clear hv hq hps hs hl
        go_wp2
        go_ret
        exact ⟨by rw [HQ.out]; rfl, rfl⟩
end Go.Proofs.Ytjgfcnhnlaobcaa
