/- Walks: lists of texts: whether they are too many. -/
import Derived.Test.YtjgfcnhnlaobcaaWr
import Derived.Test.YtjgfcnhnlaobcaaWi
namespace Go.Proofs.Ytjgfcnhnlaobcaa
open Go.RowKit

/-- A slice of texts in memory. -/
def TextsAt (w : World) (a : Option Addr) (Ls : List (List Nat)) : Prop :=
  Ls = [] ∨ ∃ b off, a = some ⟨b, off, none⟩ ∧ ∀ i, i < Ls.length → ∃ x c, w.cell? ⟨b, off + i, none⟩ = some (.slice x (Ls.getD i []).length c) ∧ BytesAt w x (Ls.getD i [])
theorem TextsAt.drew {w : World} {a : Option Addr} {Ls : List (List Nat)} (h : TextsAt w a Ls) (n : Nat) : TextsAt (w.drewN n) a Ls := h
theorem cell_lt {w : World} {b off : Nat} {v : Value} (h : w.cell? ⟨b, off, none⟩ = some v) : b < w.heap.size := by
  rcases Nat.lt_or_ge b w.heap.size with h1 | h1
  · exact h1
  · simp [World.cell?, h1] at h
theorem TextsAt.below {w w' : World} {a : Option Addr} {Ls : List (List Nat)} (h : TextsAt w a Ls) (hb : Below w.heap.size w w') : TextsAt w' a Ls := by
  rcases h with h | ⟨b, off, ha, h⟩
  · exact .inl h
  · refine .inr ⟨b, off, ha, fun i hi => ?_⟩
    obtain ⟨x, c, h1, h2⟩ := h i hi
    exact ⟨x, c, (hb.cell (p := ⟨b, off + i, none⟩) (cell_lt h1)).trans h1, h2.below' hb⟩

def longAt (Ls : List (List Nat)) : Int := match Ls.findIdx? (fun l => decide (100000 < l.length)) with | some i => i | none => -1
theorem longAt_here {zs : List (List Nat)} {k : Nat} {x : List Nat} (h : (zs.take k).findIdx? (fun l => decide (100000 < l.length)) = none) (hk : k < zs.length) (hx : zs.getD k [] = x) (hb : 100000 < x.length) : longAt zs = k := by
  have hx' : zs[k] = x := by simpa [hk] using hx
  have e : zs = zs.take k ++ x :: zs.drop (k + 1) := by rw [← hx']; simp
  have : zs.findIdx? (fun l => decide (100000 < l.length)) = some k := by
    rw [e, List.findIdx?_append, h]
    simp [List.findIdx?_cons, hb]; omega
  rw [longAt, this]
theorem longAt_step {zs : List (List Nat)} {k : Nat} {x : List Nat} (h : (zs.take k).findIdx? (fun l => decide (100000 < l.length)) = none) (hk : k < zs.length) (hx : zs.getD k [] = x) (hb : ¬ 100000 < x.length) : (zs.take (k + 1)).findIdx? (fun l => decide (100000 < l.length)) = none := by
  have hx' : zs[k] = x := by simpa [hk] using hx
  rw [List.take_succ_eq_append_getElem hk, List.findIdx?_append, h, hx']
  simp [List.findIdx?_cons, hb]
theorem longAt_none {zs : List (List Nat)} (h : (zs.take zs.length).findIdx? (fun l => decide (100000 < l.length)) = none) : longAt zs = -1 := by
  rw [List.take_length] at h; rw [longAt, h]
theorem longAt_any (zs : List (List Nat)) : decide (0 ≤ longAt zs) = zs.any (fun l => decide (100000 < l.length)) := by
  unfold longAt
  cases h : zs.findIdx? (fun l => decide (100000 < l.length)) with
  | none => rw [List.findIdx?_eq_none_iff] at h; simp; intro x hx; simpa using h x hx
  | some i =>
    obtain ⟨hi, h1, _⟩ := List.findIdx?_eq_some_iff_getElem.1 h
    simp only [Int.natCast_nonneg, decide_true]
    exact (List.any_eq_true.2 ⟨zs[i], List.getElem_mem _, h1⟩).symm

theorem tooLong_calls (x : Option Addr) (n : Nat) (c : Nat) (w : World) :
    Calls Try.prog 90 #[.slice x n c] w fun e w' => e = .returned (.bool (decide ((100000 : Int) < n))) ∧ w = w' := by
  go_enter Try.func90, Try.ntmps90
  go_wp2
  go_ret
  exact ⟨rfl, rfl⟩

set_option maxHeartbeats 800000 in
theorem indexLong_calls (a : Option Addr) (cap : Nat) (Ls : List (List Nat)) (hn : Ls.length < 2 ^ 60) (w : World) (hl : TextsAt w a Ls) :
    Calls Try.prog 105 #[.slice a Ls.length cap, .func (.func 90) #[] #[]] w fun e w' => e = .returned (I (longAt Ls)) ∧ w = w' := by
  go_enter Try.func105, Try.ntmps105
  go_wp2
  go_loop [5, 8] (fun _ vi => ∃ k : Nat, vi = I k ∧ k ≤ Ls.length ∧ (Ls.take k).findIdx? (fun l => decide (100000 < l.length)) = none) (fun _ vi => Ls.length - (intOf vi).toNat)
  case atStart => exact ⟨0, rfl, Nat.zero_le _, by simp⟩
  case round =>
    obtain ⟨k, rfl, hk, hf⟩ := hrel
    have hf := Lib.hid hf
    by_cases hlt : k < Ls.length
    · obtain ⟨b, off, rfl, hcs⟩ : ∃ b off, a = some ⟨b, off, none⟩ ∧ ∀ i, i < Ls.length → ∃ x c, w.cell? ⟨b, off + i, none⟩ = some (.slice x (Ls.getD i []).length c) ∧ BytesAt w x (Ls.getD i []) := by
        rcases hl with h | h
        · rw [h] at hlt; simp at hlt
        · exact h
      obtain ⟨x, c, hcell, _⟩ := hcs k hlt
      obtain ⟨t, hte⟩ : ∃ t, Ls.getD k [] = t := ⟨_, rfl⟩
      rw [hte] at hcell
      replace hte := Lib.hid hte
      clear hl hcs
      go_wp2_with (go_at_call 90; refine (tooLong_calls _ _ _ _).mono ?_; rintro e w' ⟨rfl, rfl⟩)
      · go_ret
        refine ⟨ret_i ?_, rfl⟩
        exact (longAt_here hf.out hlt hte.out (by omega)).symm
      · go_round
        case rel => exact ⟨k + 1, by go_num, hlt, longAt_step hf.out hlt hte.out (by omega)⟩
        case measure => simp [intOf]; omega
    · obtain rfl : k = Ls.length := by omega
      go_wp2
      go_ret
      exact ⟨ret_i (longAt_none hf.out).symm, rfl⟩

def tMany (Ls : List (List Nat)) : Bool := decide (20000 < Ls.length) || Ls.any fun l => decide (100000 < l.length)

set_option maxHeartbeats 800000 in
theorem tooMany_calls (a : Option Addr) (cap : Nat) (Ls : List (List Nat)) (hn : Ls.length < 2 ^ 60) (w : World) (hl : TextsAt w a Ls) :
    Calls Try.prog 69 #[.slice a Ls.length cap] w fun e w' => e = .returned (.bool (tMany Ls)) ∧ w = w' := by
  have hidx := indexLong_calls a cap Ls hn
  have hany := longAt_any Ls
  have hct : ∀ w, TextsAt w a Ls → Calls Try.prog 89 #[.slice a Ls.length cap, .func (.func 90) #[] #[]] w fun e w' => e = .returned (.bool (Ls.any fun l => decide (100000 < l.length))) ∧ w = w' := by
    intro w hl
    have H := hidx w hl
    rw [← hany]
    clear hany hidx hl
    generalize longAt Ls = q at *
    go_enter Try.func89, Try.ntmps89
    go_wp2_with (go_at_call 105; refine H.mono ?_; rintro e w' ⟨rfl, rfl⟩)
    go_ret
    exact ⟨rfl, rfl⟩
  have H := hct w hl
  unfold tMany
  generalize (Ls.any fun l => decide (100000 < l.length)) = r at *
  clear hct hidx hany hl
  by_cases hb : 20000 < Ls.length
  · have hb' : (20000 : Int) < (Ls.length : Int) := by omega
    rw [show decide (20000 < Ls.length) = true by simp [hb], Bool.true_or]
    go_enter Try.func69, Try.ntmps69
    go_wp2
    go_ret
    exact ⟨rfl, rfl⟩
  · have hb' : ¬ (20000 : Int) < (Ls.length : Int) := by omega
    rw [show decide (20000 < Ls.length) = false by simp [hb], Bool.false_or]
    go_enter Try.func69, Try.ntmps69
    go_wp2_with (go_at_call 89; refine H.mono ?_; rintro e w' ⟨rfl, rfl⟩)
    go_ret
    exact ⟨rfl, rfl⟩
end Go.Proofs.Ytjgfcnhnlaobcaa
