/- Walk of the ninth law: the fingerprints of bytes agree with the specification. -/
import Derived.Test.YtjgfcnhnlaobcaaRow8
namespace Go.Proofs.Ytjgfcnhnlaobcaa
open Go.RowKit

theorem long_calls (a : Option Addr) (n c : Nat) (w : World) :
    Calls Try.prog 44 #[.slice a n c] w fun e w' => e = .returned (.bool (decide ((3000 : Int) < n) && decide ((n : Int) ≤ 100000))) ∧ w = w' := by
  by_cases h : (3000 : Int) < n
  · go_enter Try.func44, Try.ntmps44
    go_wp2
    go_ret
    exact ⟨by simp [h], rfl⟩
  · go_enter Try.func44, Try.ntmps44
    go_wp2
    go_ret
    exact ⟨by simp; omega, rfl⟩

theorem Twin_sl (p c : Nat) (a : Option Addr) (l : List Nat) (hp : p < 2 ^ 64) (w : World) (hl : BytesAt w a l) (hn : l.length < 2 ^ 60) (hz : a = none → l = []) :
    Calls Try.prog 31 #[U p, .slice a l.length c] w fun e w' => ∃ a' c', e = .returned (.tuple #[.slice a' (tTwin p l).1.length c', I (tTwin p l).2]) ∧ SlAt .u8 w' a' (tTwin p l).1 ∧ Below w.heap.size w w' := by
  refine (Twin_calls p c a l hp w hl hn hz).mono ?_
  rintro e w' ⟨v', rfl, hown, hB⟩
  obtain ⟨a', c', rfl, hs, _⟩ := SlAt.of_owns (k := .u8) hown
  exact ⟨a', c', rfl, hs, hB⟩
theorem RTwin_sl (p c : Nat) (a : Option Addr) (l : List Nat) (hp : p < 2 ^ 64) (w : World) (hl : BytesAt w a l) (hn : l.length < 2 ^ 60) (hz : a = none → l = []) :
    Calls Try.prog 52 #[U p, .slice a l.length c] w fun e w' => ∃ a' c', e = .returned (.tuple #[.slice a' (tTwin p l).1.length c', I (tTwin p l).2]) ∧ SlAt .u8 w' a' (tTwin p l).1 ∧ Below w.heap.size w w' := by
  refine (RTwin_calls p c a l hp w hl hn hz).mono ?_
  rintro e w' ⟨v', rfl, hown, hB⟩
  obtain ⟨a', c', rfl, hs, _⟩ := SlAt.of_owns (k := .u8) hown
  exact ⟨a', c', rfl, hs, hB⟩
theorem same8 (a a' : Option Addr) (c c' : Nat) (l : List Nat) (w : World) (hl : SlAt .u8 w a l) (hm : SlAt .u8 w a' l) (hn : l.length < 2 ^ 60) :
    Calls Try.prog 32 #[.slice a l.length c, .slice a' l.length c'] w fun e w' => e = .returned (.bool true) ∧ Below w.heap.size w w' := by
  refine (equal8_calls a a' c c' l l w hl hm hn hn).mono ?_
  rintro e w' ⟨rfl, n, rfl⟩
  exact ⟨by simp, drewN_below _ _ _⟩

set_option maxRecDepth 100000 in
set_option maxHeartbeats 3200000 in
theorem bytes_walk (p f g c : Nat) (a : Option Addr) (l : List Nat) (n q : Int) (old new : Nat) (hp : p < 2 ^ 64) (hf : f < 2 ^ 64) (hg : g < 2 ^ 64) (ho : old < 256) (hnw : new < 256) (w : World) (hl : BytesAt w a l) (hz : a = none → l = []) (hx : l.length < 2 ^ 60) :
    Calls Try.prog 11 #[U p, U f, U g, .slice a l.length c, I n, I q, .int .u8 old, .int .u8 new] w fun e w' => e = .returned (.bool true) ∧ Below w.heap.size w w' := by
  have hB : Below w.heap.size w w := Below.refl _ _
  have c44 := long_calls a l.length c
  by_cases hlong : 3000 < l.length ∧ l.length ≤ 100000
  · have e44 : (decide ((3000 : Int) < (l.length : Int)) && decide ((l.length : Int) ≤ 100000)) = true := by simp; omega
    rw [e44] at c44
    clear e44 hlong hl hz hx
    go_enter Try.func11, Try.ntmps11
    go_wp2_with (first
      | (go_at_call 14; refine (sane_calls _).mono ?_; rintro e w1 ⟨rfl, hb⟩; replace hB := hB.trans (hb.mono hB.size); clear hb)
      | (go_at_call 44; refine (c44 _).mono ?_; rintro e w1 ⟨rfl, rfl⟩))
    go_ret
    exact ⟨rfl, hB⟩
  have e44 : (decide ((3000 : Int) < (l.length : Int)) && decide ((l.length : Int) ≤ 100000)) = false := by simp; omega
  rw [e44] at c44
  have ht : (tTwin p l).1.length < 2 ^ 60 := by
    rw [tTwin]; split
    · simp
    · split
      · simp
      · split
        · simp
        · rw [twF_length]; exact hx
  have c30 := fun x (hb : Below w.heap.size w x) => Of_calls p c a l hp x (hl.below' hb) hx
  have c45 := fun x (hb : Below w.heap.size w x) => ROf_calls p c a l hp x (hl.below' hb) hx
  generalize tExtend p 1 l = r1 at *
  have c46 := fun x (hb : Below w.heap.size w x) => Extend_calls p f c a l hp hf x (hl.below' hb) hx
  have c47 := fun x (hb : Below w.heap.size w x) => RExtend_calls p f c a l hp hf x (hl.below' hb) hx
  generalize tExtend p f l = r2 at *
  have c48 := Join_calls p f g n hp hf hg
  have c49 := RJoin_calls p f g n hp hf hg
  generalize tJoin p f g n = r3 at *
  have c50 := Change_calls p f n q old new hp hf ho hnw
  have c51 := RChange_calls p f n q old new hp hf ho hnw
  generalize tChange p f n q old new = r4 at *
  have c31 := fun x (hb : Below w.heap.size w x) => Twin_sl p c a l hp x (hl.below' hb) hx hz
  have c52 := fun x (hb : Below w.heap.size w x) => RTwin_sl p c a l hp x (hl.below' hb) hx hz
  generalize tTwin p l = r5 at *
  obtain ⟨r11, r12⟩ := r1
  obtain ⟨r21, r22⟩ := r2
  obtain ⟨r31, r32⟩ := r3
  obtain ⟨r41, r42⟩ := r4
  obtain ⟨r51, r52⟩ := r5
  dsimp only at c30 c45 c46 c47 c48 c49 c50 c51 c31 c52 ht
  clear e44 hlong hl hz hx hp hf hg ho hnw
  go_enter Try.func11, Try.ntmps11
  go_wp2_with (first
    | (go_at_call 14; refine (sane_calls _).mono ?_; rintro e w1 ⟨rfl, hb⟩; replace hB := hB.trans (hb.mono hB.size); clear hb)
    | (go_at_call 44; refine (c44 _).mono ?_; rintro e w1 ⟨rfl, rfl⟩)
    | (go_at_call 30; refine (c30 _ hB).mono ?_; rintro e w1 ⟨rfl, hb⟩; replace hB := hB.trans (hb.mono hB.size); clear hb)
    | (go_at_call 45; refine (c45 _ hB).mono ?_; rintro e w1 ⟨rfl, rfl⟩)
    | (go_at_call 46; refine (c46 _ hB).mono ?_; rintro e w1 ⟨rfl, hb⟩; replace hB := hB.trans (hb.mono hB.size); clear hb)
    | (go_at_call 47; refine (c47 _ hB).mono ?_; rintro e w1 ⟨rfl, rfl⟩)
    | (go_at_call 48; refine (c48 _).mono ?_; rintro e w1 ⟨rfl, hb⟩; replace hB := hB.trans (hb.mono hB.size); clear hb)
    | (go_at_call 49; refine (c49 _).mono ?_; rintro e w1 ⟨rfl, rfl⟩)
    | (go_at_call 50; refine (c50 _).mono ?_; rintro e w1 ⟨rfl, hb⟩; replace hB := hB.trans (hb.mono hB.size); clear hb)
    | (go_at_call 51; refine (c51 _).mono ?_; rintro e w1 ⟨rfl, rfl⟩)
    | (go_at_call 31; refine (c31 _ hB).mono ?_; rintro e w1 ⟨a8, k8, rfl, hs8, hb⟩; replace hB := hB.trans (hb.mono hB.size); clear hb)
    | (go_at_call 52; refine (c52 _ hB).mono ?_; rintro e w2 ⟨a9, k9, rfl, hs9, hb⟩; replace hs8 := hs8.below' hb; replace hB := hB.trans (hb.mono hB.size); clear hb)
    | (go_at_call 32; refine (same8 _ _ _ _ _ _ hs8 hs9 ht).mono ?_; rintro e w3 ⟨rfl, hb⟩; replace hB := hB.trans (hb.mono hB.size); clear hb))
  go_ret
  exact ⟨by simp, hB⟩
end Go.Proofs.Ytjgfcnhnlaobcaa
