/- Walks: the root of a square; a polynomial that is its own square. -/
import Derived.Test.YtjgfcnhnlaobcaaWf
import Derived.Test.YtjgfcnhnlaobcaaWl
namespace Go.Proofs.Ytjgfcnhnlaobcaa
open Go.RowKit

def rootN : Nat → Nat → Nat
  | 0, _ => 0
  | k + 1, a => rootN k a ||| 2 ^ k * (a / 2 ^ (2 * k) % 2)
theorem rootN_lt (a : Nat) : ∀ k, rootN k a < 2 ^ k
  | 0 => by simp [rootN]
  | k + 1 => by
    rw [rootN]
    have h1 := rootN_lt a k
    have h2 : 2 ^ k * (a / 2 ^ (2 * k) % 2) < 2 ^ (k + 1) := by
      have : a / 2 ^ (2 * k) % 2 ≤ 1 := by omega
      calc 2 ^ k * (a / 2 ^ (2 * k) % 2) ≤ 2 ^ k * 1 := Nat.mul_le_mul_left _ this
        _ < 2 ^ (k + 1) := by rw [Nat.pow_succ]; have := Nat.two_pow_pos k; omega
    exact Nat.or_lt_two_pow (Nat.lt_of_lt_of_le h1 (Nat.pow_le_pow_right (by decide) (by omega))) h2

theorem rootN_step {a i : Nat} (ha : a < 2 ^ 64) (hi : i < 32) :
    bits .or .u64 (rootN i a : Int) (IntKind.u64.wrap (bits .and .u64 ((a : Int) / 2 ^ (2 * i)) 1 * 2 ^ i)) = (rootN (i + 1) a : Int) := by
  rw [shr_cast, one_u64 (shr_lt ha)]
  have h2 : 2 ^ i * (a / 2 ^ (2 * i) % 2) < 2 ^ 64 := by
    have h3 : a / 2 ^ (2 * i) % 2 ≤ 1 := by omega
    have h4 : 2 ^ i < 2 ^ 64 := pow_le_64 (by omega)
    calc 2 ^ i * (a / 2 ^ (2 * i) % 2) ≤ 2 ^ i * 1 := Nat.mul_le_mul_left _ h3
      _ < 2 ^ 64 := by omega
  rw [shl_u64 h2, or_u64 (Nat.lt_trans (rootN_lt a i) (pow_le_64 (by omega))) h2]
  rfl

set_option maxHeartbeats 800000 in
theorem root_calls (a : Nat) (ha : a < 2 ^ 64) (w : World) : Calls Try.prog 95 #[U a] w fun e w' => e = .returned (U (rootN 32 a)) ∧ w = w' := by
  go_enter Try.func95, Try.ntmps95
  go_wp2
  go_loop [3, 5] (fun vo vi => ∃ i : Nat, vi = I i ∧ vo = U (rootN i a) ∧ i ≤ 32) (fun _ vi => (32 - intOf vi).toNat)
  case atStart => exact ⟨0, rfl, rfl, by omega⟩
  case round =>
    obtain ⟨i, rfl, rfl, hi⟩ := hrel
    by_cases hlt : i < 32
    · have hli : (i : Int) < 32 := by omega
      have HR := Lib.hid (rootN_step ha hlt)
      go_wp2
      exact ⟨⟨i + 1, by go_num, u_eq HR.out, by omega⟩, by simp [intOf]; omega⟩
    · obtain rfl : i = 32 := by omega
      go_wp2
      go_ret
      exact ⟨rfl, rfl⟩

/-- 64 numbers in memory. -/
def ArrAt (w : World) (B : Nat) (R : Nat → Nat) : Prop :=
  ∃ cs t, w.heap[B]? = some (.cells cs t (0, 0)) ∧ cs.size = 64 ∧ ∀ k, k < 64 → cs[k]? = some (U (R k))
theorem ArrAt.cell {w : World} {B : Nat} {R : Nat → Nat} (h : ArrAt w B R) {k : Nat} (hk : k < 64) : w.cell? ⟨B, k, none⟩ = some (U (R k)) := by
  obtain ⟨cs, t, h1, h2, h3⟩ := h
  unfold World.cell?
  rw [h1]; exact h3 k hk
theorem ArrAt.free {w : World} {B : Nat} {R : Nat → Nat} (h : ArrAt w B R) (k : Nat) : w.frozen? ⟨B, k, none⟩ = false := by
  obtain ⟨cs, t, h1, h2, h3⟩ := h
  simp [World.frozen?, h1]
theorem ArrAt.drew {w : World} {B : Nat} {R : Nat → Nat} (h : ArrAt w B R) (n : Nat) : ArrAt (w.drewN n) B R := h
theorem ArrAt.lt {w : World} {B : Nat} {R : Nat → Nat} (h : ArrAt w B R) : B < w.heap.size := by
  obtain ⟨cs, t, h1, _⟩ := h
  exact (Array.getElem?_eq_some_iff.1 h1).1
def updN (R : Nat → Nat) (k v : Nat) : Nat → Nat := fun j => if j = k then v else R j
theorem ArrAt.store {w : World} {B : Nat} {R : Nat → Nat} (h : ArrAt w B R) {k : Nat} (hk : k < 64) (v : Nat) : ArrAt (w.setCell ⟨B, k, none⟩ (U v)) B (updN R k v) := by
  obtain ⟨cs, t, h1, h2, h3⟩ := h
  refine ⟨cs.setIfInBounds k (U v), t, ?_, by simpa using h2, fun j hj => ?_⟩
  · have hlt := (Array.getElem?_eq_some_iff.1 h1)
    simp only [World.setCell, Array.getElem?_modify, if_true, h1, Option.map_some]
    rfl
  · rw [Array.getElem?_setIfInBounds]
    unfold updN
    by_cases he : k = j
    · subst he; simp [h2, hk]
    · rw [if_neg he, if_neg (fun e => he e.symm)]; exact h3 j hj
theorem ArrAt.other {w : World} {B C : Nat} {R : Nat → Nat} (h : ArrAt w B R) {k : Nat} (hne : B ≠ C) (v : Value) : ArrAt (w.setCell ⟨C, k, none⟩ v) B R := by
  obtain ⟨cs, t, h1, h2⟩ := h
  exact ⟨cs, t, (Below.heap_setCell _ _ _ _ hne).trans h1, h2⟩

structure SpSt where
  R : Nat → Nat
  F : Nat → Nat
  row : Nat
  own : Nat
def spIn : Nat → SpSt → SpSt
  | 0, s => s
  | f + 1, s => if s.row = 0 then s else if s.R (Gf2.len s.row - 1) = 0 then { s with R := updN s.R (Gf2.len s.row - 1) s.row, F := updN s.F (Gf2.len s.row - 1) s.own }
    else spIn f { s with row := s.row ^^^ s.R (Gf2.len s.row - 1), own := s.own ^^^ s.F (Gf2.len s.row - 1) }
def spOut : Nat → Nat → Nat → Nat → Nat → (Nat → Nat) → (Nat → Nat) → Nat
  | 0, _, _, _, _, _, _ => 0
  | g + 1, p, sq, i, a, R, F =>
    let s := spIn 64 { R, F, row := a ^^^ 2 ^ i, own := 2 ^ i }
    if s.row = 0 ∧ 1 < s.own then s.own else spOut g p sq (i + 1) (Gf2.mm p a sq) s.R s.F
def splitF (p : Nat) : Nat := spOut (Gf2.len p - 1) p (Gf2.mm p (Gf2.xr p) (Gf2.xr p)) 0 (Gf2.pmod 1 p) (fun _ => 0) (fun _ => 0)

/-- The rows lie at their degrees; all fits a word. -/
def SpOk (R F : Nat → Nat) : Prop := ∀ k, (R k ≠ 0 → Gf2.len (R k) = k + 1) ∧ R k < 2 ^ 64 ∧ F k < 2 ^ 64

set_option maxRecDepth 100000 in
set_option maxHeartbeats 1600000 in
theorem splitter_calls (p : Nat) (hp2 : 2 ≤ Gf2.len p) (hp : p < 2 ^ 64) (w : World) :
    Calls Try.prog 96 #[U p] w fun e w' => e = .returned (U (splitF p)) ∧ splitF p < 2 ^ 64 ∧ Below w.heap.size w w' := by
  have hl := len_le_64 hp
  obtain ⟨n, hn⟩ : ∃ n, Gf2.len p = n + 1 := ⟨Gf2.len p - 1, by omega⟩
  have hdeg := degreeN_calls hp hn
  have hp0 : p ≠ 0 := fun e => by rw [e, Gf2.len_zero] at hn; omega
  have hm1 := mod1_calls p hp hp0
  have hxl : Gf2.len (Gf2.xr p) < Gf2.len p := Gf2.len_mod_lt 2 hp0
  have h1l : Gf2.len (Gf2.pmod 1 p) < Gf2.len p := Gf2.len_mod_lt 1 hp0
  have hx64 : Gf2.xr p < 2 ^ 64 := lt_of_len (by omega)
  have ht := times_calls p (Gf2.xr p) (Gf2.xr p) hp2 hp hxl hx64
  have hsl := Gf2.mm_lt hp0 (Gf2.xr p) (Gf2.xr p)
  have hs64 : Gf2.mm p (Gf2.xr p) (Gf2.xr p) < 2 ^ 64 := lt_of_len (by omega)
  unfold splitF
  rw [hn, Nat.add_sub_cancel]
  have hm2 : ∀ w, Calls Try.prog 63 #[.int .u64 2, U p] w fun e w' => e = .returned (U (Gf2.xr p)) ∧ w = w' := mod2_calls p hp hp0
  generalize Gf2.xr p = x at *
  generalize hsq : Gf2.mm p x x = sq at *
  generalize Gf2.pmod 1 p = a0 at *
  obtain ⟨r, hr⟩ : ∃ r, spOut n p sq 0 a0 (fun _ => 0) (fun _ => 0) = r := ⟨_, rfl⟩
  rw [hr]
  have HR := Lib.hid hr
  clear hr hsq hxl hx64
  go_enter Try.func96, Try.ntmps96
  go_wp2_with (first | (go_at_call 17; refine (hdeg _).mono ?_; rintro e w1 ⟨rfl, rfl⟩) | (go_at_call 63; refine (hm2 _).mono ?_; clear hm2; rintro e w1 ⟨rfl, rfl⟩) | (go_at_call 63; refine (hm1 _).mono ?_; rintro e w1 ⟨rfl, rfl⟩) | (go_at_call 58; refine (ht _).mono ?_; rintro e w1 ⟨rfl, rfl⟩))
  clear hdeg hm1 ht
  have hA0 : ArrAt ((w.alloc (.cells (Array.replicate 64 (U 0)) 110)).alloc (.cells (Array.replicate 64 (U 0)) 110)) w.heap.size (fun _ => 0) :=
    ⟨_, _, alloc_old (alloc_new w _), by simp, fun k hk => by simp [hk]⟩
  have hA1 : ArrAt ((w.alloc (.cells (Array.replicate 64 (U 0)) 110)).alloc (.cells (Array.replicate 64 (U 0)) 110)) (w.heap.size + 1) (fun _ => 0) :=
    ⟨_, _, by simpa using alloc_new (w.alloc (.cells (Array.replicate 64 (U 0)) 110)) _, by simp, fun k hk => by simp [hk]⟩
  have hB0 : Below w.heap.size w ((w.alloc (.cells (Array.replicate 64 (U 0)) 110)).alloc (.cells (Array.replicate 64 (U 0)) 110)) := by (repeat' (first | exact Below.refl _ _ | refine Below.drew ?_ | refine below_drewN ?_ _ | refine Below.alloc ?_ (by simp <;> omega) _ | refine Below.setCell ?_ (by simp <;> omega) _))
  generalize hW0 : ((w.alloc (.cells (Array.replicate 64 (U 0)) 110)).alloc (.cells (Array.replicate 64 (U 0)) 110)) = W0 at *
  have hW1 : ∀ Q : World → Prop, Q W0 → Q ((w.alloc (.cells (Array.replicate 64 (U 0)) 110)).alloc (.cells (Array.replicate 64 (U 0)) 110)) := fun Q h => by rw [hW0]; exact h
  refine hW1 (fun W => Code.wp _ _ _ _ W) ?_
  clear hW0 hW1
  obtain ⟨B, hBe⟩ : ∃ B, w.heap.size = B := ⟨_, rfl⟩
  rw [hBe] at hA0 hA1 hB0 ⊢
  go_loopg [8, 24] n (fun g va vi wr => ∃ (i a : Nat) (R F : Nat → Nat), vi = I i ∧ va = U a ∧ i + g = n ∧ Gf2.len a < Gf2.len p ∧ SpOk R F ∧ ArrAt wr B R ∧ ArrAt wr (B + 1) F ∧ Below B w wr ∧ spOut g p sq i a R F = r)
  case atStart => exact ⟨0, a0, _, _, rfl, rfl, by omega, h1l, fun k => ⟨fun h => absurd rfl h, by decide, by decide⟩, hA0, hA1, hB0, HR.out⟩
  case round =>
    clear HR hA0 hA1 hB0
    obtain ⟨i, a, R, F, rfl, rfl, hig, hal, hok, hAR, hAF, hB, hs⟩ := hrel
    cases gk with
    | zero =>
      have hi : i = n := by omega
      subst hi
      have Hs := Lib.hid (show 0 = r from hs)
      clear hs hok hAR hAF
      go_wp2
      go_ret
      exact ⟨by rw [← Hs.out]; rfl, by rw [← Hs.out]; decide, hBe ▸ hB⟩
    | succ g =>
      rw [spOut] at hs
      have hin : (i : Int) < (n : Int) := by omega
      have ha64 : a < 2 ^ 64 := lt_of_len (by omega)
      have h2i : 2 ^ i < 2 ^ 64 := pow_le_64 (by omega)
      have hsh : IntKind.u64.wrap ((2 : Int) ^ i) = ((2 ^ i : Nat) : Int) := by
        have := shl_u64 (a := 1) (n := i) (by omega)
        simpa using this
      have hxr : bits .xor .u64 (a : Int) ((2 : Int) ^ i) = ((a ^^^ 2 ^ i : Nat) : Int) := by
        have := xor_u64 ha64 h2i
        simpa using this
      have hrow64 : a ^^^ 2 ^ i < 2 ^ 64 := Nat.xor_lt_two_pow ha64 h2i
      have htm := times_calls p a sq hp2 hp hal hs64
      have hal2 : Gf2.len (Gf2.mm p a sq) < Gf2.len p := Gf2.mm_lt hp0 _ _
      have hpc : ((2 ^ i : Nat) : Int) = (2 : Int) ^ i := by simp
      obtain ⟨s, hsE⟩ : ∃ s, spIn 64 { R, F, row := a ^^^ 2 ^ i, own := 2 ^ i } = s := ⟨_, rfl⟩
      rw [hsE] at hs
      have HE := Lib.hid hsE
      have Hs := Lib.hid hs
      have HP := Lib.hid hpc
      have H2 := Lib.hid h2i
      clear hs hsE hpc h2i
      go_wp2_with (first | (go_at_call 58; refine (htm _).mono ?_; rintro e w1 ⟨rfl, rfl⟩) | go_quiet (fail))
      have hAR' := hAR.drew nq
      have hAF' := hAF.drew nq
      have hB' := below_drewN hB nq
      clear hAR hAF hB htm hsh hxr
      go_loopg [10, 11] 64 (fun f vr vo wx => ∃ (R F : Nat → Nat) (row own : Nat), vr = U row ∧ vo = U own ∧ row < 2 ^ 64 ∧ own < 2 ^ 64 ∧ Gf2.len row ≤ f ∧ SpOk R F ∧ ArrAt wx B R ∧ ArrAt wx (B + 1) F ∧ Below B w wx ∧ spIn f { R, F, row, own } = s)
      case atStart => exact ⟨R, F, _, 2 ^ i, rfl, u_eq HP.out.symm, hrow64, H2.out, len_le_64 hrow64, hok, hAR', hAF', hB', HE.out⟩
      case round =>
        clear hok hAR' hAF' hB' hrow64 HE HP H2 R F
        obtain ⟨R, F, row, own, rfl, rfl, hr64, ho64, hlf, hok, hAR, hAF, hB, hE⟩ := hrel
        by_cases h0 : row = 0
        · subst h0
          have hE2 : ({ R, F, row := 0, own } : SpSt) = s := by
            cases gk with
            | zero => exact hE
            | succ f => rw [spIn, if_pos rfl] at hE; exact hE
          have hs2 := Hs.out
          rw [← hE2] at hs2
          have H3 := Lib.hid hs2
          clear hE hE2 Hs
          by_cases h1 : 1 < own
          · have ho1 : (1 : Int) < (own : Int) := by omega
            go_wp2
            go_ret
            have h4 := H3.out
            rw [if_pos ⟨trivial, h1⟩] at h4
            exact ⟨by rw [← h4]; rfl, by rw [← h4]; exact ho64, hB⟩
          · have ho1 : ¬ (1 : Int) < (own : Int) := by omega
            go_wp2
            have h4 := H3.out
            rw [if_neg (fun e => h1 e.2)] at h4
            go_roundg g
            case measure => omega
            case rel => exact ⟨i + 1, Gf2.mm p a sq, R, F, by go_num, rfl, by omega, hal2, hok, hAR, hAF, hB, h4⟩
        · have hne : ((row : Int) != 0) = true := by simp; omega
          have hne2 : ((row : Int) == 0) = false := beq_false (by omega)
          have hlp := Gf2.len_pos h0
          have hl64 := len_le_64 hr64
          obtain ⟨k, hk⟩ : ∃ k, Gf2.len row = k + 1 := ⟨Gf2.len row - 1, by omega⟩
          have hdk := degreeN_calls hr64 hk
          have hk64 : k < 64 := by omega
          cases gk with
          | zero => omega
          | succ f =>
            rw [spIn, if_neg h0] at hE
            simp only [hk, Nat.add_sub_cancel] at hE
            have cR := hAR.cell hk64
            have cF := hAF.cell hk64
            have fR := hAR.free k
            have fF := hAF.free k
            have hokk := hok k
            by_cases hz : R k = 0
            · rw [if_pos hz] at hE
              have hRz : ((R k : Int) == 0) = true := by rw [hz]; rfl
              have hs2 := Hs.out
              rw [← hE] at hs2
              dsimp only at hs2
              rw [if_neg (fun e => h0 e.1)] at hs2
              have H3 := Lib.hid hs2
              have hst := ((hAR.store hk64 row).other (C := B + 1) (k := k) (by omega) (U own))
              have hst2 := ((hAF.other (C := B) (k := k) (by omega) (U row)).store hk64 own)
              have hbb : Below B w ((wr.setCell ⟨B, k, none⟩ (U row)).setCell ⟨B + 1, k, none⟩ (U own)) := (hB.setCell (by simp) _).setCell (by simp) _
              have hok' : SpOk (updN R k row) (updN F k own) := fun j => by
                unfold updN
                by_cases hj : j = k
                · subst hj; simp only [if_true]; exact ⟨fun _ => hk, hr64, ho64⟩
                · simp only [hj, if_false]; exact hok j
              have HO := Lib.hid hok'
              have HB := Lib.hid hbb
              clear hE hs2 Hs hok hok' hokk hbb h0 hlp hlf hl64 hz
              go_wp2_with (first | (go_at_call 17; refine (hdk _).mono ?_; rintro e w1 ⟨rfl, rfl⟩))
              go_roundg g
              case measure => omega
              case rel => exact ⟨i + 1, Gf2.mm p a sq, _, _, by go_num, rfl, by omega, hal2, HO.out, hst, hst2, HB.out, H3.out⟩
            · rw [if_neg hz] at hE
              have hRz : ((R k : Int) == 0) = false := beq_false (by omega)
              have hrx := xor_u64 hr64 hokk.2.1
              have hox := xor_u64 ho64 hokk.2.2
              have hlt : Gf2.len (row ^^^ R k) < Gf2.len row := Gf2.len_xor_same (by rw [hokk.1 hz, hk]) h0
              have hrx64 : row ^^^ R k < 2 ^ 64 := Nat.xor_lt_two_pow hr64 hokk.2.1
              have hox64 : own ^^^ F k < 2 ^ 64 := Nat.xor_lt_two_pow ho64 hokk.2.2
              have HX := Lib.hid hrx
              have HY := Lib.hid hox
              have HE := Lib.hid hE
              clear hE hrx hox hokk hz h0 hlp hl64
              go_wp2_with (first | (go_at_call 17; refine (hdk _).mono ?_; rintro e w1 ⟨rfl, rfl⟩) | go_quiet (fail))
              go_roundg f
              case measure => omega
              case rel => exact ⟨R, F, row ^^^ R k, own ^^^ F k, u_eq HX.out, u_eq HY.out, hrx64, hox64, by omega, hok, hAR.drew _, hAF.drew _, below_drewN hB _, HE.out⟩
end Go.Proofs.Ytjgfcnhnlaobcaa
