/- Walks: Find, Poly. -/
import Derived.Test.YtjgfcnhnlaobcaaWn
namespace Go.Proofs.Ytjgfcnhnlaobcaa
open Go.RowKit Go.Shelf
attribute [local go_sem] Oper.semAt_some

theorem results_cell2 {fn : Func} {p q : Tmp} (h : fn.results = #[.cell p 22, .cell q 24]) (tmps : Array Value) (w : World) (a b : Addr) (u v : Value)
    (hp : tmps.getD p undef = .pointer (some a)) (hq : tmps.getD q undef = .pointer (some b)) (hu : w.cell? a = some u) (hv : w.cell? b = some v) :
    (results fn tmps).run Try.prog w = .ok (.tuple #[u, v]) w := by
  have hp' : tmps[p]?.getD undef = .pointer (some a) := by simpa using hp
  have hq' : tmps[q]?.getD undef = .pointer (some b) := by simpa using hq
  have hagg : (isAgg 22).run Try.prog w = .ok false w := by unfold isAgg; rw [Sem.run_bind, run_underlying Try.underlying22 w]; simp
  simp [results, h, hp', hq', asAddr, loadVar, Sem.run_bind, hagg, hu, hv]

def tF : List Nat → Nat × Int
  | [] => (0, 3)
  | p :: _ => (p, 0)
def tFind (d : Int) (f : Nat) : Nat × Int := if d < 1 ∨ 63 < d then (0, 1) else tF (irrFrom d.toNat f)

theorem isDegree_calls (d : Int) (w : World) :
    Calls Try.prog 72 #[I d] w fun e w' => e = .returned (.bool (decide (1 ≤ d) && decide (d ≤ 63))) ∧ w = w' := by
  by_cases h1 : 1 ≤ d
  · rw [show decide (1 ≤ d) = true by simp [h1], Bool.true_and]
    go_enter Try.func72, Try.ntmps72
    go_wp2
    go_ret
    exact ⟨rfl, rfl⟩
  · rw [show decide (1 ≤ d) = false by simp [h1], Bool.false_and]
    go_enter Try.func72, Try.ntmps72
    go_wp2
    go_ret
    exact ⟨rfl, rfl⟩

set_option maxHeartbeats 1600000 in
theorem Find_calls (d : Int) (f : Nat) (hf : f < 2 ^ 64) (w : World) :
    Calls Try.prog 34 #[I d, U f] w fun e w' => e = .returned (.tuple #[U (tFind d f).1, I (tFind d f).2]) ∧ Below w.heap.size w w' := by
  have hdg := isDegree_calls d
  by_cases hd : d < 1 ∨ 63 < d
  · have hb : (decide (1 ≤ d) && decide (d ≤ 63)) = false := by
      rcases hd with h | h
      · rw [show decide (1 ≤ d) = false by simp; omega]; rfl
      · rw [show decide (d ≤ 63) = false by simp; omega]; simp
    rw [hb] at hdg
    rw [tFind, if_pos hd]
    clear hd hb
    go_enter Try.func34, Try.ntmps34
    go_wp2_with (go_at_call 72; refine (hdg _).mono ?_; rintro e w1 ⟨rfl, rfl⟩)
    refine bodyPost_ret (results_cell2 rfl _ _ ⟨w.heap.size, 0, none⟩ ⟨w.heap.size + 1, 0, none⟩ (U 0) (I 1) rfl rfl (by go_simp) (by go_simp)) rfl ⟨rfl, ?_⟩
    (repeat' (first | exact Below.refl _ _ | refine Below.drew ?_ | refine below_drewN ?_ _ | refine Below.alloc ?_ (by simp <;> omega) _ | refine Below.setCell ?_ (by simp <;> omega) _))
  · have hb : (decide (1 ≤ d) && decide (d ≤ 63)) = true := by simp; omega
    obtain ⟨n, rfl⟩ : ∃ n : Nat, d = n := ⟨d.toNat, by omega⟩
    rw [hb] at hdg
    rw [tFind, if_neg hd, Int.toNat_natCast]
    have hn1 : 1 ≤ n := by omega
    have hn63 : n ≤ 63 := by omega
    clear hd hb
    obtain ⟨L, hL⟩ : ∃ L, irrFrom n f = L := ⟨_, rfl⟩
    rw [hL]
    refine (callsIn_wide (n := 0)).1 (callsIn_of_wp_marks Try.func34 rfl trivial (wpIn_wide.2 ?_) rfl)
    simp only [Try.ntmps34, List.size_toArray, List.length_cons, List.length_nil, Nat.reduceAdd, Nat.reduceSub, Array.replicate_succ, Array.replicate_zero, List.push_toArray, List.append_toArray, List.nil_append, List.cons_append]
    go_wp2_with (first | (go_at_call 72; refine (hdg _).mono ?_; rintro e w1 ⟨rfl, rfl⟩) | (go_at_call 70; refine (irreducibles_calls _ _ _).mono ?_; rintro e w1 ⟨rfl, rfl⟩))
    clear hdg
    generalize hW0 : (((w.alloc (.cells #[.int .u64 0] 22)).alloc (.cells #[.int .i64 0] 24)).alloc (.cells #[I n] 3)).alloc (.cells #[.int .u64 f] 22) = W0
    have hsz : W0.heap.size = w.heap.size + 4 := by rw [← hW0]; simp
    have hB0 : Below w.heap.size w W0 := by rw [← hW0]; (repeat' (first | exact Below.refl _ _ | refine Below.drew ?_ | refine below_drewN ?_ _ | refine Below.alloc ?_ (by simp <;> omega) _ | refine Below.setCell ?_ (by simp <;> omega) _))
    have hk0 : W0.heap[w.heap.size]? = some (.cells #[U 0] 22 (0, 0)) := by
      rw [← hW0]; exact alloc_old (alloc_old (alloc_old (alloc_new w _)))
    have hk1 : W0.heap[w.heap.size + 1]? = some (.cells #[I 0] 24 (0, 0)) := by
      rw [← hW0]; exact alloc_old (alloc_old (by simpa using alloc_new (w.alloc _) _))
    have hk2 : W0.heap[w.heap.size + 1 + 1]? = some (.cells #[I n] 3 (0, 0)) := by
      rw [← hW0]; exact alloc_old (by simpa using alloc_new ((w.alloc _).alloc _) _)
    have hk3 : W0.heap[w.heap.size + 1 + 1 + 1]? = some (.cells #[U f] 22 (0, 0)) := by
      rw [← hW0]; simpa using alloc_new (((w.alloc _).alloc _).alloc _) _
    clear hW0
    obtain ⟨B, hB⟩ : ∃ B, w.heap.size = B := ⟨_, rfl⟩
    rw [hB] at hsz hB0 hk0 hk1 hk2 hk3 ⊢
    have hit := irr1_iter n f (B + 1 + 1 + 1) (B + 1 + 1) hn1 hn63 hf W0 hk3 hk2
    rw [hL] at hit
    refine wpIn_wide.1 (wp_range (enc := fun q : Nat => #[U q]) (row := none) (ks := [B + 1 + 1 + 1, B + 1 + 1]) (L := L) (gf := 91) rfl (enters_of Try.func91 (by kernel_rfl) rfl) hit
      (by simp; omega) (by simp) (by simp)
      (fun pre W => Below B w W ∧ W.heap[B]? = some (.cells #[U 0] 22 (0, 0)) ∧ W.heap[B + 1]? = some (.cells #[I 0] 24 (0, 0)) ∧ pre = [])
      (fun c pre W => c = .ret ∧ Below B w W ∧ ∃ x : Nat, pre = [x] ∧ W.heap[B]? = some (.cells #[U x] 22 (0, 0)) ∧ W.heap[B + 1]? = some (.cells #[I 0] 24 (0, 0)))
      ?hI ?hIx ⟨hB0, hk0, hk1, rfl⟩ ?a1 ?assign ?body ?done ?stop)
    case assign =>
      intro l x W K hK
      gi_wp2
      exact hK
    case hI =>
      rintro s A C r ⟨hb, h0, h1, hs⟩ hg hr
      have hge : ∀ k, r = some k → B + 3 ≤ k := fun k e => by
        rcases hr k e with h | h
        · cases h
        · omega
      have hne : ∀ k, k < B + 3 → r ≠ some k := fun k hk e => by have := hge k e; omega
      exact ⟨hb.grown hg (by have := lt_of_block h0; omega) (fun k e => by have := hge k e; omega), grown_old hg h0 (hne _ (by omega)), grown_old hg h1 (hne _ (by omega)), hs⟩
    case hIx =>
      rintro c s A C r ⟨hc, hb, x, hx, h0, h1⟩ hg hr
      have hge : ∀ k, r = some k → B + 3 ≤ k := fun k e => by
        rcases hr k e with h | h
        · cases h
        · omega
      have hne : ∀ k, k < B + 3 → r ≠ some k := fun k hk e => by have := hge k e; omega
      exact ⟨hc, hb.grown hg (by have := lt_of_block h0; omega) (fun k e => by have := hge k e; omega), x, hx, grown_old hg h0 (hne _ (by omega)), grown_old hg h1 (hne _ (by omega))⟩
    case body =>
      rintro l pre x W hpre hlt ⟨hb, h0, h1, rfl⟩
      have c0 := cell_of_one h0
      have c1 := cell_of_one h1
      have f0 := free_of_one h0
      have f1 := free_of_one h1
      have hst := set_other (u := I 0) (one_setCell (u := U x) h0) (show B ≠ B + 1 by omega)
      have hst1 := one_setCell (u := I 0) (set_other (u := U x) h1 (show B + 1 ≠ B by omega))
      have hbb : Below B w ((W.setCell ⟨B, 0, none⟩ (U x)).setCell ⟨B + 1, 0, none⟩ (I 0)) := (hb.setCell (by simp) _).setCell (by simp) _
      have hoth : ∀ k, k ≠ B → k ≠ B + 1 → ((W.setCell ⟨B, 0, none⟩ (U x)).setCell ⟨B + 1, 0, none⟩ (I 0)).heap[k]? = W.heap[k]? := fun k h1 h2 =>
        (Below.heap_setCell _ _ _ _ h2).trans (Below.heap_setCell _ _ _ _ h1)
      gi_wp2
      exact ⟨hoth _ (by omega) (by omega), hoth _ (by omega) (by omega), rfl, hbb, x, rfl, hst, hst1⟩
    case done =>
      rintro W ⟨hb, h0, h1, hs⟩ hK
      rw [hsz] at hK ⊢
      have Hs := Lib.hid hs
      clear hs
      have c0 := cell_of_one h0
      have c1 := cell_of_one h1
      have f0 := free_of_one h0
      have f1 := free_of_one h1
      have hst := set_other (u := I 3) (one_setCell (u := U 0) h0) (show B ≠ B + 1 by omega)
      have hst1 := one_setCell (u := I 3) (set_other (u := U 0) h1 (show B + 1 ≠ B by omega))
      have hK2 := set_other (u := I 3) (set_other (u := U 0) hK (show B + 4 ≠ B by omega)) (show B + 4 ≠ B + 1 by omega)
      have hbb : Below B w ((W.setCell ⟨B, 0, none⟩ (U 0)).setCell ⟨B + 1, 0, none⟩ (I 3)) := (hb.setCell (by simp) _).setCell (by simp) _
      dsimp only
      go_wp2
      refine ret_collected hK2 (results_cell2 rfl _ _ ⟨B, 0, none⟩ ⟨B + 1, 0, none⟩ (U 0) (I 3) rfl rfl (cell_of_one (putObj_old hst (by omega))) (cell_of_one (putObj_old hst1 (by omega)))) ⟨by rw [Hs.out]; rfl, ?_⟩
      rw [hB]
      exact below_putObj (D := B + 4) hbb (by omega) _
    case stop =>
      rintro c pre W hpre ⟨rfl, hb, x, rfl, h0, h1⟩ hK
      rw [hsz] at hK ⊢
      have ht : tF L = (x, 0) := by
        obtain ⟨t, ht⟩ := hpre
        rw [← ht]; rfl
      have Hs := Lib.hid ht
      clear ht hpre
      dsimp only
      refine wpIn_wide.2 ?_
      go_wp2
      refine ret_collected hK (results_cell2 rfl _ _ ⟨B, 0, none⟩ ⟨B + 1, 0, none⟩ (U x) (I 0) rfl rfl (cell_of_one (putObj_old h0 (by omega))) (cell_of_one (putObj_old h1 (by omega)))) ⟨by rw [Hs.out], ?_⟩
      rw [hB]
      exact below_putObj (D := B + 4) hb (by omega) _
end Go.Proofs.Ytjgfcnhnlaobcaa
