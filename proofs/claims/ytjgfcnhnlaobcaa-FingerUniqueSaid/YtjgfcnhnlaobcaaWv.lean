/- Walks: Bad. -/
import Derived.Test.YtjgfcnhnlaobcaaWu
import Derived.WalkMore
namespace Go.Proofs.Ytjgfcnhnlaobcaa
open Go.RowKit Go.Shelf
attribute [local go_sem] Oper.semAt_some

theorem irrN_mem : ∀ (f p : Nat) {q : Nat}, q ∈ irrN f p → p ≤ q ∧ q < p + f ∧ Gf2.irrB q = true
  | 0, _, _, h => by simp [irrN] at h
  | f + 1, p, q, h => by
    rw [irrN] at h
    split at h
    · rename_i hi
      rcases List.mem_cons.1 h with rfl | h
      · exact ⟨Nat.le_refl _, by omega, hi⟩
      · have := irrN_mem f (p + 1) h
        exact ⟨by omega, by omega, this.2.2⟩
    · have := irrN_mem f (p + 1) h
      exact ⟨by omega, by omega, this.2.2⟩
theorem irrFrom_mem {d f q : Nat} (h : q ∈ irrFrom d f) : f ≤ q ∧ Gf2.len q = d + 1 ∧ Gf2.irrB q = true := by
  have := irrN_mem _ _ h
  have h2 : 2 ^ d ≤ max f (2 ^ d) := Nat.le_max_right _ _
  refine ⟨by omega, Gf2.len_eq (by omega) (by omega), this.2.2⟩

theorem irrN_length : ∀ (f p : Nat), (irrN f p).length ≤ f
  | 0, _ => Nat.le_refl _
  | f + 1, p => by
    rw [irrN]
    have := irrN_length f (p + 1)
    split
    · simp; omega
    · omega
theorem irrFrom_length (d f : Nat) : (irrFrom d f).length ≤ 2 ^ (d + 1) := Nat.le_trans (irrN_length _ _) (Nat.sub_le _ _)

set_option maxRecDepth 100000 in
set_option maxHeartbeats 3200000 in
theorem Bad_calls (d : Int) (a : Option Addr) (cap : Nat) (Ls : List (List Nat)) (hn : Ls.length < 2 ^ 40) (hs : ∀ l ∈ Ls, l.length < 2 ^ 60) (w : World) (hl : TextsAt w a Ls) :
    Calls Try.prog 26 #[I d, .slice a Ls.length cap] w fun e w' => e = .returned (.tuple #[I (tBad d Ls).1, I (tBad d Ls).2]) ∧ Below w.heap.size w w' := by
  by_cases h1 : d < 4
  · rw [tBad, if_pos (.inl h1)]
    clear hl hs
    go_enter Try.func26, Try.ntmps26
    go_wp2
    refine wp_scope_straight ?_
    go_wp2
    simp only [Exit.noGoto_ret]
    go_wp2
    go_ret2
    refine ⟨rfl, ?_⟩
    (repeat' (first | exact Below.refl _ _ | refine Below.drew ?_ | refine below_drewN ?_ _ | refine Below.alloc ?_ (by simp <;> omega) _ | refine Below.setCell ?_ (by simp <;> omega) _))
  by_cases h2 : 16 < d
  · rw [tBad, if_pos (.inr h2)]
    clear hl hs
    go_enter Try.func26, Try.ntmps26
    go_wp2
    refine wp_scope_straight ?_
    go_wp2
    simp only [Exit.noGoto_ret]
    go_wp2
    go_ret2
    refine ⟨rfl, ?_⟩
    (repeat' (first | exact Below.refl _ _ | refine Below.drew ?_ | refine below_drewN ?_ _ | refine Below.alloc ?_ (by simp <;> omega) _ | refine Below.setCell ?_ (by simp <;> omega) _))
  rw [tBad, if_neg (by omega)]
  have hal : ∀ o, Below w.heap.size w (w.alloc o) := fun o => (Below.refl _ _).alloc (Nat.le_refl _) _
  have hm := tooMany_calls a cap Ls (by omega) _ (hl.below (hal (.cells #[.slice a Ls.length cap] 33)))
  by_cases ht : tMany Ls = true
  · rw [if_pos ht]
    rw [ht] at hm
    clear hl hs ht
    go_enter Try.func26, Try.ntmps26
    go_wp2
    refine wp_scope_straight ?_
    go_wp2_with (first | (go_at_call 69; refine hm.mono ?_; rintro e w' ⟨rfl, rfl⟩))
    simp only [Exit.noGoto_ret]
    go_wp2
    go_ret2
    refine ⟨rfl, ?_⟩
    (repeat' (first | exact Below.refl _ _ | refine Below.drew ?_ | refine below_drewN ?_ _ | refine Below.alloc ?_ (by simp <;> omega) _ | refine Below.setCell ?_ (by simp <;> omega) _))
  · rw [if_neg ht]
    have ht' : tMany Ls = false := by simpa using ht
    rw [ht'] at hm
    obtain ⟨n, rfl⟩ : ∃ n : Nat, d = n := ⟨d.toNat, by omega⟩
    rw [Int.toNat_natCast]
    obtain ⟨L, hL⟩ : ∃ L, irrFrom n 0 = L := ⟨_, rfl⟩
    rw [hL]
    have HLn := Lib.hid hL
    have HL := Lib.hid hl
    have HS := Lib.hid hs
    clear ht ht' hl hs hal hL
    refine (callsIn_wide (n := 0)).1 (callsIn_of_wp_marks Try.func26 rfl trivial (wpIn_wide.2 ?_) rfl)
    simp only [Try.ntmps26, List.size_toArray, List.length_cons, List.length_nil, Nat.reduceAdd, Nat.reduceSub, Array.replicate_succ, Array.replicate_zero, List.push_toArray, List.append_toArray, List.nil_append, List.cons_append]
    go_wp2
    refine wp_scope_straight ?_
    go_wp2_with (first | (refine wp_label ?_) | (go_at_call 69; refine hm.mono ?_; rintro e w' ⟨rfl, rfl⟩) | (go_at_call 70; refine (irreducibles_calls _ _ _).mono ?_; rintro e w1 ⟨rfl, rfl⟩))
    clear hm
    generalize hW0 : (((w.alloc (.cells #[.slice a Ls.length cap] 33)).alloc (.cells #[.int .i64 0] 3)).alloc (.cells #[I n] 3)).alloc (.cells #[.int .u64 0] 22) = W0
    have hsz : W0.heap.size = w.heap.size + 4 := by rw [← hW0]; simp
    have hB0 : Below w.heap.size w W0 := by rw [← hW0]; (repeat' (first | exact Below.refl _ _ | refine Below.drew ?_ | refine below_drewN ?_ _ | refine Below.alloc ?_ (by simp <;> omega) _ | refine Below.setCell ?_ (by simp <;> omega) _))
    have hk0 : W0.heap[w.heap.size]? = some (.cells #[.slice a Ls.length cap] 33 (0, 0)) := by
      rw [← hW0]; exact alloc_old (alloc_old (alloc_old (alloc_new w _)))
    have hk1 : W0.heap[w.heap.size + 1]? = some (.cells #[I ((0 : Nat) : Int)] 3 (0, 0)) := by
      rw [← hW0]; exact alloc_old (alloc_old (by simpa using alloc_new (w.alloc _) _))
    have hk2 : W0.heap[w.heap.size + 1 + 1]? = some (.cells #[I n] 3 (0, 0)) := by
      rw [← hW0]; exact alloc_old (by simpa using alloc_new ((w.alloc _).alloc _) _)
    have hk3 : W0.heap[w.heap.size + 1 + 1 + 1]? = some (.cells #[.int .u64 0] 22 (0, 0)) := by
      rw [← hW0]; simpa using alloc_new (((w.alloc _).alloc _).alloc _) _
    replace hk3 : W0.heap[w.heap.size + 1 + 1 + 1]? = some (.cells #[U 0] 22 (0, 0)) := hk3
    clear hW0
    obtain ⟨B, hB⟩ : ∃ B, w.heap.size = B := ⟨_, rfl⟩
    rw [hB] at hsz hB0 hk0 hk1 hk2 hk3 ⊢
    have hn1 : 1 ≤ n := by omega
    have hn16 : n ≤ 16 := by omega
    have hit := irr1_iter n 0 (B + 1 + 1 + 1) (B + 1 + 1) hn1 (by omega) (by decide) W0 hk3 hk2
    rw [HLn.out] at hit
    have hLl : L.length ≤ 2 ^ 17 := by
      rw [← HLn.out]
      exact Nat.le_trans (irrFrom_length n 0) (Nat.pow_le_pow_right (by decide) (by omega))
    refine wpIn_wide.1 (wp_range (enc := fun q : Nat => #[U q]) (row := none) (ks := [B + 1 + 1 + 1, B + 1 + 1]) (L := L) (gf := 91) rfl (enters_of Try.func91 (by kernel_rfl) rfl) hit
      (by simp; omega) (by simp) (by simp)
      (fun pre W => Below B w W ∧ W.heap[B]? = some (.cells #[.slice a Ls.length cap] 33 (0, 0)) ∧ W.heap[B + 1]? = some (.cells #[I (pre.countP (fun p => (tColl p Ls).2.2) : Nat)] 3 (0, 0)))
      (fun c pre W => False)
      ?hI ?hIx ⟨hB0, hk0, hk1⟩ ?a1 ?assign ?body ?done ?stop)
    case assign =>
      intro l x W K hK
      gi_wp2
      exact hK
    case hI =>
      rintro s A C r ⟨hb, h0, h1⟩ hg hr
      have hge : ∀ k, r = some k → B + 3 ≤ k := fun k e => by
        rcases hr k e with h | h
        · cases h
        · omega
      have hne : ∀ k, k < B + 3 → r ≠ some k := fun k hk e => by have := hge k e; omega
      exact ⟨hb.grown hg (by have := lt_of_block h0; omega) (fun k e => by have := hge k e; omega), grown_old hg h0 (hne _ (by omega)), grown_old hg h1 (hne _ (by omega))⟩
    case hIx =>
      rintro c s A C r h hg hr
      exact h
    case body =>
      rintro l pre x W hpre hlt ⟨hb, h0, h1⟩
      have hxm : x ∈ L := hpre.subset (by simp)
      rw [← HLn.out] at hxm
      have hxl := (irrFrom_mem hxm).2.1
      have hx64 : x < 2 ^ 64 := lt_of_len (by omega)
      have hx5 : ¬ n < 4 := by omega
      have hcnt : pre.countP (fun p => (tColl p Ls).2.2) ≤ 2 ^ 17 := Nat.le_trans (List.countP_le_length) (by have := hpre.length_le; simp at this; omega)
      have hcc := colliding_calls x n a cap Ls hxl (by omega) hx64 hn HS.out W (HL.out.below (by rw [hB]; exact hb))
      have hcs : (pre ++ [x]).countP (fun p => (tColl p Ls).2.2) = pre.countP (fun p => (tColl p Ls).2.2) + (if (tColl x Ls).2.2 = true then 1 else 0) := by
        rw [List.countP_append]; simp [List.countP_cons]
      have HC := Lib.hid hcs
      have HB := Lib.hid hb
      have H0 := Lib.hid h0
      have H1 := Lib.hid h1
      have cl := cell_of_one h0
      obtain ⟨c, hc⟩ : ∃ c, pre.countP (fun p => (tColl p Ls).2.2) = c := ⟨_, rfl⟩
      rw [hc] at hcnt
      have HCC := Lib.hid hc
      clear hpre hxm hxl hcs hb h0 h1 hit hc
      generalize tColl x Ls = r at *
      obtain ⟨r1, r2, r3⟩ := r
      dsimp only at hcc
      cases r3 with
      | true =>
        gi_wp2_with (first | (refine ⟨trivial, rfl, ?_⟩; gi_at_call 71; refine (CallsIn.inRound l (callsIn_wide.2 hcc)).mono ?_; rintro e w1 ⟨rfl, hb1⟩; have c1 := cell_of_one ((hb1.block _ (lt_of_block H1.out)).trans H1.out); have f1 := free_of_one ((hb1.block _ (lt_of_block H1.out)).trans H1.out)))
        have hcv : wrap64 ((pre.countP (fun p => (tColl p Ls).2.2) : Nat) + 1 : Int) = (((pre ++ [x]).countP (fun p => (tColl p Ls).2.2) : Nat) : Int) := by
          rw [HC.out, HCC.out]; simp only [if_true]; unfold wrap64; omega
        have h0' := (hb1.block _ (lt_of_block H0.out)).trans H0.out
        have h1' := (hb1.block _ (lt_of_block H1.out)).trans H1.out
        have hlt1 : ∀ k, k < W.heap.size → k ≠ B + 1 → (w1.setCell ⟨B + 1, 0, none⟩ (.int .i64 (wrap64 ((pre.countP (fun p => (tColl p Ls).2.2) : Nat) + 1 : Int)))).heap[k]? = W.heap[k]? := fun k hk hne =>
          (Below.heap_setCell _ _ _ _ hne).trans (hb1.block k hk)
        have hsz1 := hb1.size
        refine ⟨hlt1 _ (by omega) (by omega), hlt1 _ (by omega) (by omega), fun k hk => hlt1 _ (by simp at hk; omega) (by simp at hk; omega), by simp [World.setCell]; omega, ?_, set_other h0' (by omega), ?_⟩
        · exact (HB.out.trans (hb1.mono (by have := lt_of_block H0.out; omega))).setCell (by simp) _
        · rw [← hcv]; exact one_setCell h1'
      | false =>
        gi_wp2_with (first | (refine ⟨trivial, rfl, ?_⟩; gi_at_call 71; refine (CallsIn.inRound l (callsIn_wide.2 hcc)).mono ?_; rintro e w1 ⟨rfl, hb1⟩; have c1 := cell_of_one ((hb1.block _ (lt_of_block H1.out)).trans H1.out); have f1 := free_of_one ((hb1.block _ (lt_of_block H1.out)).trans H1.out)))
        have h0' := (hb1.block _ (lt_of_block H0.out)).trans H0.out
        have h1' := (hb1.block _ (lt_of_block H1.out)).trans H1.out
        have hce : (pre ++ [x]).countP (fun p => (tColl p Ls).2.2) = pre.countP (fun p => (tColl p Ls).2.2) := by rw [HC.out, if_neg (by simp), Nat.add_zero]
        refine ⟨hb1.block _ (by omega), hb1.block _ (by omega), fun k hk => hb1.block _ (by simp at hk; omega), hb1.size, HB.out.trans (hb1.mono (by have := lt_of_block H0.out; omega)), h0', ?_⟩
        rw [hce]; exact h1'
    case done =>
      rintro W ⟨hb, h0, h1⟩ hK
      rw [hsz] at hK ⊢
      have c1 := cell_of_one h1
      clear h0 hit
      obtain ⟨c, hc⟩ : ∃ c, L.countP (fun p => (tColl p Ls).2.2) = c := ⟨_, rfl⟩
      rw [hc] at h1 c1
      have HCC := Lib.hid hc
      clear hc
      dsimp only
      go_wp2
      simp only [Exit.noGoto_ret]
      go_wp2
      refine ret_collected hK (results_tmp2 rfl _ _ _) ⟨by rw [HCC.out]; rfl, ?_⟩
      rw [hB]
      exact below_putObj (D := B + 4) hb (by omega) _
    case stop =>
      rintro c pre W hpre h hK
      exact h.elim
end Go.Proofs.Ytjgfcnhnlaobcaa
