/- Walks: how many irreducible polynomials of a degree there are. -/
import Derived.Test.YtjgfcnhnlaobcaaWp
namespace Go.Proofs.Ytjgfcnhnlaobcaa
open Go.RowKit Go.Shelf
attribute [local go_sem] Oper.semAt_some

def muF (n : Nat) : List Nat → Int → Int
  | [], s => s
  | q :: l, s => if n / q % q = 0 then 0 else muF n l (-s)
def mu (n : Nat) : Int := muF n (primesL n) 1
def cntTab : List Nat := [0, 2, 1, 2, 3, 6, 9, 18, 30, 56, 99, 186, 335, 630, 1161, 2182, 4080, 7710, 14532, 27594, 52377, 99858, 190557, 364722, 698870, 1342176, 2580795, 4971008, 9586395, 18512790, 35790267, 69273666, 134215680, 260300986, 505286415, 981706806, 1908866960, 3714566310, 7233615333, 14096302710, 27487764474, 53634713550, 104715342801, 204560302842, 399822314775, 781874934568, 1529755125849, 2994414645858, 5864061663920, 11488774559616, 22517997465744, 44152937520670, 86607683851185, 169947155749830, 333599969907456, 655069036708398, 1286742745883790, 2528336632900554, 4969489234738635, 9770521225481754, 19215358392200893, 37800705069076950, 74382032520643617, 146402730743693304]
def cnt (d : Nat) : Nat := cntTab.getD d 0

theorem mu_small : ∀ n : Fin 64, mu n.val = 0 ∨ mu n.val = 1 ∨ mu n.val = -1 := by decide +kernel

set_option maxHeartbeats 1600000 in
theorem moebius_calls (n : Nat) (h1 : 1 ≤ n) (h63 : n ≤ 63) (w : World) :
    Calls Try.prog 92 #[I n] w fun e w' => e = .returned (I (mu n)) ∧ Below w.heap.size w w' := by
  obtain ⟨L, hL⟩ : ∃ L, primesL n = L := ⟨_, rfl⟩
  have HL := Lib.hid hL
  rw [mu, hL]
  refine (callsIn_wide (n := 0)).1 (callsIn_of_wp_marks Try.func92 rfl trivial (wpIn_wide.2 ?_) rfl)
  simp only [Try.ntmps92, List.size_toArray, List.length_cons, List.length_nil, Nat.reduceAdd, Nat.reduceSub, Array.replicate_succ, Array.replicate_zero, List.push_toArray, List.append_toArray, List.nil_append, List.cons_append]
  go_wp2_with (go_at_call 77; refine (primes_calls _ _).mono ?_; rintro e w1 ⟨rfl, rfl⟩)
  generalize hW0 : (((w.alloc (.cells #[I n] 3)).alloc (.cells #[.int .i64 0] 3)).alloc (.cells #[.int .i64 1] 3)).alloc (.cells #[I n] 3) = W0
  have hsz : W0.heap.size = w.heap.size + 4 := by rw [← hW0]; simp
  have hB0 : Below w.heap.size w W0 := by rw [← hW0]; (repeat' (first | exact Below.refl _ _ | refine Below.drew ?_ | refine below_drewN ?_ _ | refine Below.alloc ?_ (by simp <;> omega) _ | refine Below.setCell ?_ (by simp <;> omega) _))
  have hk0 : W0.heap[w.heap.size]? = some (.cells #[I n] 3 (0, 0)) := by
    rw [← hW0]; exact alloc_old (alloc_old (alloc_old (alloc_new w _)))
  have hk1 : W0.heap[w.heap.size + 1]? = some (.cells #[I 0] 3 (0, 0)) := by
    rw [← hW0]; exact alloc_old (alloc_old (by simpa using alloc_new (w.alloc _) _))
  have hk2 : W0.heap[w.heap.size + 1 + 1]? = some (.cells #[I 1] 3 (0, 0)) := by
    rw [← hW0]; exact alloc_old (by simpa using alloc_new ((w.alloc _).alloc _) _)
  have hk3 : W0.heap[w.heap.size + 1 + 1 + 1]? = some (.cells #[I n] 3 (0, 0)) := by
    rw [← hW0]; simpa using alloc_new (((w.alloc _).alloc _).alloc _) _
  clear hW0
  obtain ⟨B, hB⟩ : ∃ B, w.heap.size = B := ⟨_, rfl⟩
  rw [hB] at hsz hB0 hk0 hk1 hk2 hk3 ⊢
  have hit := primes1_iter n (B + 1 + 1 + 1) h63 W0 hk3
  rw [hL] at hit
  refine wpIn_wide.1 (wp_range (enc := fun q : Nat => #[I q]) (row := some (B + 1 + 1 + 1)) (ks := [B + 1 + 1 + 1]) (L := L) (gf := 94) rfl (enters_of Try.func94 (by kernel_rfl) rfl) hit
    (by simp; omega) (by simp; omega) (by simp)
    (fun pre W => Below B w W ∧ W.heap[B]? = some (.cells #[I n] 3 (0, 0)) ∧ W.heap[B + 1]? = some (.cells #[I 0] 3 (0, 0)) ∧ ∃ (s : Int) (rest : List Nat), W.heap[B + 1 + 1]? = some (.cells #[I s] 3 (0, 0)) ∧ (s = 1 ∨ s = -1) ∧ pre ++ rest = L ∧ muF n rest s = muF n L 1)
    (fun c pre W => c = .ret ∧ Below B w W ∧ W.heap[B + 1]? = some (.cells #[I 0] 3 (0, 0)) ∧ muF n L 1 = 0)
    ?hI ?hIx ⟨hB0, hk0, hk1, 1, L, hk2, .inl rfl, rfl, rfl⟩ ?a1 ?assign ?body ?done ?stop)
  case assign =>
    intro l x W K hK
    gi_wp2
    exact hK
  case hI =>
    rintro s A C r ⟨hb, h0, h1, t, rest, h2, hs⟩ hg hr
    have hge : ∀ k, r = some k → B + 3 ≤ k := fun k e => by
      rcases hr k e with h | h
      · have := Option.some.inj h; omega
      · omega
    have hne : ∀ k, k < B + 3 → r ≠ some k := fun k hk e => by have := hge k e; omega
    exact ⟨hb.grown hg (by have := lt_of_block h0; omega) (fun k e => by have := hge k e; omega), grown_old hg h0 (hne _ (by omega)), grown_old hg h1 (hne _ (by omega)), t, rest, grown_old hg h2 (hne _ (by omega)), hs⟩
  case hIx =>
    rintro c s A C r ⟨hc, hb, h1, hs⟩ hg hr
    have hge : ∀ k, r = some k → B + 3 ≤ k := fun k e => by
      rcases hr k e with h | h
      · have := Option.some.inj h; omega
      · omega
    have hne : ∀ k, k < B + 3 → r ≠ some k := fun k hk e => by have := hge k e; omega
    exact ⟨hc, hb.grown hg (by have := lt_of_block h1; omega) (fun k e => by have := hge k e; omega), grown_old hg h1 (hne _ (by omega)), hs⟩
  case body =>
    rintro l pre x W hpre hlt ⟨hb, h0, h1, s, rest, h2, hs, hr, hm⟩
    obtain ⟨t, rfl⟩ : ∃ t, rest = x :: t := by
      obtain ⟨t, ht⟩ := hpre
      rw [List.append_assoc] at ht
      exact ⟨t, List.append_cancel_left (hr.trans ht.symm)⟩
    have hxm : x ∈ primesL n := by rw [HL.out]; exact hpre.subset (by simp)
    have hx2 : 2 ≤ x := by
      rcases Nat.lt_or_ge n 2 with h | h
      · obtain rfl : n = 1 := by omega
        have h1e : primesL 1 = [] := rfl
        rw [h1e] at hxm
        exact absurd hxm (List.not_mem_nil)
      · exact ((primesL_spec h h63).1 x hxm).1
    have cn := cell_of_one h0
    have cr := cell_of_one h1
    have co := cell_of_one h2
    have fr := free_of_one h1
    have fo := free_of_one h2
    have hx0 : ¬ x = 0 := by omega
    have hdn : n / x ≤ n := Nat.div_le_self _ _
    have hw : wrap64 ((n : Int) / (x : Int)) = ((n / x : Nat) : Int) := by
      rw [← Int.natCast_ediv]; generalize n / x = k at *; unfold wrap64; omega
    have hmod : ((n : Int) / (x : Int)).tmod (x : Int) = ((n / x % x : Nat) : Int) := by
      rw [← Int.natCast_ediv]; exact (Int.ofNat_tmod _ _).symm
    have hoth : ∀ (u : Value) (b k : Nat), k ≠ b → (W.setCell ⟨b, 0, none⟩ u).heap[k]? = W.heap[k]? := fun u b k h => Below.heap_setCell _ _ _ _ h
    by_cases h0x : n / x % x = 0
    · rw [muF, if_pos h0x] at hm
      have hq : (((n : Int) / (x : Int)).tmod (x : Int) == 0) = true := by rw [hmod, h0x]; rfl
      have HM := Lib.hid hm
      have hst := one_setCell (u := I 0) h1
      clear h0x hmod hr hs hm hit
      gi_wp2
      exact ⟨hoth _ _ _ (by omega), hoth _ _ _ (by omega), rfl, hb.setCell (by simp) _, hst, HM.out.symm⟩
    · rw [muF, if_neg h0x] at hm
      have hq : (((n : Int) / (x : Int)).tmod (x : Int) == 0) = false := by rw [hmod]; exact beq_false (by omega)
      have HM := Lib.hid hm
      have hr' : (pre ++ [x]) ++ t = L := by rw [List.append_assoc]; exact hr
      have HR := Lib.hid hr'
      have hst := one_setCell (u := I (-s)) h2
      have h0' := (hoth (I (-s)) (B + 1 + 1) B (by omega)).trans h0
      have h1' := (hoth (I (-s)) (B + 1 + 1) (B + 1) (by omega)).trans h1
      clear h0x hmod hr hm hr' hit
      rcases hs with rfl | rfl
      · gi_wp2
        exact ⟨hoth _ _ _ (by omega), hoth _ _ _ (by omega), fun k hk => hoth _ _ _ (by simp at hk; omega), by simp [World.setCell], hb.setCell (by simp; omega) _, h0', h1', -1, t, hst, .inr rfl, HR.out, HM.out⟩
      · gi_wp2
        exact ⟨hoth _ _ _ (by omega), hoth _ _ _ (by omega), fun k hk => hoth _ _ _ (by simp at hk; omega), by simp [World.setCell], hb.setCell (by simp; omega) _, h0', h1', 1, t, hst, .inl rfl, HR.out, HM.out⟩
  case done =>
    rintro W ⟨hb, h0, h1, s, rest, h2, hs, hr, hm⟩ hK
    rw [hsz] at hK ⊢
    obtain rfl : rest = [] := by simpa using hr
    have HM := Lib.hid (show s = muF n L 1 from hm)
    have cr := cell_of_one h1
    have co := cell_of_one h2
    have fr := free_of_one h1
    have hst := one_setCell (u := I s) h1
    have hK2 := set_other (u := I s) hK (show B + 4 ≠ B + 1 by omega)
    clear hs hr hm
    dsimp only
    go_wp2
    refine ret_collected hK2 (results_cell1 rfl _ _ ⟨B + 1, 0, none⟩ (I s) _ rfl Try.underlying3 rfl (cell_of_one (putObj_old hst (by omega)))) ⟨by rw [HM.out], ?_⟩
    rw [hB]
    exact below_putObj (D := B + 4) (hb.setCell (by simp) _) (by omega) _
  case stop =>
    rintro c pre W hpre ⟨rfl, hb, h1, hm⟩ hK
    rw [hsz] at hK ⊢
    have HM := Lib.hid hm
    have cr := cell_of_one h1
    clear hm hpre
    dsimp only
    refine wpIn_wide.2 ?_
    go_wp2
    refine ret_collected hK (results_cell1 rfl _ _ ⟨B + 1, 0, none⟩ (I 0) _ rfl Try.underlying3 rfl (cell_of_one (putObj_old h1 (by omega)))) ⟨by rw [HM.out], ?_⟩
    rw [hB]
    exact below_putObj (D := B + 4) hb (by omega) _
end Go.Proofs.Ytjgfcnhnlaobcaa
