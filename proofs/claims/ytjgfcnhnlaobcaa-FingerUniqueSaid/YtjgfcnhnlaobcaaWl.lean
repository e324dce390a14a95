/- Walks: powers of powers, whether a polynomial is irreducible. -/
import Derived.Test.YtjgfcnhnlaobcaaWk
import Derived.Test.YtjgfcnhnlaobcaaRnq
import Derived.Test.YtjgfcnhnlaobcaaWf
import Derived.Test.YtjgfcnhnlaobcaaPoly6
namespace Go.Proofs.Ytjgfcnhnlaobcaa
open Go.RowKit
attribute [local go_sem] Oper.semAt_some

theorem frob_lt64 {p : Nat} (hp : p < 2 ^ 64) (hp0 : p ≠ 0) (k : Nat) : Gf2.frob p k (Gf2.xr p) < 2 ^ 64 := by
  have := Gf2.frob_lt hp0 k _ (Gf2.len_mod_lt 2 hp0)
  exact lt_of_len (by have h := len_le_64 hp; unfold Gf2.xr; omega)

theorem primes_calls (n : Int) (w : World) :
    Calls Try.prog 77 #[I n] w fun e w' => e = .returned (.func (.func 94) #[] #[.pointer (some ⟨w.heap.size, 0, none⟩)]) ∧ w' = w.alloc (.cells #[I n] 3) := by
  go_enter Try.func77, Try.ntmps77
  go_wp2
  go_ret
  exact ⟨rfl, rfl⟩

set_option maxHeartbeats 400000 in
theorem turned_calls (p n : Nat) (hp2 : 2 ≤ Gf2.len p) (hp : p < 2 ^ 64) (hn : n < 2 ^ 62) (w : World) :
    Calls Try.prog 76 #[U p, I n] w fun e w' => e = .returned (U (Gf2.frob p n (Gf2.xr p))) ∧ w = w' := by
  have hp0 : p ≠ 0 := fun e => by rw [e, Gf2.len_zero] at hp2; omega
  have hm2 := mod2_calls p hp hp0
  go_enter Try.func76, Try.ntmps76
  go_wp2_with (go_at_call 63; refine (hm2 _).mono ?_; rintro e w1 ⟨rfl, rfl⟩)
  clear hm2
  go_loop [5, 9] (fun va vi => ∃ i : Nat, i ≤ n ∧ vi = I i ∧ va = U (Gf2.frob p i (Gf2.xr p))) (fun _ vi => (n - intOf vi).toNat)
  case atStart => exact ⟨0, by omega, rfl, rfl⟩
  case round =>
    obtain ⟨i, hi, rfl, rfl⟩ := hrel
    by_cases hlt : i < n
    · have hli : (i : Int) < (n : Int) := by omega
      have hfl := Gf2.frob_lt hp0 i _ (Gf2.len_mod_lt 2 hp0)
      have hf64 := frob_lt64 hp hp0 i
      have ht := times_calls p (Gf2.frob p i (Gf2.xr p)) (Gf2.frob p i (Gf2.xr p)) hp2 hp hfl hf64
      have hw : IntKind.i64.wrap ((i : Int) + 1) = ((i + 1 : Nat) : Int) := by rw [IntWalk.i64_in _ (by omega)]; omega
      have H := Lib.hid hw
      have Hf := Lib.hid (Gf2.frob_succ' p i (Gf2.xr p))
      clear hlt hf64 hfl
      go_wp2_with (go_at_call 58; refine (ht _).mono ?_; rintro e w1 ⟨rfl, rfl⟩)
      go_round
      case rel => exact ⟨i + 1, by omega, by first | rfl | rw [H.out], by rw [Hf.out]⟩
      case measure => simp [intOf]; omega
    · have hli : ¬ (i : Int) < (n : Int) := by omega
      have hin : i = n := by omega
      subst hin
      go_wp2
      go_ret
      exact ⟨rfl, rfl⟩

def rabinOk (n : Nat) : Bool := (primesL n).all (fun r => decide (2 ≤ r) && decide (r ≤ n) && n % r == 0) && (List.range n).all fun m => m == 0 || n % m != 0 || (primesL n).any fun r => (n / r) % m == 0
theorem rabinOk_all : ∀ n : Fin 64, 2 ≤ n.val → rabinOk n.val = true := by decide +kernel
theorem primesL_spec {n : Nat} (h2 : 2 ≤ n) (h : n ≤ 63) : (∀ r ∈ primesL n, 2 ≤ r ∧ r ∣ n) ∧ ∀ m, m ∣ n → m < n → ∃ r ∈ primesL n, m ∣ n / r := by
  have hk := rabinOk_all ⟨n, by omega⟩ h2
  simp only [rabinOk, Bool.and_eq_true, List.all_eq_true, List.mem_range, decide_eq_true_eq, beq_iff_eq, Bool.or_eq_true, bne_iff_ne, List.any_eq_true] at hk
  refine ⟨fun r hr => ⟨(hk.1 r hr).1.1, Nat.dvd_of_mod_eq_zero (hk.1 r hr).2⟩, fun m hm hlt => ?_⟩
  rcases hk.2 m hlt with (h0 | h0) | ⟨r, hr, h0⟩
  · subst h0
    have := Nat.eq_zero_of_zero_dvd hm
    omega
  · exact absurd (Nat.mod_eq_zero_of_dvd hm) h0
  · exact ⟨r, hr, Nat.dvd_of_mod_eq_zero h0⟩
/-- The test of a prime. -/
def rabAt (p n q : Nat) : Bool := Gf2.gcd p (Gf2.frob p (n / q) (Gf2.xr p) ^^^ Gf2.xr p) == 1
theorem irrB_rabin {p n : Nat} (hd : Gf2.len p = n + 1) (h2 : 2 ≤ n) (h : n ≤ 63) (hx : Gf2.frob p n (Gf2.xr p) = Gf2.xr p) : Gf2.irrB p = (primesL n).all (rabAt p n) := by
  refine Gf2.irrB_eq ?_
  rw [Gf2.irr_iff_rabin hd h2 (primesL n) (primesL_spec h2 h).1 (primesL_spec h2 h).2]
  simp only [hx, true_and, List.all_eq_true, rabAt, beq_iff_eq]
theorem irrB_frob {p n : Nat} (hd : Gf2.len p = n + 1) (h2 : 2 ≤ n) (h : n ≤ 63) (hx : ¬ Gf2.frob p n (Gf2.xr p) = Gf2.xr p) : Gf2.irrB p = false := by
  refine Gf2.irrB_eq ⟨fun hi => ?_, fun h => by cases h⟩
  exact absurd ((Gf2.irr_iff_rabin hd h2 (primesL n) (primesL_spec h2 h).1 (primesL_spec h2 h).2).1 hi).1 hx

theorem gcd_lt64 {p a : Nat} (hp : p < 2 ^ 64) (hp0 : p ≠ 0) : Gf2.gcd p a < 2 ^ 64 :=
  lt_of_len (Nat.le_trans (Gf2.len_le_of_dvd (Gf2.gcd_dvd_left p a) hp0) (len_le_64 hp))

theorem results_cell1 {P : Program} {fn : Func} {p : Tmp} {ty : TypeId} (h : fn.results = #[.cell p ty]) (tmps : Array Value) (w : World) (a : Addr) (v : Value) (d : TypeDesc)
    (hp : tmps.getD p undef = .pointer (some a)) (hu : P.underlying ty = some d) (hd : (match d with | .struct _ | .array _ _ => true | _ => false) = false) (hc : w.cell? a = some v) :
    (results fn tmps).run P w = .ok v w := by
  have hp' : tmps[p]?.getD undef = .pointer (some a) := by simpa using hp
  have hagg : (isAgg ty).run P w = .ok false w := by
    unfold isAgg
    rw [Sem.run_bind, run_underlying hu w]
    cases d <;> simp_all
  simp [results, h, hp', asAddr, loadVar, Sem.run_bind, hagg, hc]

theorem results_bool {fn : Func} {p : Tmp} (h : fn.results = #[.cell p 4]) (tmps : Array Value) (w : World) (a : Addr) (v : Value)
    (hp : tmps.getD p undef = .pointer (some a)) (hc : w.cell? a = some v) : (results fn tmps).run Try.prog w = .ok v w :=
  results_cell1 h tmps w a v _ hp Try.underlying4 rfl hc
theorem below_drewN {B : Nat} {w w' : World} (h : Below B w w') (n : Nat) : Below B w (w'.drewN n) := ⟨h.os, h.tape, h.output, h.size, h.block⟩

theorem degreeN_calls {p n : Nat} (hp : p < 2 ^ 64) (hn : Gf2.len p = n + 1) (w : World) : Calls Try.prog 17 #[U p] w fun e w' => e = .returned (I n) ∧ w = w' := by
  refine (degree_calls p hp w).mono ?_
  rintro e w' ⟨rfl, rfl⟩
  exact ⟨by rw [hn]; exact ret_i (by omega), rfl⟩

set_option maxHeartbeats 800000 in
theorem Irreducible_early (p : Nat) (hp : p < 2 ^ 64) (h : Gf2.len p < 3 ∨ p % 2 = 0 ∨ Gf2.frob p (Gf2.len p - 1) (Gf2.xr p) ≠ Gf2.xr p) (w : World) :
    Calls Try.prog 35 #[U p] w fun e w' => e = .returned (.bool (Gf2.irrB p)) ∧ Below w.heap.size w w' := by
  have hl := len_le_64 hp
  by_cases h1 : Gf2.len p < 2
  · rw [Gf2.irrB_short h1]
    have hdeg := degree_calls p hp
    have ht : ((Gf2.len p : Int) - 1 < 1) := by omega
    clear h h1 hl
    go_enter Try.func35, Try.ntmps35
    go_wp2_with (go_at_call 17; refine (hdeg _).mono ?_; rintro e w1 ⟨rfl, rfl⟩)
    refine bodyPost_ret (results_bool rfl _ _ ⟨w.heap.size + 1, 0, none⟩ (.bool false) rfl (by go_simp)) rfl ⟨rfl, ?_⟩
    (repeat' (first | exact Below.refl _ _ | refine Below.drew ?_ | refine below_drewN ?_ _ | refine Below.alloc ?_ (by simp <;> omega) _ | refine Below.setCell ?_ (by simp <;> omega) _))
  obtain ⟨n, hn⟩ : ∃ n, Gf2.len p = n + 1 := ⟨Gf2.len p - 1, by omega⟩
  have hdeg := degreeN_calls hp hn
  rw [hn, Nat.add_sub_cancel] at h
  by_cases h2 : n = 1
  · rw [Gf2.irrB_two (by omega)]
    have ht : ¬ ((n : Int) < 1) := by omega
    have ht2 : ((n : Int) == 1) = true := beq_true (by omega)
    clear h h1 hl h2
    go_enter Try.func35, Try.ntmps35
    go_wp2_with (go_at_call 17; refine (hdeg _).mono ?_; rintro e w1 ⟨rfl, rfl⟩)
    refine bodyPost_ret (results_bool rfl _ _ ⟨w.heap.size + 1, 0, none⟩ (.bool true) rfl (by go_simp)) rfl ⟨rfl, ?_⟩
    (repeat' (first | exact Below.refl _ _ | refine Below.drew ?_ | refine below_drewN ?_ _ | refine Below.alloc ?_ (by simp <;> omega) _ | refine Below.setCell ?_ (by simp <;> omega) _))
  have hp0 : p ≠ 0 := fun e => by rw [e, Gf2.len_zero] at hn; omega
  have h3 : 2 ≤ Gf2.len p := by omega
  have hn62 : n < 2 ^ 62 := by have : n ≤ 63 := by omega
                               exact Nat.lt_of_le_of_lt this (by decide)
  have ht : ¬ ((n : Int) < 1) := by omega
  have ht2 : ((n : Int) == 1) = false := beq_false (by omega)
  have hone := one_u64 hp
  by_cases h4 : p % 2 = 0
  · rw [Gf2.irrB_even (by omega) h4]
    have ht4 : (bits .and .u64 (p : Int) 1 == 0) = true := by rw [hone, h4]; rfl
    clear h h1 hl h2 hone
    go_enter Try.func35, Try.ntmps35
    go_wp2_with (first | (go_at_call 17; refine (hdeg _).mono ?_; rintro e w1 ⟨rfl, rfl⟩) | (go_quiet (first | (go_at_call 76; exact Calls.quiet_of_same (sw (turned_calls _ _ (by assumption) (by assumption) (by assumption) _))) | (go_at_call 63; exact Calls.quiet_of_same (sw (mod2_calls _ (by assumption) (by assumption) _))))))
    refine bodyPost_ret (results_bool rfl _ _ ⟨w.heap.size + 1, 0, none⟩ (.bool false) rfl (by go_simp)) rfl ⟨rfl, ?_⟩
    (repeat' (first | exact Below.refl _ _ | refine Below.drew ?_ | refine below_drewN ?_ _ | refine Below.alloc ?_ (by simp <;> omega) _ | refine Below.setCell ?_ (by simp <;> omega) _))
  · have hx := h.resolve_left (by omega) |>.resolve_left h4
    rw [irrB_frob hn (by omega) (by omega) hx]
    have ht4 : (bits .and .u64 (p : Int) 1 == 0) = false := by rw [hone]; exact beq_false (by omega)
    have ht5 : ((Gf2.frob p n (Gf2.xr p) : Int) == (Gf2.pmod 2 p : Int)) = false := beq_false (by unfold Gf2.xr at hx ⊢; omega)
    clear h h1 hl h2 hone hx
    go_enter Try.func35, Try.ntmps35
    go_wp2_with (first | (go_at_call 17; refine (hdeg _).mono ?_; rintro e w1 ⟨rfl, rfl⟩) | (go_quiet (first | (go_at_call 76; exact Calls.quiet_of_same (sw (turned_calls _ _ (by assumption) (by assumption) (by assumption) _))) | (go_at_call 63; exact Calls.quiet_of_same (sw (mod2_calls _ (by assumption) (by assumption) _))))))
    refine bodyPost_ret (results_bool rfl _ _ ⟨w.heap.size + 1, 0, none⟩ (.bool false) rfl (by go_simp)) rfl ⟨rfl, ?_⟩
    (repeat' (first | exact Below.refl _ _ | refine Below.drew ?_ | refine below_drewN ?_ _ | refine Below.alloc ?_ (by simp <;> omega) _ | refine Below.setCell ?_ (by simp <;> omega) _))

theorem grown_old {A C : World} {r : Option Nat} {k : Nat} {o : Obj} (hg : A.grownBy C r) (h : A.heap[k]? = some o) (hne : r ≠ some k) : C.heap[k]? = some o :=
  (hg.block k (lt_of_block h) (fun e => hne e.symm)).trans h

theorem ret_collected {P : Program} {fn : Func} {R : Ending → World → Prop} {tmps : Array Value} {D : Nat} {w : World} {v : Value} (hK : w.heap[D]? = some (.deferred (some [])))
    (hr : (results fn tmps).run P (w.putObj D (.deferred none)) = .ok v (w.putObj D (.deferred none))) (hR : R (.returned v) (w.putObj D (.deferred none))) :
    bodyPostM Fence.wide 0 P fn R .ret { tmps, defers := [{ target := .collected D, args := #[] }] } w :=
  ⟨by simp, .inl ⟨_, _, rfl, run_takeDeferred hK, v, hr, hR⟩⟩
theorem putObj_old {w : World} {D k : Nat} {o x : Obj} (h : w.heap[k]? = some x) (hne : k ≠ D) : (w.putObj D o).heap[k]? = some x := (World.putObj_heap_other hne).trans h
theorem below_putObj {B D : Nat} {w w' : World} (h : Below B w w') (hD : B ≤ D) (o : Obj) : Below B w (w'.putObj D o) :=
  ⟨h.os, h.tape, h.output, by have := h.size; simp [World.putObj]; omega, fun k hk => (World.putObj_heap_other (by omega)).trans (h.block k hk)⟩

set_option maxHeartbeats 1600000 in
theorem Irreducible_main (p n : Nat) (hp : p < 2 ^ 64) (hn : Gf2.len p = n + 1) (h2' : 2 ≤ n) (h4 : p % 2 = 1) (hx : Gf2.frob p n (Gf2.xr p) = Gf2.xr p) (w : World) :
    Calls Try.prog 35 #[U p] w fun e w' => e = .returned (.bool (Gf2.irrB p)) ∧ Below w.heap.size w w' := by
  have hl := len_le_64 hp
  have hdeg := degreeN_calls hp hn
  have hp0 : p ≠ 0 := fun e => by rw [e, Gf2.len_zero] at hn; omega
  have h3 : 2 ≤ Gf2.len p := by omega
  have h63 : n ≤ 63 := by omega
  have hn62 : n < 2 ^ 62 := Nat.lt_of_le_of_lt h63 (by decide)
  have ht : ¬ ((n : Int) < 1) := by omega
  have ht2 : ((n : Int) == 1) = false := beq_false (by omega)
  have hone := one_u64 hp
  rw [irrB_rabin hn h2' h63 hx]
  have ht4 : (bits .and .u64 (p : Int) 1 == 0) = false := by rw [hone]; exact beq_false (by omega)
  have ht5 : ((Gf2.frob p n (Gf2.xr p) : Int) == (Gf2.pmod 2 p : Int)) = true := beq_true (by unfold Gf2.xr at hx ⊢; omega)
  replace hx := Lib.hid hx
  clear hl hone h4
  refine (callsIn_wide (n := 0)).1 (callsIn_of_wp_marks Try.func35 rfl trivial (wpIn_wide.2 ?_) rfl)
  simp only [Try.ntmps35, List.size_toArray, List.length_cons, List.length_nil, Nat.reduceAdd, Nat.reduceSub, Array.replicate_succ, Array.replicate_zero, List.push_toArray, List.append_toArray, List.nil_append, List.cons_append]
  go_wp2_with (first | (go_at_call 17; refine (hdeg _).mono ?_; rintro e w1 ⟨rfl, rfl⟩) | (go_quiet (first | (go_at_call 76; exact Calls.quiet_of_same (sw (turned_calls _ _ (by assumption) (by assumption) (by assumption) _))) | (go_at_call 63; exact Calls.quiet_of_same (sw (mod2_calls _ (by assumption) (by assumption) _))))) | (go_at_call 77; refine (primes_calls _ _).mono ?_; rintro e w1 ⟨rfl, rfl⟩))
  clear hdeg ht ht2 ht4 ht5
  generalize hW0 : ((((w.alloc (.cells #[U p] 22)).alloc (.cells #[.bool false] 4)).alloc (.cells #[I n] 3)).drewN nq).alloc (.cells #[I n] 3) = W0
  have hsz : W0.heap.size = w.heap.size + 4 := by rw [← hW0]; simp
  have hB0 : Below w.heap.size w W0 := by rw [← hW0]; (repeat' (first | exact Below.refl _ _ | refine Below.drew ?_ | refine below_drewN ?_ _ | refine Below.alloc ?_ (by simp <;> omega) _ | refine Below.setCell ?_ (by simp <;> omega) _))
  have hk0 : W0.heap[w.heap.size]? = some (.cells #[U p] 22 (0, 0)) := by
    rw [← hW0]; exact alloc_old (alloc_old (alloc_old (alloc_new w _)))
  have hk1 : W0.heap[w.heap.size + 1]? = some (.cells #[.bool false] 4 (0, 0)) := by
    rw [← hW0]; exact alloc_old (alloc_old (by simpa using alloc_new (w.alloc _) _))
  have hk2 : W0.heap[w.heap.size + 1 + 1]? = some (.cells #[I n] 3 (0, 0)) := by
    rw [← hW0]; exact alloc_old (by simpa using alloc_new ((w.alloc _).alloc _) _)
  have hk3 : W0.heap[w.heap.size + 1 + 1 + 1]? = some (.cells #[I n] 3 (0, 0)) := by
    rw [← hW0]; simpa using alloc_new ((((w.alloc _).alloc _).alloc _).drewN nq) _
  clear hW0
  obtain ⟨B, hB⟩ : ∃ B, w.heap.size = B := ⟨_, rfl⟩
  rw [hB] at hsz hB0 hk0 hk1 hk2 hk3 ⊢
  refine wpIn_wide.1 (wp_range (enc := fun q : Nat => #[I q]) (row := some (B + 1 + 1 + 1)) (ks := [B + 1 + 1 + 1]) (L := primesL n) (gf := 94) rfl (enters_of Try.func94 (by kernel_rfl) rfl) (primes1_iter n _ h63 W0 hk3)
    (by simp; omega) (by simp; omega) (by simp)
    (fun pre W => Below B w W ∧ W.heap[B]? = some (.cells #[U p] 22 (0, 0)) ∧ W.heap[B + 1]? = some (.cells #[.bool false] 4 (0, 0)) ∧ W.heap[B + 1 + 1]? = some (.cells #[I n] 3 (0, 0)) ∧ pre.all (rabAt p n) = true)
    (fun c pre W => c = .ret ∧ Below B w W ∧ W.heap[B + 1]? = some (.cells #[.bool false] 4 (0, 0)) ∧ pre.all (rabAt p n) = false)
    ?hI ?hIx ⟨hB0, hk0, hk1, hk2, rfl⟩ ?a1 ?assign ?body ?done ?stop)
  case assign =>
    intro l x W K hK
    gi_wp2
    exact hK
  case hI =>
    rintro s A C r ⟨hb, h0, h1, h2, hs⟩ hg hr
    have hge : ∀ k, r = some k → B + 3 ≤ k := fun k e => by
      rcases hr k e with h | h
      · have := Option.some.inj h; omega
      · omega
    have hne : ∀ k, k < B + 3 → r ≠ some k := fun k hk e => by have := hge k e; omega
    exact ⟨hb.grown hg (by have := lt_of_block h0; omega) (fun k e => by have := hge k e; omega), grown_old hg h0 (hne _ (by omega)), grown_old hg h1 (hne _ (by omega)), grown_old hg h2 (hne _ (by omega)), hs⟩
  case hIx =>
    rintro c s A C r ⟨hc, hb, h1, hs⟩ hg hr
    have hge : ∀ k, r = some k → B + 3 ≤ k := fun k e => by
      rcases hr k e with h | h
      · have := Option.some.inj h; omega
      · omega
    have hne : ∀ k, k < B + 3 → r ≠ some k := fun k hk e => by have := hge k e; omega
    exact ⟨hc, hb.grown hg (by have := lt_of_block h1; omega) (fun k e => by have := hge k e; omega), grown_old hg h1 (hne _ (by omega)), hs⟩
  case body =>
    rintro l pre x W hpre hlt ⟨hb, h0, h1, h2, hs⟩
    have hxm : x ∈ primesL n := hpre.subset (by simp)
    obtain ⟨hx2, hxd⟩ := (primesL_spec h2' h63).1 x hxm
    have cp := cell_of_one h0
    have cn := cell_of_one h2
    have cr := cell_of_one h1
    have fr := free_of_one h1
    have hdn : n / x ≤ n := Nat.div_le_self _ _
    have hw : wrap64 ((n : Int) / (x : Int)) = ((n / x : Nat) : Int) := by
      rw [← Int.natCast_ediv]; generalize n / x = k at *; unfold wrap64; omega
    have hdl : n / x < 2 ^ 62 := Nat.lt_of_le_of_lt (Nat.div_le_self _ _) hn62
    have hx0 : ¬ x = 0 := by omega
    have ht := turned_calls p (n / x) h3 hp hdl
    have hf64 := frob_lt64 hp hp0 (n / x)
    have hm64 := mod_lt64 2 hp hp0
    have hc : ∀ w, Calls Try.prog 19 #[U p, .int .u64 (bits .xor .u64 (Gf2.frob p (n / x) (Gf2.xr p) : Nat) (Gf2.pmod 2 p : Nat))] w fun e w' => e = .returned (U (Gf2.gcd p (Gf2.frob p (n / x) (Gf2.xr p) ^^^ Gf2.xr p))) ∧ w = w' := by
      rw [xor_u64 hf64 hm64]
      exact common_calls p _ hp (Nat.xor_lt_two_pow hf64 hm64)
    clear hdl hxd hxm hn62 hf64 hm64 hx2 hdn
    by_cases hone : Gf2.gcd p (Gf2.frob p (n / x) (Gf2.xr p) ^^^ Gf2.xr p) = 1
    · have hq : ((Gf2.gcd p (Gf2.frob p (n / x) (Gf2.xr p) ^^^ Gf2.xr p) : Int) != 1) = false := by rw [hone]; rfl
      have hab : rabAt p n x = true := by rw [rabAt, hone]; rfl
      clear hone
      gi_wp2_with ((refine wpIn_region_quiet_round (by kernel_rfl) (by kernel_rfl) (by kernel_rfl) ?_; (repeat (go_big_quiet_step (first | (go_at_call 76; exact Calls.quiet_of_same (sw (ht _))) | (go_at_call 63; exact Calls.quiet_of_same (sw (mod2_calls _ (by assumption) (by assumption) _))) | (go_at_call 19; exact Calls.quiet_of_same (sw (hc _)))))); refine wpQuiet_nil ?_; intro _ hw'; obtain ⟨nq, hw''⟩ := hw'; subst hw''))
      exact ⟨rfl, rfl, fun _ _ => rfl, Nat.le_refl _, below_drewN hb nq, h0, h1, h2, by rw [List.all_append, hs]; simp [hab]⟩
    · have hq : ((Gf2.gcd p (Gf2.frob p (n / x) (Gf2.xr p) ^^^ Gf2.xr p) : Int) != 1) = true := by simp; omega
      have hab : rabAt p n x = false := by simp [rabAt, hone]
      have hst := one_setCell (u := .bool false) h1
      clear hone
      gi_wp2_with ((refine wpIn_region_quiet_round (by kernel_rfl) (by kernel_rfl) (by kernel_rfl) ?_; (repeat (go_big_quiet_step (first | (go_at_call 76; exact Calls.quiet_of_same (sw (ht _))) | (go_at_call 63; exact Calls.quiet_of_same (sw (mod2_calls _ (by assumption) (by assumption) _))) | (go_at_call 19; exact Calls.quiet_of_same (sw (hc _)))))); refine wpQuiet_nil ?_; intro _ hw'; obtain ⟨nq, hw''⟩ := hw'; subst hw''))
      have hB1 : ∀ k, k ≠ B + 1 → ((W.drewN nq).setCell ⟨B + 1, 0, none⟩ (.bool false)).heap[k]? = W.heap[k]? := fun k hk => Below.heap_setCell _ _ _ _ hk
      exact ⟨hB1 _ (by omega), hB1 _ (by omega), rfl, (below_drewN hb nq).setCell (by simp) _, hst, by rw [List.all_append, hs]; simp [hab]⟩
  case done =>
    rintro W ⟨hb, h0, h1, h2, hs⟩ hK
    have cr := cell_of_one h1
    have fr := free_of_one h1
    have Hs := Lib.hid hs
    clear hs
    dsimp only
    go_wp2
    have h1' := one_setCell (u := .bool true) h1
    refine ret_collected ((set_other hK (by omega))) (results_bool rfl _ _ ⟨B + 1, 0, none⟩ (.bool true) rfl (cell_of_one (putObj_old h1' (by omega)))) ⟨by rw [Hs.out], ?_⟩
    rw [hB]
    exact below_putObj (hb.setCell (by simp) _) (by omega) _
  case stop =>
    rintro c pre W hpre ⟨rfl, hb, h1, hs⟩ hK
    have ha : (primesL n).all (rabAt p n) = false := by
      obtain ⟨t, ht⟩ := hpre
      rw [← ht, List.all_append, hs]; rfl
    have cr := cell_of_one h1
    have Hs := Lib.hid ha
    clear hs ha
    dsimp only
    refine wpIn_wide.2 ?_
    go_wp2
    refine ret_collected hK (results_bool rfl _ _ ⟨B + 1, 0, none⟩ (.bool false) rfl (cell_of_one (putObj_old h1 (by omega)))) ⟨by rw [Hs.out], ?_⟩
    rw [hB]
    exact below_putObj hb (by omega) _

theorem Irreducible_calls (p : Nat) (hp : p < 2 ^ 64) (w : World) :
    Calls Try.prog 35 #[U p] w fun e w' => e = .returned (.bool (Gf2.irrB p)) ∧ Below w.heap.size w w' := by
  by_cases h : Gf2.len p < 3 ∨ p % 2 = 0 ∨ Gf2.frob p (Gf2.len p - 1) (Gf2.xr p) ≠ Gf2.xr p
  · exact Irreducible_early p hp h w
  · have h3 : ¬ Gf2.len p < 3 := fun e => h (.inl e)
    have h4 : ¬ p % 2 = 0 := fun e => h (.inr (.inl e))
    have h5 : Gf2.frob p (Gf2.len p - 1) (Gf2.xr p) = Gf2.xr p := Classical.byContradiction fun e => h (.inr (.inr e))
    exact Irreducible_main p (Gf2.len p - 1) hp (by omega) (by omega) (by omega) h5 w
end Go.Proofs.Ytjgfcnhnlaobcaa
