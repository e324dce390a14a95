/- Walks: the primes that divide a number. -/
import Derived.Test.YtjgfcnhnlaobcaaRng
import Derived.Test.YtjgfcnhnlaobcaaWd
import Derived.Sort.LoopGhostIn
namespace Go.Proofs.Ytjgfcnhnlaobcaa
open Go.RowKit Go.Shelf
attribute [local go_sem] Oper.semAt_some

/-- A number without a prime. -/
def stripN : Nat → Nat → Nat → Nat
  | 0, n, _ => n
  | f + 1, n, q => if n % q = 0 then stripN f (n / q) q else n
/-- The primes from q on that divide n. -/
def primesN : Nat → Nat → Nat → List Nat
  | 0, _, _ => []
  | f + 1, n, q => if n ≤ 1 then [] else if n % q = 0 then q :: primesN f (stripN 7 n q) (q + 1) else primesN f n (q + 1)
def primesOk : Nat → Nat → Nat → Bool
  | 0, n, _ => n ≤ 1
  | f + 1, n, q => if n ≤ 1 then true else if n % q = 0 then primesOk f (stripN 7 n q) (q + 1) else primesOk f n (q + 1)
def primesL (n : Nat) : List Nat := primesN 70 n 2
theorem primesOk_all : ∀ n : Fin 64, primesOk 70 n.val 2 = true := by decide +kernel
theorem stripN_le : ∀ f n q, stripN f n q ≤ n
  | 0, _, _ => Nat.le_refl _
  | f + 1, n, q => by
    rw [stripN]; split
    · exact Nat.le_trans (stripN_le f _ q) (Nat.div_le_self _ _)
    · exact Nat.le_refl _
theorem stripN_pos (f : Nat) : ∀ n q, 1 ≤ n → 1 ≤ stripN f n q := by
  induction f with
  | zero => intro n q h; exact h
  | succ f ih =>
    intro n q h
    rw [stripN]; split
    · rename_i h0
      refine ih _ _ ?_
      rcases Nat.eq_zero_or_pos q with hq | hq
      · subst hq; rw [Nat.mod_zero] at h0; omega
      · exact Nat.div_pos (Nat.le_of_dvd h (Nat.dvd_of_mod_eq_zero h0)) hq
    · exact h

theorem abides_set {α : Type} {J : List α → World → Prop} {Bn : Nat} (hJ : ∀ s A B r, J s A → A.grownBy B r → (r = none ∨ r = some Bn) → J s B) {s : List α} {W : World} (h : J s W) (v : Value) : J s (W.setCell ⟨Bn, 0, none⟩ v) :=
  hJ s W _ (some Bn) h (grownBy_setCell' W Bn v) (.inr rfl)

set_option maxHeartbeats 1600000 in
theorem primes1_iter (n Bn : Nat) (h63 : n ≤ 63) (w0 : World) (hb : w0.heap[Bn]? = some (.cells #[I n] 3 (0, 0))) :
    Iter Try.prog 94 #[.pointer (some ⟨Bn, 0, none⟩)] (fun q : Nat => #[I q]) (some Bn) [Bn] (primesL n) w0 := by
  intro l J Jx W hks hsz hJ hJx hY h0
  have hbW : W.heap[Bn]? = some (.cells #[I n] 3 (0, 0)) := (hks Bn (by simp)).trans hb
  have hok := primesOk_all ⟨n, by omega⟩
  have HJ := Lib.hid hJ
  have HY := Lib.hid hY
  clear hJ hY hJx hks hsz hb
  obtain ⟨L, hL⟩ : ∃ L, primesL n = L := ⟨_, rfl⟩
  rw [hL] at HY ⊢
  have hL2 : [] ++ primesN 70 n 2 = L := hL
  clear hL
  have HO := Lib.hid hok
  have HL := Lib.hid hL2
  clear hok hL2
  refine callsIn_of_wp Try.func94 rfl trivial ?_ rfl
  simp only [Try.ntmps94, List.size_toArray, List.length_cons, List.length_nil, Nat.reduceAdd, Nat.reduceSub, Array.replicate_succ, Array.replicate_zero, List.push_toArray, List.append_toArray, List.nil_append, List.cons_append]
  gi_wp2
  gi_loopg [3] 70 (fun f vq wr => ∃ (q m : Nat) (pre : List Nat), vq = I q ∧ wr.heap[Bn]? = some (.cells #[I m] 3 (0, 0)) ∧ 2 ≤ q ∧ q + f = 72 ∧ m ≤ 63 ∧ primesOk f m q = true ∧ pre ++ primesN f m q = L ∧ J pre wr)
  case atStart => exact ⟨2, n, [], rfl, hbW, by omega, by omega, by omega, HO.out, HL.out, h0⟩
  case round =>
    clear HO HL hbW h0
    obtain ⟨q, m, pre, rfl, hm, hq2, hqf, hm63, hok, hL, hJp⟩ := hrel
    have cm := cell_of_one hm
    have fm := free_of_one hm
    by_cases h1 : m ≤ 1
    · have hLe : pre = L := by
        cases gk with
        | zero => simpa [primesN] using hL
        | succ f => rw [primesN, if_pos h1, List.append_nil] at hL; exact hL
      clear hok hL
      subst hLe
      gi_wp2
      go_end0
      exact ⟨⟨_, rfl⟩, .inl hJp⟩
    · have hgt : (1 : Int) < (m : Int) := by omega
      cases gk with
      | zero => simp [primesOk] at hok; omega
      | succ f =>
        rw [primesOk, if_neg h1] at hok
        rw [primesN, if_neg h1] at hL
        have hq0 : ((q : Int) == 0) = false := beq_false (by omega)
        by_cases hd : m % q = 0
        · rw [if_pos hd] at hok hL
          have hne : ((m : Int) % (q : Int) != 0) = false := by
            have : (m : Int) % (q : Int) = ((m % q : Nat) : Int) := by simp
            rw [this, hd]; rfl
          have HO := Lib.hid hok
          have HL := Lib.hid hL
          have HD := Lib.hid hd
          clear hok hL hd
          gi_wp2
          obtain ⟨wo, hwo⟩ : ∃ wo : World, wo = wr := ⟨_, rfl⟩
          gi_loopg [] 7 (fun g wx => ∃ m' : Nat, wx.heap[Bn]? = some (.cells #[I m'] 3 (0, 0)) ∧ 1 ≤ m' ∧ m' ≤ 63 ∧ m' < 2 ^ g ∧ stripN g m' q = stripN 7 m q ∧ J pre wx)
          case atStart => exact ⟨m, hm, by omega, hm63, by omega, rfl, hJp⟩
          case round =>
            clear hJp fm cm hm hwo
            obtain ⟨m', hm', h1m, hm63', hmg, hS, hJp⟩ := hrel
            have cm := cell_of_one hm'
            have fm := free_of_one hm'
            have hmod : (m' : Int) % (q : Int) = ((m' % q : Nat) : Int) := by simp
            by_cases hd' : m' % q = 0
            · have heq : ((m' : Int) % (q : Int) == 0) = true := by rw [hmod, hd']; rfl
              cases gk with
              | zero => omega
              | succ g =>
                rw [stripN, if_pos hd'] at hS
                have hle : q ≤ m' := Nat.le_of_dvd h1m (Nat.dvd_of_mod_eq_zero hd')
                have h1d : 1 ≤ m' / q := Nat.div_pos hle (by omega)
                have hlt : m' / q < 2 ^ g := by
                  have : m' / q ≤ m' / 2 := Nat.div_le_div_left hq2 (by decide)
                  rw [Nat.pow_succ] at hmg; omega
                have hdl : m' / q ≤ 63 := Nat.le_trans (Nat.div_le_self _ _) hm63'
                have hw : IntKind.i64.wrap ((m' : Int).tdiv (q : Int)) = ((m' / q : Nat) : Int) := by
                  rw [IntWalk.i64_quo _ _ (by omega)]; simp
                have hone := one_setCell (u := I ((m' / q : Nat) : Int)) hm'
                have hJn := abides_set HJ.out hJp (I ((m' / q : Nat) : Int))
                have hJn := Lib.hid hJn
                replace hS := Lib.hid hS
                clear hmod hd'
                gi_wp2
                gi_roundg g
                case measure => omega
                case rel => exact ⟨m' / q, by simpa using hone, h1d, hdl, hlt, hS.out, by simpa using hJn.out⟩
            · have heq : ((m' : Int) % (q : Int) == 0) = false := by rw [hmod]; exact beq_false (by omega)
              have hSm : m' = stripN 7 m q := by
                cases gk with
                | zero => exact hS
                | succ g => rw [stripN, if_neg hd'] at hS; exact hS
              have hHS := Lib.hid hSm
              clear hmod hd' hS hSm
              have hpre : pre ++ [q] <+: L := ⟨primesN f (stripN 7 m q) (q + 1), by rw [List.append_assoc]; exact HL.out⟩
              obtain ⟨fn, tmps, assign, body, hy, hR⟩ := HY.out pre q _ hpre hJp
              have hR := Lib.hid hR
              clear hpre
              gi_wp2
              refine ⟨rfl, hR.out.mono ?_⟩
              rintro e W' (⟨rfl, hJ', hk', _⟩ | ⟨rfl, hJx'⟩)
              · have hm2 := (hk' Bn (by simp)).trans hm'
                gi_wp2
                gi_roundg f
                case measure => omega
                case rel => exact ⟨q + 1, m', pre ++ [q], by go_num, hm2, by omega, by omega, hm63', by rw [hHS.out]; exact HO.out, by rw [hHS.out, List.append_assoc]; exact HL.out, hJ'⟩
              · have hpre : pre ++ [q] <+: L := ⟨primesN f (stripN 7 m q) (q + 1), by rw [List.append_assoc]; exact HL.out⟩
                have hpre := Lib.hid hpre
                gi_wp2
                refine bodyPost_ret (results_none rfl _ _ _) rfl ?_
                exact ⟨⟨_, rfl⟩, .inr ⟨pre ++ [q], hpre.out, hJx'⟩⟩
        · rw [if_neg hd] at hok hL
          have hne : ((m : Int) % (q : Int) != 0) = true := by
            have : (m : Int) % (q : Int) = ((m % q : Nat) : Int) := by simp
            rw [this]; simp; omega
          replace hok := Lib.hid hok
          replace hL := Lib.hid hL
          replace hd := Lib.hid hd
          gi_wp2
          gi_roundg f
          case measure => omega
          case rel => exact ⟨q + 1, m, pre, by go_num, hm, by omega, by omega, hm63, hok.out, hL.out, hJp⟩
end Go.Proofs.Ytjgfcnhnlaobcaa
