/- Walk of the seventh law: which texts collide first. -/
import Derived.Test.YtjgfcnhnlaobcaaRow8
import Derived.Test.YtjgfcnhnlaobcaaFew
import Derived.Test.YtjgfcnhnlaobcaaColl
import Derived.Test.YtjgfcnhnlaobcaaWx
namespace Go.Proofs.Ytjgfcnhnlaobcaa
open Go.RowKit

theorem tMany_few {Ls : List (List Nat)} {many bytes : Nat} (h : tFew Ls many bytes = true) (hm : many ≤ 40) (hb : bytes ≤ 4000) : tMany Ls = false := by
  have h1 : Ls.length ≤ many ∧ psum Ls Ls.length ≤ bytes := by simpa [tFew] using h
  have h2 : ¬ 20000 < Ls.length := by omega
  rw [tMany, decide_eq_false h2, Bool.false_or]
  apply List.any_eq_false.2
  intro l hl
  obtain ⟨k, hk, rfl⟩ := List.getElem_of_mem hl
  have h3 := psum_get hk
  have h4 : (Ls.getD k []).length = Ls[k].length := by simp [hk]
  simp
  omega

set_option maxRecDepth 100000 in
set_option maxHeartbeats 3200000 in
theorem first_walk (p cap : Nat) (a : Option Addr) (Ls : List (List Nat)) (hp : p < 2 ^ 64) (w : World) (hl : TextsAt w a Ls) (hn : Ls.length ≤ 140737488351232) (hs : ∀ l ∈ Ls, l.length ≤ 140737488351232) :
    Calls Try.prog 9 #[U p, .slice a Ls.length cap] w fun e w' => e = .returned (.bool true) ∧ Below w.heap.size w w' := by
  have hB : Below w.heap.size w w := Below.refl _ _
  have c25 := fun x (hb : Below w.heap.size w x) => few_calls a cap 40 4000 Ls (by omega) hs (by omega) (by omega) x (hl.below hb)
  by_cases hfew : tFew Ls 40 4000 = false
  · rw [hfew] at c25
    clear hfew hs hn hl
    go_enter Try.func9, Try.ntmps9
    go_wp2_with (first
      | (go_at_call 14; refine (sane_calls _).mono ?_; rintro e w1 ⟨rfl, hb⟩; replace hB := hB.trans (hb.mono hB.size); clear hb)
      | (go_at_call 25; refine (c25 _ hB).mono ?_; rintro e w1 ⟨rfl, rfl⟩))
    go_ret
    exact ⟨rfl, hB⟩
  replace hfew : tFew Ls 40 4000 = true := by simpa using hfew
  rw [hfew] at c25
  have hmany := tMany_few hfew (by omega) (by omega)
  have hbd : Ls.length ≤ 40 ∧ psum Ls Ls.length ≤ 4000 := by simpa [tFew] using hfew
  have c36 := fun x (hb : Below w.heap.size w x) => Colliding_calls p a cap Ls hp (by omega) (fun l hl' => Nat.lt_of_le_of_lt (hs l hl') (by omega)) x (hl.below hb)
  have hlen : ∀ k, k < Ls.length → (Ls.getD k []).length ≤ 4000 := fun k hk => by have := psum_get hk; omega
  by_cases h5 : Gf2.len p < 5
  · rw [show tColliding p Ls = (0, 0, false, 200) by rw [tColliding, if_pos h5]] at c36
    dsimp only at c36
    clear hfew hs hn hl h5 hlen hmany hbd
    go_enter Try.func9, Try.ntmps9
    go_wp2_with (first
      | (go_at_call 14; refine (sane_calls _).mono ?_; rintro e w1 ⟨rfl, hb⟩; replace hB := hB.trans (hb.mono hB.size); clear hb)
      | (go_at_call 25; refine (c25 _ hB).mono ?_; rintro e w1 ⟨rfl, rfl⟩)
      | (go_at_call 36; refine (c36 _ hB).mono ?_; rintro e w1 ⟨rfl, hb⟩; replace hB := hB.trans (hb.mono hB.size); clear hb))
    go_ret
    exact ⟨rfl, hB⟩
  have hp5 : 5 ≤ Gf2.len p := by omega
  have hp0 : p ≠ 0 := fun e => by rw [e, Gf2.len_zero] at hp5; omega
  rw [show tColliding p Ls = ((tColl p Ls).1, (tColl p Ls).2.1, (tColl p Ls).2.2, 0) by rw [tColliding, if_neg h5, hmany]; rfl] at c36
  have hspec := tColl_spec p Ls
  dsimp only at c36
  obtain ⟨r, hr⟩ : ∃ r, tColl p Ls = r := ⟨_, rfl⟩
  rw [hr] at hspec c36
  clear hr
  obtain ⟨i0, k0, b0⟩ := r
  dsimp only at c36
  have c30 := fun x y cc (l : List Nat) (hb : BytesAt x y l) (h4 : l.length ≤ 4000) => by
    have := Of_calls p cc y l hp x hb (by omega)
    rw [tExtend_one hp5 (by omega)] at this
    exact this
  have hfps : ∀ k, k < Ls.length → (Ls.map (Gf2.onBytes p 1)).getD k 0 = Gf2.onBytes p 1 (Ls.getD k []) := fun k hk => by simp [hk]
  have hf64 : ∀ k, k < Ls.length → (Ls.map (Gf2.onBytes p 1)).getD k 0 < 2 ^ 64 := fun k hk => by
    rw [hfps k hk]
    have := Gf2.onBytes_lt hp0 (Ls.getD k []) 1 (Gf2.one_lt (by omega))
    exact lt_of_len (by have := len_le_64 hp; omega)
  have hfl : (Ls.map (Gf2.onBytes p 1)).length = Ls.length := by simp
  generalize Ls.map (Gf2.onBytes p 1) = fps at *
  have HS := Lib.hid hspec
  have HL := Lib.hid hl
  have HLEN := Lib.hid hlen
  have HFP := Lib.hid hfps
  have HFL := Lib.hid hfl
  have HN := Lib.hid hbd.1
  clear hfew hs hn hl h5 hlen hmany hbd hspec hfps hfl
  go_enter Try.func9, Try.ntmps9
  go_wp2_with (first
    | (go_at_call 14; refine (sane_calls _).mono ?_; rintro e w1 ⟨rfl, hb⟩; replace hB := hB.trans (hb.mono hB.size); clear hb)
    | (go_at_call 25; refine (c25 _ hB).mono ?_; rintro e w1 ⟨rfl, rfl⟩)
    | (go_at_call 36; refine (c36 _ hB).mono ?_; rintro e w1 ⟨rfl, hb⟩; replace hB := hB.trans (hb.mono hB.size); clear hb))
  have hn40 : Ls.length ≤ 40 := HN.out
  clear c25 c36
  go_loopw [9, 35] (fun vf vi wr => ∃ k : Nat, vi = I k ∧ k ≤ Ls.length ∧ OwnU wr w.heap.size vf (fps.take k) ∧ Below w.heap.size w wr) (fun _ vi _ => Ls.length - (intOf vi).toNat)
  case atStart => exact ⟨0, rfl, Nat.zero_le _, OwnU.nil _ _, hB⟩
  case round =>
    clear hB
    obtain ⟨k, rfl, hk, hown, hB⟩ := hrel
    by_cases hkn : k < Ls.length
    · obtain ⟨b, off, rfl, hcs⟩ : ∃ b off, a = some ⟨b, off, none⟩ ∧ ∀ i, i < Ls.length → ∃ x c, wr.cell? ⟨b, off + i, none⟩ = some (.slice x (Ls.getD i []).length c) ∧ BytesAt wr x (Ls.getD i []) := by
        rcases HL.out.below hB with h | h
        · rw [h] at hkn; simp at hkn
        · exact h
      obtain ⟨x, c, hcell, hbt⟩ := hcs k hkn
      have c30k := c30 _ _ c _ hbt (HLEN.out k hkn)
      obtain ⟨t, hte⟩ : ∃ t, Ls.getD k [] = t := ⟨_, rfl⟩
      have hfk := HFP.out k hkn
      rw [hte] at hcell hbt c30k hfk
      obtain ⟨y, hy⟩ : ∃ y, fps.getD k 0 = y := ⟨_, rfl⟩
      rw [← hfk, hy] at c30k
      have htk := take_getD (l := fps) (k := k) (by have := HFL.out; omega) hy
      have hrl : (fps.take k).length + 1 ≤ 2 ^ 40 := by simp; omega
      have HTK := Lib.hid htk
      have hin : (k : Int) < (Ls.length : Int) := by omega
      clear hcs hte hfk hy htk c30
      go_wp2_with (first
        | (go_at_call 30; refine (c30k).mono ?_; rintro e w3 ⟨rfl, hb3⟩; have hown2 := (hown.below hb3).below ((Below.refl w3.heap.size w3).alloc (Nat.le_refl _) (.cells #[.int .u64 y] 22)); have hc2 := cell_of_one (alloc_new w3 (.cells #[.int .u64 y] 22)); have hsz3 := Nat.le_trans hB.size hb3.size; have hbz : w.heap.size ≤ (w3.alloc (.cells #[.int .u64 y] 22)).heap.size := (by have := lt_of_block (alloc_new w3 (.cells #[.int .u64 y] 22)); omega))
        | (at_builtin; refine wpList_append_1 rfl _ _ rfl w.heap.size _ _ rfl hown2 w3.heap.size 1 y rfl hc2 hrl hbz ?_; intro v1 w4 hown3 hgrow3))
      go_roundw
      case rel => exact ⟨k + 1, by go_num, by omega, by rw [HTK.out]; exact hown3, ((hB.trans (hb3.mono hB.size)).alloc hsz3 _).grown hgrow3 hbz (fun q e => (hown2.lt q e).1)⟩
      case measure => simp [intOf]; omega
    · obtain rfl : k = Ls.length := by omega
      have hown' : OwnU wr w.heap.size u9 fps := by rw [show fps = fps.take Ls.length by rw [List.take_of_length_le (by have := HFL.out; omega)]]; exact hown
      clear hown c30
      go_wp2
      go_loopw [54] (fun vn wo => ∃ n : Nat, vn = I n ∧ n ≤ Ls.length ∧ NoColl Ls fps n ∧ OwnU wo w.heap.size u9 fps ∧ Below w.heap.size w wo) (fun vn _ => Ls.length - (intOf vn).toNat)
      case atStart => exact ⟨0, rfl, Nat.zero_le _, (fun b hb => absurd hb (by omega)), hown', hB⟩
      case round =>
        clear hB hown'
        obtain ⟨n, rfl, hn, hno, hown, hB⟩ := hrel
        have HNO := Lib.hid hno
        clear hno
        by_cases hnl : n < Ls.length
        · have hin : (n : Int) < (Ls.length : Int) := by omega
          go_wp2
          go_loopw [58] (fun vm wi => ∃ m : Nat, vm = I m ∧ m ≤ n ∧ (∀ q, q < m → fps.getD q 0 = fps.getD n 0 → Ls.getD q [] = Ls.getD n []) ∧ OwnU wi w.heap.size u9 fps ∧ Below w.heap.size w wi) (fun vm _ => n - (intOf vm).toNat)
          case atStart => exact ⟨0, rfl, Nat.zero_le _, (fun q hq => absurd hq (by omega)), hown, hB⟩
          case round =>
            clear hB hown
            obtain ⟨m, rfl, hm, hnm, hown, hB⟩ := hrel
            have HNM := Lib.hid hnm
            clear hnm
            by_cases hmn : m < n
            · have hin2 : (m : Int) < (n : Int) := by omega
              have hml : m < Ls.length := by omega
              have hnil : fps ≠ [] := fun e => by have := HFL.out; rw [e] at this; simp at this; omega
              obtain ⟨g, fc, hu9⟩ := hown.form hnil
              rw [HFL.out] at hu9
              have fcell : ∀ q, q < Ls.length → wr.cell? ⟨g, q, none⟩ = some (U (fps.getD q 0)) := fun q hq => by
                have h1 := World.ownsRow.cells hown (g := g) (by rw [hu9]; rfl) q (U (fps.getD q 0)) (by
                  have : q < fps.length := by rw [HFL.out]; exact hq
                  simp [U64, this])
                rwa [Addr.add_lit, Nat.zero_add] at h1
              obtain ⟨b, off, rfl, hcs⟩ : ∃ b off, a = some ⟨b, off, none⟩ ∧ ∀ i, i < Ls.length → ∃ x c, wr.cell? ⟨b, off + i, none⟩ = some (.slice x (Ls.getD i []).length c) ∧ BytesAt wr x (Ls.getD i []) := by
                rcases HL.out.below hB with h | h
                · rw [h] at hml; simp at hml
                · exact h
              obtain ⟨xm, cm, hcm, hbm⟩ := hcs m hml
              obtain ⟨xn, cn, hcn, hbn⟩ := hcs n hnl
              have fm := fcell m hml
              have fn := fcell n hnl
              have lm := HLEN.out m hml
              have ln := HLEN.out n hnl
              have heq := fun (bb : Bool) (hb : decide (Ls.getD m [] = Ls.getD n []) = bb) nd => by
                have := equal8_calls xm xn cm cn (Ls.getD m []) (Ls.getD n []) (wr.drewN nd) (hbm.sl.drew nd) (hbn.sl.drew nd) (by omega) (by omega)
                rw [hb] at this
                exact this
              have HNX := fun (h : fps.getD m 0 = fps.getD n 0 → Ls.getD m [] = Ls.getD n []) => Lib.hid (show ∀ q, q < m + 1 → fps.getD q 0 = fps.getD n 0 → Ls.getD q [] = Ls.getD n [] from fun q hq e => by
                rcases Nat.lt_or_ge q m with h1 | h1
                · exact HNM.out q h1 e
                · obtain rfl : q = m := by omega
                  exact h e)
              have HERE := fun h1 h2 => Lib.hid (HS.out.here hnl hmn HNO.out HNM.out h1 h2)
              clear hcs fcell
              generalize hLm : (Ls.getD m []).length = lm' at *
              generalize hLn : (Ls.getD n []).length = ln' at *
              obtain ⟨y, hy⟩ : ∃ y, fps.getD m 0 = y := ⟨_, rfl⟩
              obtain ⟨z, hz⟩ : ∃ z, fps.getD n 0 = z := ⟨_, rfl⟩
              rw [hy] at fm
              rw [hz] at fn
              by_cases hyz : y = z
              · have ht : ((y : Int) == (z : Int)) = true := beq_true (by rw [hyz])
                by_cases hLL : Ls.getD m [] = Ls.getD n []
                · have hq := heq true (decide_eq_true hLL)
                  replace HNX := HNX (fun _ => hLL)
                  clear heq HERE hLL hyz hy hz hLm hLn lm ln hbm hbn hnil
                  rw [hu9] at hown ⊢
                  go_wp2
                  go_quiet (first | (go_at_call 32; exact Calls.quiet_of (hq _)))
                  go_wp2
                  go_roundw
                  case rel => exact ⟨m + 1, by go_num, by omega, HNX.out, hown.kept (grownBy_drewN _ _) (.inr (by simp [Value.ownBlock])), below_drewN hB _⟩
                  case measure => simp [intOf]; omega
                · have hq := heq false (decide_eq_false hLL)
                  have hr := (HERE (by rw [hy, hz, hyz]) hLL).out
                  obtain ⟨rfl, rfl, rfl⟩ : i0 = m ∧ k0 = n ∧ b0 = true := by
                    have h1 := (Prod.mk.inj hr).1
                    have h2 := (Prod.mk.inj hr).2
                    exact ⟨h1, (Prod.mk.inj h2).1, (Prod.mk.inj h2).2⟩
                  clear heq HERE HNX hr hLL hyz hy hz hLm hLn lm ln hbm hbn hnil
                  rw [hu9] at hown ⊢
                  go_wp2
                  go_quiet (first | (go_at_call 32; exact Calls.quiet_of (hq _)))
                  go_wp2
                  go_ret
                  exact ⟨by simp, below_drewN hB _⟩
              · have ht : ((y : Int) == (z : Int)) = false := beq_false (by omega)
                replace HNX := HNX (fun e => absurd (hy.symm.trans (e.trans hz)) hyz)
                clear heq HERE hyz hy hz hLm hLn lm ln hbm hbn hnil
                rw [hu9] at hown ⊢
                go_wp2
                go_quiet (fail)
                go_wp2
                go_roundw
                case rel => exact ⟨m + 1, by go_num, by omega, HNX.out, hown.kept (grownBy_drewN _ _) (.inr (by simp [Value.ownBlock])), below_drewN hB _⟩
                case measure => simp [intOf]; omega
            · obtain rfl : m = n := by omega
              have HNS := Lib.hid (HNO.out.succ HNM.out)
              have hin2 : ¬ (m : Int) < (m : Int) := by omega
              go_wp2
              go_roundw
              case rel => exact ⟨m + 1, by go_num, by omega, HNS.out, hown, hB⟩
              case measure => simp [intOf]; omega
        · obtain rfl : n = Ls.length := by omega
          have hnw := HS.out.nowhere HNO.out
          obtain ⟨hi0, hk0, rfl⟩ : i0 = 0 ∧ k0 = 0 ∧ b0 = false := by
            have h1 := (Prod.mk.inj hnw).1
            have h2 := (Prod.mk.inj hnw).2
            exact ⟨h1, (Prod.mk.inj h2).1, (Prod.mk.inj h2).2⟩
          have hz1 : ((i0 : Int) == 0) = true := by simp [hi0]
          have hz2 : ((k0 : Int) == 0) = true := by simp [hk0]
          clear hnw hi0 hk0
          go_wp2
          go_ret
          exact ⟨rfl, hB⟩
end Go.Proofs.Ytjgfcnhnlaobcaa
