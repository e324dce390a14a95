/- Walk of the tenth law: the fingerprints of parts lead to that of the whole. -/
import Derived.Test.YtjgfcnhnlaobcaaRow8
import Derived.Test.YtjgfcnhnlaobcaaWj
namespace Go.Proofs.Ytjgfcnhnlaobcaa
open Go.RowKit

theorem elem35 : Try.prog.elem 35 = 5 := by kernel_rfl
theorem h35e : Try.prog.underlying 35 = some (.slice (Try.prog.elem 35)) := by rw [elem35]; exact Try.underlying35
theorem rem_nat (c : Int) (n : Nat) (hn : n ≤ 2000) : ∃ k : Nat, k ≤ n ∧ wrap64 ((IntKind.u64.wrap c).tmod ((n : Int) + 1)) = (k : Int) := by
  have h1 : 0 ≤ IntKind.u64.wrap c := by rw [IntKind.wrap_u64]; omega
  have h2 := Int.emod_nonneg (IntKind.u64.wrap c) (show (n : Int) + 1 ≠ 0 by omega)
  have h3 := Int.emod_lt_of_pos (IntKind.u64.wrap c) (show 0 < (n : Int) + 1 by omega)
  rw [Int.tmod_eq_emod_of_nonneg h1]
  refine ⟨((IntKind.u64.wrap c) % ((n : Int) + 1)).toNat, by omega, ?_⟩
  rw [IntWalk.wrap64_in _ (by omega)]; omega
theorem rem_lt (c : Int) (n : Nat) (hn : n ≤ 2000) (h0 : 0 < n) : ∃ k : Nat, k < n ∧ wrap64 ((IntKind.u64.wrap c).tmod (n : Int)) = (k : Int) := by
  obtain ⟨m, rfl⟩ : ∃ m, n = m + 1 := ⟨n - 1, by omega⟩
  obtain ⟨k, hk, h⟩ := rem_nat c m (by omega)
  exact ⟨k, by omega, by simpa using h⟩

theorem slice_from (a : Option Addr) (n c k : Nat) (hk : k ≤ n) (hn : n ≤ c) :
    ∃ ad, (∀ w, (Instr.slice 35 (.slice a n c) (some (.int .i64 (k : Int))) none none).run Try.prog w = .ok (.slice ad (n - k) (c - k)) w) ∧
      (∀ w l, BytesAt w a l → l.length = n → BytesAt w ad (l.drop k)) := by
  refine ⟨if c = k then a else a.map (·.add (k * 1)), fun w => ?_, fun w l h hl => ?_⟩
  · obtain ⟨i0, hi, _, hz1, _⟩ := info_parts Try.info5k
    have hs : (sizeOf 5).run Try.prog w = .ok 1 w := by simp [sizeOf, typeInfo, hi, hz1]
    rw [run_slice_l w 35 a n c h35e .i64 k (by omega) (by omega), elem35, hs]
    simp [sliced]
  · split
    · have : l.drop k = [] := List.drop_eq_nil_iff.2 (by omega)
      rw [this]; exact ⟨by simp, .inl rfl⟩
    · by_cases h0 : l = []
      · subst h0; exact ⟨by simp, .inl (by simp)⟩
      · rcases h.2 with h1 | ⟨b, off, rfl, hc⟩
        · exact absurd h1 h0
        · have e : Option.map (fun x : Addr => x.add (k * 1)) (some ⟨b, off, none⟩) = some ⟨b, off + k, none⟩ := by
            rw [Option.map_some, Nat.mul_one, Addr.add_lit]
          rw [e]
          exact BytesAt.drop ⟨h.1, .inr ⟨b, off, rfl, hc⟩⟩ k

set_option maxRecDepth 100000 in
set_option maxHeartbeats 1600000 in
theorem joined_walk (p c : Nat) (a : Option Addr) (l : List Nat) (cut at_ : Int) (new : Nat) (hp : p < 2 ^ 64) (hnw : new < 256) (w : World) (hl : BytesAt w a l) (hz : a = none → l = []) (hc : l.length ≤ c) (hx : l.length < 2 ^ 60) :
    Calls Try.prog 12 #[U p, .slice a l.length c, I cut, I at_, .int .u8 new] w fun e w' => e = .returned (.bool true) ∧ Below w.heap.size w w' := by
  have hB : Below w.heap.size w w := Below.refl _ _
  obtain ⟨n, hn⟩ : ∃ n, min l.length 2000 = n := ⟨_, rfl⟩
  have hmin : ∀ w, (Builtin.min_ #[3, 3] 3 #[.int .i64 (l.length : Int), .int .i64 2000]).run Try.prog w = .ok (.int .i64 (n : Int)) w := fun w => by
    rw [run_min_int2, show (if (2000 : Int) < (l.length : Int) then (2000 : Int) else (l.length : Int)) = (n : Int) by split <;> omega]
  have hn1 : n ≤ l.length := by omega
  have hn2 : n ≤ 2000 := by omega
  have hnc : (n : Int) ≤ (c : Int) := by omega
  have hn0 : 0 ≤ (n : Int) := by omega
  obtain ⟨k, hk, hke⟩ := rem_nat cut n hn2
  have hl' := hl.take n
  have el : (l.take n).length = n := by simp; omega
  have hz' : a = none → l.take n = [] := fun h => by rw [hz h]; simp
  generalize l.take n = b at hl' el hz'
  clear hl hn hx hz
  have hN : n < 2 ^ 60 := by omega
  have c1 := fun x (hb : Below w.heap.size w x) => Of_n p c n a b hp x (hl'.below' hb) el hN
  by_cases h5 : Gf2.len p < 5
  · rw [tExtend_bad h5] at c1
    clear h5
    go_enter Try.func12, Try.ntmps12
    go_wp2_with (first
      | (go_at_call 14; refine (sane_calls _).mono ?_; rintro e w1 ⟨rfl, hb⟩; replace hB := hB.trans (hb.mono hB.size); clear hb)
      | (go_at_call 30; refine (c1 _ hB).mono ?_; clear c1; rintro e w1 ⟨rfl, hb⟩; replace hB := hB.trans (hb.mono hB.size); clear hb))
    go_ret
    exact ⟨rfl, hB⟩
  have hp5 : 5 ≤ Gf2.len p := by omega
  have hp2 : 2 ≤ Gf2.len p := by omega
  have hp0 : p ≠ 0 := fun e => by rw [e, Gf2.len_zero] at hp5; omega
  obtain ⟨ad, hsl, had⟩ := slice_from a n c k hk (by omega)
  have e1 : (b.take k).length = k := by simp; omega
  have e2 : (b.drop k).length = n - k := by simp; omega
  have t1 : ∀ x ∈ b.take k, x < 256 := fun x hx => hl'.1 x (List.mem_of_mem_take hx)
  have t2 : ∀ x ∈ b.drop k, x < 256 := fun x hx => hl'.1 x (List.mem_of_mem_drop hx)
  have hcat : b.take k ++ b.drop k = b := List.take_append_drop k b
  have c2 := fun x (hb : Below w.heap.size w x) => Of_n p c k a (b.take k) hp x ((hl'.take k).below' hb) e1 (by omega)
  have c3 := fun x (hb : Below w.heap.size w x) => Of_n p (c - k) (n - k) ad (b.drop k) hp x ((had w b hl' el).below' hb) e2 (by omega)
  have l1 : Gf2.len (Gf2.onBytes p 1 (b.take k)) < Gf2.len p := Gf2.onBytes_lt hp0 _ 1 (Gf2.one_lt hp2)
  have l2 : Gf2.len (Gf2.onBytes p 1 (b.drop k)) < Gf2.len p := Gf2.onBytes_lt hp0 _ 1 (Gf2.one_lt hp2)
  have l0 : Gf2.len (Gf2.onBytes p 1 b) < Gf2.len p := Gf2.onBytes_lt hp0 _ 1 (Gf2.one_lt hp2)
  have h64 : ∀ q, Gf2.len q < Gf2.len p → q < 2 ^ 64 := fun q hq => lt_of_len (by have := len_le_64 hp; omega)
  have c4 := fun x (hb : Below w.heap.size w x) => Extend_n p (Gf2.onBytes p 1 (b.take k)) (c - k) (n - k) ad (b.drop k) hp (h64 _ l1) x ((had w b hl' el).below' hb) e2 (by omega)
  have c5 := Join_calls p (Gf2.onBytes p 1 (b.take k)) (Gf2.onBytes p 1 (b.drop k)) ((n : Int) - (k : Int)) hp (h64 _ l1) (h64 _ l2)
  rw [tExtend_one hp5 (by omega)] at c1 c2 c3
  rw [show tExtend p (Gf2.onBytes p 1 (b.take k)) (b.drop k) = (Gf2.onBytes p 1 b, 0) by rw [tExtend, if_neg h5, if_neg (by omega), if_neg (by omega), ← Gf2.onBytes_append, hcat]] at c4
  rw [show tJoin p (Gf2.onBytes p 1 (b.take k)) (Gf2.onBytes p 1 (b.drop k)) ((n : Int) - (k : Int)) = (Gf2.onBytes p 1 b, 0) by
    have h8 : (8 * ((n : Int) - (k : Int))).toNat = 8 * (b.drop k).length := by omega
    rw [tJoin, if_neg h5, if_neg (by omega), h8, Gf2.fp_join hp2 _ _ t1 t2, hcat]] at c5
  have hkc : (k : Int) ≤ (c : Int) := by omega
  have hkn : (k : Int) ≤ (n : Int) := by omega
  have hk0 : 0 ≤ (k : Int) := by omega
  generalize Gf2.onBytes p 1 (b.take k) = f1 at *
  generalize Gf2.onBytes p 1 (b.drop k) = f2 at *
  dsimp only at c1 c2 c3 c4 c5
  clear e1 e2 t1 t2 hcat had l1 l2
  by_cases hn00 : n = 0
  · have hq0 : ((n : Int) == 0) = true := by simp [hn00]
    clear hn00 l0 h64 hp0 hp2 hp5 h5 hl' el hk
    go_enter Try.func12, Try.ntmps12
    go_wp2_with (first
      | (go_at_call 14; refine (sane_calls _).mono ?_; rintro e w1 ⟨rfl, hb⟩; replace hB := hB.trans (hb.mono hB.size); clear hb)
      | (go_at_call 30; refine (c1 _ hB).mono ?_; clear c1; rintro e w1 ⟨rfl, hb⟩; replace hB := hB.trans (hb.mono hB.size); clear hb)
      | (go_at_call 30; refine (c2 _ hB).mono ?_; clear c2; rintro e w1 ⟨rfl, hb⟩; replace hB := hB.trans (hb.mono hB.size); clear hb)
      | (go_at_call 30; refine (c3 _ hB).mono ?_; clear c3; rintro e w1 ⟨rfl, hb⟩; replace hB := hB.trans (hb.mono hB.size); clear hb)
      | (go_at_call 46; refine (c4 _ hB).mono ?_; clear c4; rintro e w1 ⟨rfl, hb⟩; replace hB := hB.trans (hb.mono hB.size); clear hb)
      | (go_at_call 48; refine (c5 _).mono ?_; clear c5; rintro e w1 ⟨rfl, hb⟩; replace hB := hB.trans (hb.mono hB.size); clear hb))
    go_ret
    exact ⟨rfl, hB⟩
  have hq0 : ((n : Int) == 0) = false := beq_false (by omega)
  have hn1' : 0 < n := by omega
  obtain ⟨i, hi, hie⟩ := rem_lt at_ n hn2 hn1'
  obtain ⟨x, hx, hx256, b1, o1, rfl, _⟩ := hl'.at i (by omega)
  have c33 := fun y (hb : Below w.heap.size w y) => by
    have := clone8_calls (some ⟨b1, o1, none⟩) c b y ((hl'.below' hb).sl) (by omega) hz'
    rw [el] at this
    exact this
  have c50 := Change_calls p (Gf2.onBytes p 1 b) n i x new hp (h64 _ l0) hx256 hnw
  have hch := Gf2.fp_change hp2 b i new (by omega) hl'.1 hnw
  rw [el, hx] at hch
  rw [show tChange p (Gf2.onBytes p 1 b) n i x new = (Gf2.onBytes p 1 (b.set i new), 0) by
    have h8 : (8 * ((n : Int) - 1 - (i : Int))).toNat = 8 * (n - 1 - i) := by omega
    rw [tChange, if_neg h5, if_neg (by omega), h8, hch]] at c50
  have es : (b.set i new).length = n := by rw [List.length_set, el]
  have s256 : ∀ y ∈ b.set i new, y < 256 := fun y hy => (List.mem_or_eq_of_mem_set hy).elim (hl'.1 y) (fun e => by omega)
  have c34 := fun g cap y (hs : SlAt .u8 y (some ⟨g, 0, none⟩) (b.set i new)) => Of_n p cap n (some ⟨g, 0, none⟩) (b.set i new) hp y ⟨s256, hs⟩ es hN
  rw [tExtend_one hp5 (by omega)] at c34
  have hload := fun y (hb : Below w.heap.size w y) => (hl'.below' hb).at i (by omega)
  have hload' : ∀ y, Below w.heap.size w y → y.cell? ⟨b1, o1 + i, none⟩ = some (.int .u8 x) := fun y hb => by
    obtain ⟨x', h1, _, b', o', h2, h3⟩ := hload y hb
    cases h2
    rw [h3, ← h1, hx]
  have hset : ∀ B g cap (y : World), y.ownsRow B 5 1 (.slice (some ⟨g, 0, none⟩) n cap) n ((b.map fun x : Nat => Value.int .u8 x)) → SlAt .u8 (y.setCell ⟨g, i, none⟩ (.int .u8 new)) (some ⟨g, 0, none⟩) (b.set i new) := fun B g cap y hown => by
    have h1 := (hown.stored i (.int .u8 new)).1
    rw [show (b.map fun x : Nat => Value.int .u8 x) = B8 b from rfl, B8_set] at h1
    obtain ⟨a2, c2, h2, h3, _⟩ := SlAt.of_owns (k := .u8) h1
    cases h2
    exact h3
  have hget : (b.map fun x : Nat => Value.int .u8 x)[i]? = some (.int .u8 x) := by
    have h1 : b[i]? = some x := by
      have : i < b.length := by omega
      simpa [this] using hx
    rw [List.getElem?_map, h1]; rfl
  have hii : (i : Int) < (n : Int) := by omega
  have hi0 : 0 ≤ (i : Int) := by omega
  generalize Gf2.onBytes p 1 (b.set i new) = f3 at *
  generalize Gf2.onBytes p 1 b = f0 at *
  dsimp only at c50 c34
  clear hch es s256 hx l0 h64 hp0 hp2 hp5 h5 hl' el hk hload hn1 hn00 hx256 hz'
  go_enter Try.func12, Try.ntmps12
  go_wp2_with (first
    | (go_at_call 14; refine (sane_calls _).mono ?_; rintro e w1 ⟨rfl, hb⟩; replace hB := hB.trans (hb.mono hB.size); clear hb)
    | (go_at_call 30; refine (c1 _ hB).mono ?_; clear c1; rintro e w1 ⟨rfl, hb⟩; replace hB := hB.trans (hb.mono hB.size); clear hb)
    | (go_at_call 30; refine (c2 _ hB).mono ?_; clear c2; rintro e w1 ⟨rfl, hb⟩; replace hB := hB.trans (hb.mono hB.size); clear hb)
    | (go_at_call 30; refine (c3 _ hB).mono ?_; clear c3; rintro e w1 ⟨rfl, hb⟩; replace hB := hB.trans (hb.mono hB.size); clear hb)
    | (go_at_call 46; refine (c4 _ hB).mono ?_; clear c4; rintro e w1 ⟨rfl, hb⟩; replace hB := hB.trans (hb.mono hB.size); clear hb)
    | (go_at_call 48; refine (c5 _).mono ?_; clear c5; rintro e w1 ⟨rfl, hb⟩; replace hB := hB.trans (hb.mono hB.size); clear hb)
    | (go_at_call 33; refine (c33 _ hB).mono ?_; clear c33; rintro e w5 ⟨v', rfl, hown, hb⟩; have hB5 := hB.trans (hb.mono hB.size); obtain ⟨g, cap, rfl, hg⟩ := owns_pos hown hn1'; have hcell := (hown.cellAt i (Nat.lt_of_lt_of_eq hi (Nat.mul_one n).symm)).trans hget; have hfr := hown.frozenAt i; have hs := hset _ g cap _ hown; have hBs := hB5.setCell (p := ⟨g, i, none⟩) (Nat.le_trans hB.size hg) (.int .u8 (new : Int)); have hld := hload' _ hBs; clear hB hb hown hg hB5 hload' hset hget)
    | (go_at_call 50; refine (c50 _).mono ?_; clear c50; rintro e w6 ⟨rfl, hb⟩; replace hs := hs.below' hb; replace hBs := hBs.trans (hb.mono hBs.size); clear hb)
    | (go_at_call 30; refine (c34 _ _ _ hs).mono ?_; clear c34; rintro e w7 ⟨rfl, hb⟩; replace hBs := hBs.trans (hb.mono hBs.size); clear hb))
  go_ret
  exact ⟨by simp, hBs⟩
end Go.Proofs.Ytjgfcnhnlaobcaa
