/- Walks: bytes behind a fingerprint. -/
import Derived.Test.YtjgfcnhnlaobcaaWf
import Derived.Test.YtjgfcnhnlaobcaaPoly5
import Derived.Deep.QuietTactic
import Derived.BigQuiet
namespace Go.Proofs.Ytjgfcnhnlaobcaa
open Go.RowKit

theorem wraps_u8b (n : Int) (h₀ : 0 ≤ n) (h₁ : n < 2 ^ 8) : IntKind.u8.wrap n = n := IntWalk.u8_in n (by omega)
theorem one_u8 {a : Nat} (ha : a < 256) : bits .and .u8 (a : Int) 1 = ((a % 2 : Nat) : Int) := by
  have h := (bits_nat .u8 8 (by decide) wraps_u8b a 1 (by simpa using ha) (by decide)).1
  rw [Nat.and_one_is_mod] at h
  exact h

set_option maxHeartbeats 800000 in
theorem bits_calls (p d f b B k : Nat) (T : Nat → Nat) (hd : Gf2.len p = d + 1) (hd1 : 1 ≤ d) (hp : p < 2 ^ 64) (hf : Gf2.len f ≤ d) (hb : b < 256) (w : World) (hM : Mach B p d k T w) :
    Calls Try.prog 93 #[.pointer (some ⟨B, 0, none⟩), U f, .int .u8 b] w fun e w' => e = .returned (U (Gf2.onByte p f b)) ∧ w = w' := by
  have hd63 : d ≤ 63 := by have := len_le_64 hp; omega
  have hp0 : p ≠ 0 := fun e => by rw [e, Gf2.len_zero] at hd; omega
  have Hd := Lib.hid hd
  clear hd
  have c0 := hM.cell0
  have c1 := hM.cell1
  go_enter Try.func93, Try.ntmps93
  go_wp2
  go_loop [1, 7] (fun vf vi => ∃ i g : Nat, vi = I ((i : Int) - 1) ∧ vf = U g ∧ i ≤ 8 ∧ Gf2.len g ≤ d ∧ g = Gf2.pmod (2 ^ (8 - i) * f + b / 2 ^ i) p) (fun _ vi => (intOf vi + 1).toNat)
  case atStart => exact ⟨8, f, rfl, rfl, by omega, hf, by
    rw [Nat.div_eq_of_lt (show b < 2 ^ 8 by omega), Nat.sub_self, Nat.pow_zero, Nat.one_mul, Nat.add_zero, Gf2.mod_of_lt (by have := Hd.out; omega)]⟩
  case round =>
    obtain ⟨i, g, rfl, rfl, hi, hg, hge⟩ := hrel
    by_cases h0 : i = 0
    · subst h0
      rw [Nat.pow_zero, Nat.div_one] at hge
      have HG := Lib.hid (show g = Gf2.onByte p f b from hge)
      clear hge
      go_wp2
      go_ret
      exact ⟨ret_u (by rw [HG.out]), rfl⟩
    · obtain ⟨j, rfl⟩ : ∃ j, i = j + 1 := ⟨i - 1, by omega⟩
      have hst := Gf2.bit_step (p := p) (f := f) (b := b) (j := j) hp0 (by omega)
      rw [← hge] at hst
      have Hi := Lib.hid (show ((j + 1 : Nat) : Int) - 1 = (j : Int) by omega)
      clear hge
      have hbj : b / 2 ^ j < 256 := Nat.lt_of_le_of_lt (Nat.div_le_self _ _) hb
      have hg64 : 2 * g < 2 ^ 64 := two_mul_lt (by omega)
      have hc : b / 2 ^ j % 2 ≤ 1 := by omega
      have hG : 2 * g + b / 2 ^ j % 2 < 2 ^ 64 := by omega
      have HG := Lib.hid (show bits .or .u64 ((g : Int) * 2) (IntKind.u64.wrap (bits .and .u8 ((b : Int) / 2 ^ j) 1)) = ((2 * g + b / 2 ^ j % 2 : Nat) : Int) by
        rw [shr_cast, one_u8 hbj, wraps_u64 _ (by omega) (by omega), show (g : Int) * 2 = ((2 * g : Nat) : Int) by omega, or_u64 hg64 (by omega), Gf2.or_bit hc])
      have hbm := Gf2.bit_mod (c := b / 2 ^ j % 2) Hd.out hg hc hd1
      rw [hst] at hbm
      have hlen := Gf2.len_mod_lt (2 ^ (8 - j) * f + b / 2 ^ j) hp0
      have HB := Lib.hid hbm
      have HL := Lib.hid hlen
      clear hst hbm hlen
      rw [Hi.out]
      go_wp2
      · have ht := ‹(bits BinOp.and IntKind.u64 (bits BinOp.or IntKind.u64 ((g : Int) * 2) (IntKind.u64.wrap (bits BinOp.and IntKind.u8 ((b : Int) / 2 ^ j) 1)) / 2 ^ d) 1 == 1) = true›
        rw [HG.out, shr_cast, bit_test (shr_lt hG)] at ht
        have hbm := HB.out
        rw [if_pos (by simpa using ht)] at hbm
        refine ⟨⟨j, _, rfl, u_eq ?_, by omega, by have := HL.out; have := Hd.out; omega, rfl⟩, by simp [intOf]⟩
        rw [HG.out, xor_u64 hG hp, hbm]
      · have ht := ‹(bits BinOp.and IntKind.u64 (bits BinOp.or IntKind.u64 ((g : Int) * 2) (IntKind.u64.wrap (bits BinOp.and IntKind.u8 ((b : Int) / 2 ^ j) 1)) / 2 ^ d) 1 == 1) = false›
        rw [HG.out, shr_cast, bit_test (shr_lt hG)] at ht
        have hbm := HB.out
        rw [if_neg (by simpa using ht)] at hbm
        refine ⟨⟨j, _, rfl, u_eq ?_, by omega, by have := HL.out; have := Hd.out; omega, rfl⟩, by simp [intOf]⟩
        rw [HG.out, hbm]

/-- Bytes in memory. -/
def BytesAt (w : World) (a : Option Addr) (l : List Nat) : Prop :=
  (∀ x ∈ l, x < 256) ∧ (l = [] ∨ ∃ b off, a = some ⟨b, off, none⟩ ∧ ∀ i, i < l.length → w.cell? ⟨b, off + i, none⟩ = some (.int .u8 (l.getD i 0)))

theorem BytesAt.drew {w : World} {a : Option Addr} {l : List Nat} (h : BytesAt w a l) (n : Nat) : BytesAt (w.drewN n) a l := h

theorem take_getD {l : List Nat} {k x : Nat} (hk : k < l.length) (hx : l.getD k 0 = x) : l.take (k + 1) = l.take k ++ [x] := by
  rw [List.take_succ_eq_append_getElem hk]
  have : l[k] = x := by simpa [hk] using hx
  rw [this]
theorem getD_mem {l : List Nat} {k x : Nat} (hk : k < l.length) (hx : l.getD k 0 = x) : x ∈ l := by
  have : l[k] = x := by simpa [hk] using hx
  rw [← this]; exact List.getElem_mem _

theorem mask_u64 {g s : Nat} (hg : g < 2 ^ 64) (hs : s < 64) : bits .and .u64 (g : Int) (IntKind.u64.wrap (IntKind.u64.wrap ((2 : Int) ^ s) - 1)) = ((g % 2 ^ s : Nat) : Int) := by
  have h1 : IntKind.u64.wrap ((2 : Int) ^ s) = ((2 ^ s : Nat) : Int) := by
    have := shl_u64 (a := 1) (n := s) (by have := pow_le_64 hs; omega); simpa using this
  have hp := Nat.two_pow_pos s
  have hlt := pow_le_64 hs
  have h2 : IntKind.u64.wrap (((2 ^ s : Nat) : Int) - 1) = ((2 ^ s - 1 : Nat) : Int) := by
    have e : ((2 ^ s : Nat) : Int) - 1 = ((2 ^ s - 1 : Nat) : Int) := by generalize 2 ^ s = t at *; omega
    rw [e]; exact wraps_u64 _ (by omega) (by generalize 2 ^ s = t at *; omega)
  rw [h1, h2, and_u64 hg (by generalize 2 ^ s = t at *; omega), Nat.and_two_pow_sub_one_eq_mod]
theorem table_expr {p g s x : Nat} (hp : Gf2.len p = s + 9) (hp' : p < 2 ^ 64) (hg : Gf2.len g ≤ s + 8) (hx : x < 256) :
    bits .xor .u64 (bits .or .u64 (IntKind.u64.wrap (bits .and .u64 (g : Int) (IntKind.u64.wrap (IntKind.u64.wrap ((2 : Int) ^ s) - 1)) * 256)) (x : Int)) ((tab p (g / 2 ^ s) : Nat) : Int) = ((Gf2.onByte p g x : Nat) : Int) := by
  have hlp := len_le_64 hp'
  have hp0 : p ≠ 0 := fun e => by rw [e, Gf2.len_zero] at hp; omega
  have hg64 : g < 2 ^ 64 := lt_of_len (by omega)
  have hlow : 2 ^ 8 * (g % 2 ^ s) < 2 ^ 64 := by
    have h1 : g % 2 ^ s < 2 ^ s := Nat.mod_lt _ (Nat.two_pow_pos s)
    have h2 : 2 ^ s ≤ 2 ^ 55 := Nat.pow_le_pow_right (by decide) (by omega)
    generalize 2 ^ s = t at *; omega
  have hsum : 2 ^ 8 * (g % 2 ^ s) + x < 2 ^ 64 := by
    have h1 : g % 2 ^ s < 2 ^ s := Nat.mod_lt _ (Nat.two_pow_pos s)
    have h2 : 2 ^ s ≤ 2 ^ 55 := Nat.pow_le_pow_right (by decide) (by omega)
    generalize 2 ^ s = t at *; omega
  have ht : tab p (g / 2 ^ s) < 2 ^ 64 := mm_lt64 (by omega) hp' _ _
  rw [mask_u64 hg64 (by omega), show ((g % 2 ^ s : Nat) : Int) * 256 = ((2 ^ 8 * (g % 2 ^ s) : Nat) : Int) by generalize g % 2 ^ s = t; omega,
    wraps_u64 _ (by omega) (by omega), or_u64 hlow (by omega), ← Nat.two_pow_add_eq_or_of_lt (show x < 2 ^ 8 by omega), xor_u64 hsum ht, Gf2.table_step hp hx, tab, show Gf2.len p - 1 = s + 8 by omega]

set_option maxRecDepth 100000 in
set_option maxHeartbeats 1600000 in
theorem on_calls (p d f B cap : Nat) (a : Option Addr) (l : List Nat) (hd : Gf2.len p = d + 1) (hd4 : 4 ≤ d) (hp : p < 2 ^ 64) (hf : Gf2.len f ≤ d) (w : World) (hM : Mach B p d 256 (tab p) w) (hl : BytesAt w a l) (hn : l.length < 2 ^ 60) :
    Calls Try.prog 75 #[.pointer (some ⟨B, 0, none⟩), U f, .slice a l.length cap] w fun e w' => e = .returned (U (Gf2.onBytes p f l)) ∧ ∃ n, w' = w.drewN n := by
  obtain ⟨hsm, hl⟩ := hl
  have hd63 : d ≤ 63 := by have := len_le_64 hp; omega
  have hp0 : p ≠ 0 := fun e => by rw [e, Gf2.len_zero] at hd; omega
  have Hd := Lib.hid hd
  clear hd
  have c0 := hM.cell0
  have c1 := hM.cell1
  by_cases h0 : l = []
  · subst h0
    go_enter Try.func75, Try.ntmps75
    go_wp2
    refine wp_loop_rounds 1 ?_
    rw [rounds_succ]
    go_wp2
    go_ret
    exact ⟨rfl, 0, rfl⟩
  · obtain ⟨b, off, rfl, hcell⟩ := hl.resolve_left h0
    go_enter Try.func75, Try.ntmps75
    go_wp2
    go_loopw [1, 8, 9, 12] (fun vf _ _ vi wr => ∃ k g n : Nat, vi = I k ∧ vf = U g ∧ wr = w.drewN n ∧ k ≤ l.length ∧ Gf2.len g ≤ d ∧ g = Gf2.onBytes p f (l.take k)) (fun _ _ _ vi _ => l.length - (intOf vi).toNat)
    case atStart => exact ⟨0, f, 0, rfl, rfl, rfl, Nat.zero_le _, hf, rfl⟩
    case round =>
      obtain ⟨k, g, n, rfl, rfl, rfl, hk, hg, hge⟩ := hrel
      by_cases hlt : k < l.length
      · have hc := hcell k hlt
        obtain ⟨x, hxe⟩ : ∃ x, l.getD k 0 = x := ⟨_, rfl⟩
        rw [hxe] at hc
        have hx : x < 256 := hsm x (getD_mem hlt hxe)
        have ht := take_getD hlt hxe
        have HG := Lib.hid (show Gf2.onBytes p f (l.take (k + 1)) = Gf2.onByte p g x by rw [ht, Gf2.onBytes_snoc, hge])
        clear ht hge hxe hcell
        by_cases h8 : d < 8
        · go_wp2_with (go_at_call 93; refine (bits_calls p d g x B 256 (tab p) Hd.out (by omega) hp hg hx _ (by exact hM)).mono ?_; rintro e w1 ⟨rfl, rfl⟩)
          exact ⟨⟨k + 1, _, n, by go_num, rfl, rfl, hlt, by have := Gf2.onByte_lt hp0 g x; have := Hd.out; omega, HG.out.symm⟩, by simp [intOf]; omega⟩
        · obtain ⟨s, rfl⟩ : ∃ s, d = s + 8 := ⟨d - 8, by omega⟩
          have hE := table_expr (p := p) (g := g) (s := s) (x := x) Hd.out hp hg hx
          have hq256 : g / 2 ^ s < 256 := by
            have h1 := Gf2.len_le_iff.1 hg
            rw [Nat.pow_add] at h1
            exact Nat.div_lt_of_lt_mul h1
          have hct := hM.cellT hq256
          have hqe := shr_cast g s
          have hlo := Gf2.onByte_lt hp0 g x
          obtain ⟨q, hq⟩ : ∃ q, g / 2 ^ s = q := ⟨_, rfl⟩
          rw [hq] at hE hq256 hct hqe
          have hqi : (q : Int) < 256 := by omega
          have HE := Lib.hid hE
          clear hE hq
          go_wp2
          go_quiet (fail)
          go_wp2
          exact ⟨⟨k + 1, _, _, by go_num, u_eq HE.out, rfl, hlt, by have := Hd.out; omega, HG.out.symm⟩, by simp [intOf]; omega⟩
      · obtain rfl : k = l.length := by omega
        rw [List.take_length] at hge
        subst hge
        go_wp2
        go_ret
        exact ⟨rfl, _, rfl⟩
end Go.Proofs.Ytjgfcnhnlaobcaa
