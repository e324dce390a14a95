/- Walks: the factors of a polynomial. -/
import Derived.Test.YtjgfcnhnlaobcaaWx
namespace Go.Proofs.Ytjgfcnhnlaobcaa
open Go.RowKit

theorem tz_spec : ∀ (f p : Nat), p ≠ 0 → (tz f p).2 ≠ 0 ∧ (tz f p).2 ≤ p
  | 0, p, h => ⟨h, Nat.le_refl _⟩
  | f + 1, p, h => by
    rw [tz]
    split
    · rename_i he
      have := tz_spec f (p / 2) (by omega)
      exact ⟨this.1, by omega⟩
    · exact ⟨h, Nat.le_refl _⟩

theorem rootN_odd {a : Nat} (h : a % 2 = 1) : ∀ k, rootN (k + 1) a % 2 = 1
  | 0 => by simp [rootN, h]
  | k + 1 => by
    rw [rootN]
    have h1 := rootN_odd h k
    have h2 : (rootN (k + 1) a ||| 2 ^ (k + 1) * (a / 2 ^ (2 * (k + 1)) % 2)).testBit 0 = true := by
      rw [Nat.testBit_or, Nat.testBit_zero, h1]; rfl
    rwa [Nat.testBit_zero, decide_eq_true_eq] at h2
theorem slope_eq {q : Nat} (hq : q < 2 ^ 64) : bits .and .u64 (q : Int) 12297829382473034410 / 2 = (slope q : Int) := by
  have := and_u64 (b := 12297829382473034410) hq (by decide)
  rw [show ((12297829382473034410 : Nat) : Int) = 12297829382473034410 from rfl] at this
  rw [this, slope]; omega
theorem slope_lt {q : Nat} (hq : q < 2 ^ 64) : slope q < 2 ^ 64 := by
  have : q &&& 12297829382473034410 ≤ q := Nat.and_le_left
  unfold slope; omega
theorem div_facts {q c : Nat} (hq : q < 2 ^ 64) (hq0 : q ≠ 0) (hc : Gf2.Dvd c q) : c ≠ 0 ∧ Gf2.pdiv q c ≠ 0 ∧ Gf2.pdiv q c < 2 ^ 64 := by
  have hc0 : c ≠ 0 := fun e => by subst e; exact hq0 (Gf2.dvd_of_zero_left hc)
  have h1 := Gf2.div_add_mod q hc0
  rw [(Gf2.dvd_iff_mod hc0).1 hc, Nat.xor_zero] at h1
  have h2 : Gf2.pdiv q c ≠ 0 := fun e => by rw [e, Gf2.zero_mul] at h1; exact hq0 h1.symm
  refine ⟨hc0, h2, lt_of_len ?_⟩
  have h3 := Gf2.len_mul h2 hc0
  rw [h1] at h3
  have := Gf2.len_pos hc0
  have := len_le_64 hq
  omega
theorem fact2_some {out : List Nat} {a b : Option (List Nat)} {l : List Nat} (h : fact2 out a b = some l) : ∃ x s y t, a = some (x :: s) ∧ b = some (y :: t) ∧ l = out ++ (x :: s) ++ (y :: t) ∧ l.length ≤ 200 := by
  match a, b, h with
  | some (x :: s), some (y :: t), h =>
    have h' : (if (out ++ (x :: s) ++ (y :: t)).length ≤ 200 then some (out ++ (x :: s) ++ (y :: t)) else none) = some l := h
    by_cases hl : (out ++ (x :: s) ++ (y :: t)).length ≤ 200
    · rw [if_pos hl] at h'
      have e := Option.some.inj h'
      exact ⟨x, s, y, t, rfl, rfl, e.symm, by rw [← e]; exact hl⟩
    · rw [if_neg hl] at h'; cases h'
  | none, _, h => simp [fact2] at h
  | some [], _, h => simp [fact2] at h
  | some (_ :: _), none, h => simp [fact2] at h
  | some (_ :: _), some [], h => simp [fact2] at h

theorem own_ne {w w2 : World} {B b5 : Nat} {v v5 : Value} {l l5 : List Nat} (h : OwnU w B v l) (h5 : OwnU w2 b5 v5 l5) (hb : w.heap.size ≤ b5) : v5.ownBlock = none ∨ v5.ownBlock ≠ v.ownBlock := by
  cases h1 : v5.ownBlock with
  | none => exact .inl rfl
  | some k =>
    refine .inr fun e => ?_
    have h2 := (h.lt k e.symm).2
    have h3 := (h5.lt k h1).1
    omega

set_option maxRecDepth 100000 in
set_option maxHeartbeats 1600000 in
theorem factors_calls : ∀ (f p : Nat) (l : List Nat), p < 2 ^ 64 → p ≠ 0 → factF f p = some l → ∀ w : World,
    Calls Try.prog 78 #[U p] w fun e w' => ∃ v, e = .returned v ∧ OwnU w' w.heap.size v l ∧ Below w.heap.size w w' := by
  intro f
  induction f with
  | zero => intro p l _ _ h; simp [factF] at h
  | succ f ih =>
    intro p l hp hp0 hl w
    rw [factF] at hl
    obtain ⟨hq0, hqp⟩ := tz_spec 64 p hp0
    obtain ⟨z, hz⟩ : ∃ z, (tz 64 p).1 = z := ⟨_, rfl⟩
    obtain ⟨q, hq⟩ : ∃ q, (tz 64 p).2 = q := ⟨_, rfl⟩
    rw [hz, hq] at hl
    rw [hq] at hq0 hqp
    have HL := Lib.hid hl
    have HZ := Lib.hid hz
    have HQ := Lib.hid hq
    have IH := Lib.hid ih
    clear hl hz hq ih
    obtain ⟨B, hBe⟩ : ∃ B, w.heap.size = B := ⟨_, rfl⟩
    have hB0 : Below B w w := Below.refl _ _
    rw [hBe]
    go_enter Try.func78, Try.ntmps78
    go_wp2
    go_loopg [0, 3] 64 (fun g vp vo wr => ∃ (x c : Nat), vp = U x ∧ x < 2 ^ 64 ∧ x ≠ 0 ∧ x < 2 ^ g ∧ c ≤ 64 - g ∧ g ≤ 64 ∧ c + (tz g x).1 = z ∧ (tz g x).2 = q ∧ OwnU wr B vo (List.replicate c 2) ∧ Below B w wr)
    case atStart => exact ⟨p, 0, rfl, hp, hp0, hp, by omega, by omega, by rw [HZ.out]; omega, HQ.out, OwnU.nil _ _, hB0⟩
    case round =>
      obtain ⟨x, c, rfl, hx, hx0, hxg, hc, hg64, htz, htq, hown, hB⟩ := hrel
      have hone := one_u64 hx
      by_cases he : x % 2 = 0
      · have hte : (bits .and .u64 (x : Int) 1 == 0) = true := by rw [hone, he]; rfl
        cases gk with
        | zero => omega
        | succ g =>
          rw [tz, if_pos he] at htz htq
          have hown2 := hown.below ((Below.refl wr.heap.size wr).alloc (Nat.le_refl _) (.cells #[.int .u64 2] 22))
          have hc2 := cell_of_one (alloc_new wr (.cells #[.int .u64 2] 22))
          have hsz : B ≤ wr.heap.size := by have := hB.size; omega
          have hrl : (List.replicate c 2).length + 1 ≤ 2 ^ 40 := by simp; omega
          have hx2 : x / 2 ≠ 0 := by omega
          have hxg2 : x / 2 < 2 ^ g := by rw [Nat.pow_succ] at hxg; omega
          have hbz : B ≤ (wr.alloc (.cells #[.int .u64 2] 22)).heap.size := by have := lt_of_block (alloc_new wr (.cells #[.int .u64 2] 22)); omega
          have HX := Lib.hid hxg2
          clear hone he hxg hxg2
          go_wp2_with (at_builtin; refine wpList_append_1 rfl _ _ rfl B _ _ rfl hown2 wr.heap.size 1 2 rfl hc2 hrl hbz ?_; intro v1 w1 hown3 hgrow1)
          go_roundg g
          case measure => omega
          case rel =>
            refine ⟨x / 2, c + 1, u_eq (by simp), by omega, hx2, HX.out, by omega, by omega, by omega, htq, ?_, (hB.alloc hsz _).grown hgrow1 (by simp; omega) (fun k e => (hown.lt k e).1)⟩
            rw [List.replicate_succ']; exact hown3
      · have hte : (bits .and .u64 (x : Int) 1 == 0) = false := by rw [hone]; exact beq_false (by omega)
        have hzq : c = z ∧ x = q := by
          cases gk with
          | zero => exact ⟨htz, htq⟩
          | succ g => rw [tz, if_neg he] at htz htq; exact ⟨htz, htq⟩
        obtain ⟨rfl, rfl⟩ := hzq
        have hl := HL.out
        have hc64 : c ≤ 64 := by omega
        clear htz htq hone hxg HL hqp
        by_cases h1 : x = 1
        · subst h1
          rw [if_pos rfl] at hl
          have Hl := Lib.hid (Option.some.inj hl)
          clear hl he
          go_wp2
          go_ret
          refine ⟨_, rfl, ?_, hB⟩
          rw [← Hl.out]; exact hown
        have h1b : ((x : Int) == 1) = false := beq_false (by omega)
        rw [if_neg h1] at hl
        have hsl := slope_eq hx
        have hsl64 := slope_lt hx
        have hxl : 2 ≤ Gf2.len x := by
          have h2 : Gf2.len x ≠ 1 := fun e => h1 (Gf2.len_eq_one.1 e)
          have := Gf2.len_pos hx0
          omega
        obtain ⟨sl, hse⟩ : ∃ sl, slope x = sl := ⟨_, rfl⟩
        rw [hse] at hl hsl hsl64
        clear hse
        by_cases hs0 : sl = 0
        · subst hs0
          rw [if_pos rfl] at hl
          obtain ⟨y, t, y', t', ha, hb, hll, hlen⟩ := fact2_some hl
          obtain ⟨rfl, rfl⟩ : y = y' ∧ t = t' := by rw [ha] at hb; injection hb with hb; injection hb with e1 e2; exact ⟨e1, e2⟩
          have hodd := rootN_odd (show x % 2 = 1 by omega) 31
          have hr64 : rootN 32 x < 2 ^ 64 := Nat.lt_trans (rootN_lt x 32) (by decide)
          have hroot := root_calls x hx
          have hih := fun w => IH.out (rootN 32 x) (y :: t) hr64 (fun e => by rw [e] at hodd; cases hodd) ha w
          have hlen1 : (List.replicate c 2).length + (y :: t).length ≤ 2 ^ 40 := by rw [hll] at hlen; simp at hlen ⊢; omega
          have hlen2 : (List.replicate c 2 ++ (y :: t)).length + (y :: t).length ≤ 2 ^ 40 := by rw [hll] at hlen; simp at hlen ⊢; omega
          have hsz : B ≤ wr.heap.size := by have := hB.size; omega
          have Hll := Lib.hid hll
          clear hl ha hb hodd he h1 hll hlen
          generalize rootN 32 x = rx at *
          go_wp2_with (first
            | (go_at_call 95; refine (hroot _).mono ?_; rintro e w1 ⟨rfl, rfl⟩)
            | (go_at_call 78; refine (hih _).mono ?_; clear hih; rintro e w2 ⟨v5, rfl, hown5, hb5⟩; have hownA := hown.below hb5; have hne5 := own_ne hown hown5 (Nat.le_refl _); have hsz2 := hb5.size)
            | (at_builtin; refine wpList_append_U rfl _ _ rfl B _ _ rfl hownA _ _ _ rfl hown5 (by simp) hlen1 (by omega) ?_; intro v6 w3 hown6 hgrow3; clear hownA; have hown7 := hown5.kept hgrow3 hne5)
            | (at_builtin; refine wpList_append_U rfl _ _ rfl B _ _ rfl hown6 _ _ _ rfl hown7 (by simp) hlen2 (by have := hgrow3.size; omega) ?_; intro v8 w4 hown8 hgrow4; clear hown7))
          go_ret
          refine ⟨v8, rfl, by rw [Hll.out]; exact hown8, ?_⟩
          have hsz3 := hgrow3.size
          exact ((hB.trans (hb5.mono hsz)).grown hgrow3 (by omega) (fun k e => (hown.lt k e).1)).grown hgrow4 (by omega) (fun k e => (hown6.lt k e).1)
        · rw [if_neg hs0] at hl
          have hs0b : ((sl : Int) == 0) = false := beq_false (by omega)
          have hcom := common_calls x sl hx hsl64
          have hsz : B ≤ wr.heap.size := by have := hB.size; omega
          by_cases hg1 : Gf2.gcd x sl = 1
          · rw [if_pos hg1] at hl
            have hsp := splitter_calls x hxl hx
            obtain ⟨sp, hspe⟩ : ∃ sp, splitF x = sp := ⟨_, rfl⟩
            rw [hspe] at hl hsp
            have hcom1 : ∀ w, Calls Try.prog 19 #[U x, U sl] w fun e w' => e = .returned (.int .u64 1) ∧ w = w' := fun w => by
              refine (hcom w).mono ?_
              rintro e w' ⟨rfl, rfl⟩
              exact ⟨by rw [hg1]; rfl, rfl⟩
            by_cases hgx : Gf2.gcd x sp = x
            · rw [if_pos hgx] at hl
              have hcom2 : sp < 2 ^ 64 → ∀ w, Calls Try.prog 19 #[U x, U sp] w fun e w' => e = .returned (U x) ∧ w = w' := fun h w => by
                refine (common_calls x sp hx h w).mono ?_
                rintro e w' ⟨rfl, rfl⟩
                exact ⟨by rw [hgx], rfl⟩
              have Hll := Lib.hid (Option.some.inj hl)
              have hrl : (List.replicate c 2).length + 1 ≤ 2 ^ 40 := by simp; omega
              clear hl hgx hspe hg1 hcom he h1
              go_wp2_with (first
                | (go_at_call 19; refine (hcom1 _).mono ?_; clear hcom1; rintro e w1 ⟨rfl, rfl⟩)
                | (go_at_call 96; refine (hsp _).mono ?_; rintro e w2 ⟨rfl, hsp64, hb2⟩; have hown2 := (hown.below hb2).below ((Below.refl w2.heap.size w2).alloc (Nat.le_refl _) (.cells #[.int .u64 x] 22)); have hc2 := cell_of_one (alloc_new w2 (.cells #[.int .u64 x] 22)); have hsz2 := hb2.size; have hbz : B ≤ (w2.alloc (.cells #[.int .u64 x] 22)).heap.size := (by have := lt_of_block (alloc_new w2 (.cells #[.int .u64 x] 22)); omega))
                | (go_at_call 19; refine (hcom2 hsp64 _).mono ?_; rintro e w1 ⟨rfl, rfl⟩)
                | (at_builtin; refine wpList_append_1 rfl _ _ rfl B _ _ rfl hown2 w2.heap.size 1 x rfl hc2 hrl hbz ?_; intro v1 w3 hown3 hgrow3))
              go_ret
              refine ⟨v1, rfl, by rw [← Hll.out]; exact hown3, ?_⟩
              exact ((hB.trans (hb2.mono hsz)).alloc (by omega) _).grown hgrow3 hbz (fun k e => (hown.lt k e).1)
            · rw [if_neg hgx] at hl
              have hgxb : ((Gf2.gcd x sp : Int) == (x : Int)) = false := beq_false (by omega)
              obtain ⟨y, t, y', t', ha, hb, hll, hlen⟩ := fact2_some hl
              obtain ⟨hc0, hd0, hd64⟩ := div_facts hx hx0 (Gf2.gcd_dvd_left x (sp))
              have hg64 : Gf2.gcd x (sp) < 2 ^ 64 := gcd_lt64 hx hx0
              have ihc := fun w => IH.out (Gf2.gcd x (sp)) (y :: t) hg64 hc0 ha w
              have ihq := fun w => IH.out (Gf2.pdiv x (Gf2.gcd x (sp))) (y' :: t') hd64 hd0 hb w
              have hdv := divide_calls x (Gf2.gcd x (sp)) hx hg64 hc0
              have hlen1 : (List.replicate c 2).length + (y :: t).length ≤ 2 ^ 40 := by rw [hll] at hlen; simp at hlen ⊢; omega
              have hlen2 : (List.replicate c 2 ++ (y :: t)).length + (y' :: t').length ≤ 2 ^ 40 := by rw [hll] at hlen; simp at hlen ⊢; omega
              have Hll := Lib.hid hll
              have hcom2 : sp < 2 ^ 64 → ∀ w, Calls Try.prog 19 #[U x, U sp] w fun e w' => e = .returned (U (Gf2.gcd x sp)) ∧ w = w' := fun h w => common_calls x sp hx h w
              clear hl hgx hspe hg1 hcom he h1 ha hb hll hlen
              generalize Gf2.pdiv x (Gf2.gcd x sp) = qd at *
              generalize Gf2.pmod x (Gf2.gcd x sp) = qm at *
              generalize Gf2.gcd x sp = gc at *
              go_wp2_with (first
                | (go_at_call 19; refine (hcom1 _).mono ?_; clear hcom1; rintro e w1 ⟨rfl, rfl⟩)
                | (go_at_call 96; refine (hsp _).mono ?_; rintro e ws ⟨rfl, hsp64, hb2⟩; have howns := hown.below hb2; have hsz2 := hb2.size; have hBs := hB.trans (hb2.mono hsz); have hszs : B ≤ ws.heap.size := (by omega))
                | (go_at_call 19; refine (hcom2 hsp64 _).mono ?_; rintro e w1 ⟨rfl, rfl⟩)
                | (go_at_call 67; refine (hdv _).mono ?_; rintro e wd ⟨rfl, rfl⟩)
                | (go_at_call 78; refine (ihc _).mono ?_; clear ihc; rintro e w3 ⟨v3, rfl, hown3, hb3⟩; have hownA := howns.below hb3; have hsz3 := hb3.size; have hB3 := hBs.trans (hb3.mono hszs))
                | (at_builtin; refine wpList_append_U rfl _ _ rfl B _ _ rfl hownA _ _ _ rfl hown3 (by simp) hlen1 (by omega) ?_; intro v4 w4 hown4 hgrow4; clear hown3; have hsz4 := hgrow4.size; have hB4 := hB3.grown hgrow4 (by omega) (fun k e => (howns.lt k e).1))
                | (go_at_call 78; refine (ihq _).mono ?_; clear ihq; rintro e w5 ⟨v5, rfl, hown5, hb5⟩; have hown6 := hown4.below hb5; have hsz5 := hb5.size; have hB5 := hB4.trans (hb5.mono (by omega)))
                | (at_builtin; refine wpList_append_U rfl _ _ rfl B _ _ rfl hown6 _ _ _ rfl hown5 (by simp) hlen2 (by omega) ?_; intro v8 w8 hown8 hgrow8; clear hown5; have hB8 := hB5.grown hgrow8 (by omega) (fun k e => (hown6.lt k e).1)))
              go_ret
              exact ⟨v8, rfl, by rw [Hll.out]; exact hown8, hB8⟩
          · rw [if_neg hg1] at hl
            have hg1b : ((Gf2.gcd x sl : Int) == 1) = false := beq_false (by omega)
            have howns := hown
            have hBs := hB
            have hszs := hsz
            obtain ⟨y, t, y', t', ha, hb, hll, hlen⟩ := fact2_some hl
            obtain ⟨hc0, hd0, hd64⟩ := div_facts hx hx0 (Gf2.gcd_dvd_left x (sl))
            have hg64 : Gf2.gcd x (sl) < 2 ^ 64 := gcd_lt64 hx hx0
            have ihc := fun w => IH.out (Gf2.gcd x (sl)) (y :: t) hg64 hc0 ha w
            have ihq := fun w => IH.out (Gf2.pdiv x (Gf2.gcd x (sl))) (y' :: t') hd64 hd0 hb w
            have hdv := divide_calls x (Gf2.gcd x (sl)) hx hg64 hc0
            have hlen1 : (List.replicate c 2).length + (y :: t).length ≤ 2 ^ 40 := by rw [hll] at hlen; simp at hlen ⊢; omega
            have hlen2 : (List.replicate c 2 ++ (y :: t)).length + (y' :: t').length ≤ 2 ^ 40 := by rw [hll] at hlen; simp at hlen ⊢; omega
            have Hll := Lib.hid hll
            clear hl hg1 he h1 ha hb hll hlen
            generalize Gf2.pdiv x (Gf2.gcd x sl) = qd at *
            generalize Gf2.pmod x (Gf2.gcd x sl) = qm at *
            generalize Gf2.gcd x sl = gc at *
            go_wp2_with (first
                | (go_at_call 19; refine (hcom _).mono ?_; clear hcom; rintro e w1 ⟨rfl, rfl⟩)
                | (go_at_call 67; refine (hdv _).mono ?_; rintro e wd ⟨rfl, rfl⟩)
                | (go_at_call 78; refine (ihc _).mono ?_; clear ihc; rintro e w3 ⟨v3, rfl, hown3, hb3⟩; have hownA := howns.below hb3; have hsz3 := hb3.size; have hB3 := hBs.trans (hb3.mono hszs))
                | (at_builtin; refine wpList_append_U rfl _ _ rfl B _ _ rfl hownA _ _ _ rfl hown3 (by simp) hlen1 (by omega) ?_; intro v4 w4 hown4 hgrow4; clear hown3; have hsz4 := hgrow4.size; have hB4 := hB3.grown hgrow4 (by omega) (fun k e => (howns.lt k e).1))
                | (go_at_call 78; refine (ihq _).mono ?_; clear ihq; rintro e w5 ⟨v5, rfl, hown5, hb5⟩; have hown6 := hown4.below hb5; have hsz5 := hb5.size; have hB5 := hB4.trans (hb5.mono (by omega)))
                | (at_builtin; refine wpList_append_U rfl _ _ rfl B _ _ rfl hown6 _ _ _ rfl hown5 (by simp) hlen2 (by omega) ?_; intro v8 w8 hown8 hgrow8; clear hown5; have hB8 := hB5.grown hgrow8 (by omega) (fun k e => (hown6.lt k e).1)))
            go_ret
            exact ⟨v8, rfl, by rw [Hll.out]; exact hown8, hB8⟩
end Go.Proofs.Ytjgfcnhnlaobcaa
