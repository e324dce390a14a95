/- Walks: which texts collide. -/
import Derived.Test.YtjgfcnhnlaobcaaWs
import Derived.Test.YtjgfcnhnlaobcaaWg
import Derived.Maps.OwnSet
import Derived.Maps.OwnOps
import Derived.Laws.BytesArg
namespace Go.Proofs.Ytjgfcnhnlaobcaa
open Go.RowKit Go.Maps

def collAt (Ls : List (List Nat)) (fps : List Nat) : Nat → Nat → Nat × Nat × Bool
  | 0, _ => (0, 0, false)
  | g + 1, k => match (fps.take k).findIdx? (· == fps.getD k 0) with
    | none => collAt Ls fps g (k + 1)
    | some i => if Ls.getD i [] = Ls.getD k [] then collAt Ls fps g (k + 1) else (i, k, true)
def tColl (p : Nat) (Ls : List (List Nat)) : Nat × Nat × Bool := collAt Ls (Ls.map (Gf2.onBytes p 1)) Ls.length 0

/-- A map of the call's own, by what it says. -/
def MapIs (w : World) (B n : Nat) (F : Nat → Option Nat) : Prop :=
  ∃ D : DataW Unit, w.ownsMap Try.prog 22 (plainElem Try.prog 3) B n D ∧ ∀ x : Nat, x < 2 ^ 64 → Maps.has D (.int .u64 x) = (F x).isSome ∧ ∀ i : Nat, F x = some i → ∀ z, D.atKey (.int .u64 x) z = .lit (.int .i64 i)

theorem zeroE (w : World) : (zeroValue 3).run Try.prog w = .ok (.int .i64 0) w := by kernel_rfl

theorem key_ne {x y : Nat} (h : x ≠ y) : (Lit.int .u64 (x : Int)) ≠ .int .u64 (y : Int) := fun e => by
  injection e with _ e; omega
theorem MapIs.put {w : World} {B n : Nat} {F : Nat → Option Nat} {D : DataW Unit} {x v : Nat} (hD : IsMap D) (h : ∀ y : Nat, y < 2 ^ 64 → Maps.has D (.int .u64 y) = (F y).isSome ∧ ∀ i : Nat, F y = some i → ∀ z, D.atKey (.int .u64 y) z = .lit (.int .i64 i))
    (hw : w.ownsMap Try.prog 22 (plainElem Try.prog 3) B n (D.put (.int .u64 x) (.lit (.int .i64 v)))) : MapIs w B n (fun y => if y = x then some v else F y) := by
  refine ⟨_, hw, fun y hy => ?_⟩
  by_cases he : y = x
  · subst he
    dsimp only
    rw [if_pos rfl]
    refine ⟨has_put_same hD (by simp [WideAt.IsKeyLit]) _, fun i hi z => ?_⟩
    cases hi
    exact atKey_put_same hD (by simp [WideAt.IsKeyLit]) _ _
  · dsimp only
    rw [if_neg he]
    obtain ⟨h1, h2⟩ := h y hy
    refine ⟨by rw [has_put_other (key_ne he), h1], fun i hi z => by rw [atKey_put_other (key_ne he), h2 i hi]⟩
theorem MapIs.congr {w : World} {B n : Nat} {F G : Nat → Option Nat} (h : MapIs w B n F) (hFG : ∀ x, F x = G x) : MapIs w B n G := by
  have : F = G := funext hFG
  rw [← this]; exact h

theorem first_snoc {l : List Nat} {k : Nat} (hk : k < l.length) (y : Nat) :
    (l.take (k + 1)).findIdx? (· == y) = match (l.take k).findIdx? (· == y) with | some i => some i | none => if y = l.getD k 0 then some k else none := by
  have hx : l.getD k 0 = l[k] := by simp [hk]
  rw [List.take_succ_eq_append_getElem hk, List.findIdx?_append, hx]
  cases h : (l.take k).findIdx? (· == y) with
  | some i => rfl
  | none =>
    by_cases he : y = l[k]
    · subst he; simp [List.findIdx?_cons]; omega
    · have : (l[k] == y) = false := by simpa using fun e => he e.symm
      simp [List.findIdx?_cons, this, he]

def strOf (l : List Nat) : ByteArray := strOfNums (l.map fun x : Nat => (x : Int))
theorem strOf_inj {l m : List Nat} (hl : ∀ x ∈ l, x < 256) (hm : ∀ x ∈ m, x < 256) (h : strOf l = strOf m) : l = m := by
  have h2 : (strOf l).data.toList = (strOf m).data.toList := by rw [h]
  simp only [strOf, strOfNums_data, List.map_map] at h2
  induction l generalizing m with
  | nil => cases m with
    | nil => rfl
    | cons y m => simp at h2
  | cons x l ih =>
    cases m with
    | nil => simp at h2
    | cons y m =>
      simp only [List.map_cons, List.cons.injEq, Function.comp_apply] at h2
      have hxy : x = y := by
        have h3 := congrArg UInt8.toNat h2.1
        have h4 := hl x (by simp)
        have h5 := hm y (by simp)
        simp at h3
        omega
      rw [hxy, ih (fun z hz => hl z (by simp [hz])) (fun z hz => hm z (by simp [hz])) (by
        have := h2.2
        simp only [strOf, strOfNums]
        simp only [List.map_map]
        rw [show List.map ((fun n => UInt8.ofNat n.toNat) ∘ fun x : Nat => (x : Int)) l = List.map ((fun n => UInt8.ofNat n.toNat) ∘ fun x : Nat => (x : Int)) m from this]) h2.2]

theorem strOf_ne {l m : List Nat} (hl : ∀ x ∈ l, x < 256) (hm : ∀ x ∈ m, x < 256) (h : ¬ l = m) : ((strOf l).toList == (strOf m).toList) = false := by
  rw [ByteArray.toList_eq, ByteArray.toList_eq]
  refine beq_eq_false_iff_ne.2 fun e => h (strOf_inj hl hm ?_)
  have e2 : (strOf l).data = (strOf m).data := Array.toList_inj.1 e
  exact congrArg ByteArray.mk e2
theorem run_convB {w : World} {a : Option Addr} {l : List Nat} (cap : Nat) (h : BytesAt w a l) : (convert 35 9 (.slice a l.length cap)).run Try.prog w = .ok (.string (strOf l)) w := by
  rcases h.2 with rfl | ⟨b, off, rfl, hc⟩
  · cases a with
    | none => exact run_convert_bytes_nil w 35 5 Try.underlying35 Try.underlying5 _ _ 9 Try.underlying9
    | some x =>
      rw [run_convert_bytes_string w 35 9 5 _ _ cap Try.underlying35 Try.underlying5 Try.underlying9, run_bytesToString w _ _ cap [] (by simp [loadCells, loadCellsFrom])]
      rfl
  · have := run_convert_bytes_arg w 35 5 Try.underlying35 Try.underlying5 b off l.length cap (l.map fun x : Nat => (x : Int)) (by simp) (fun i hi => by
      rw [hc i hi]; simp [hi]) 9 Try.underlying9
    exact this

set_option maxRecDepth 100000 in
set_option maxHeartbeats 3200000 in
theorem colliding_calls (p d : Nat) (a : Option Addr) (cap : Nat) (Ls : List (List Nat)) (hd : Gf2.len p = d + 1) (hd4 : 4 ≤ d) (hp : p < 2 ^ 64) (hn : Ls.length < 2 ^ 40) (hs : ∀ l ∈ Ls, l.length < 2 ^ 60) (w : World) (hl : TextsAt w a Ls) :
    Calls Try.prog 71 #[U p, .slice a Ls.length cap] w fun e w' => e = .returned (.tuple #[I (tColl p Ls).1, I (tColl p Ls).2.1, .bool (tColl p Ls).2.2]) ∧ Below w.heap.size w w' := by
  have hp0 : p ≠ 0 := fun e => by rw [e, Gf2.len_zero] at hd; omega
  have hnm := newMachine_calls p (by omega) hp w
  rw [hd, Nat.add_sub_cancel] at hnm
  have hmm := @run_makeMap Try.prog
  obtain ⟨r, hr⟩ : ∃ r, tColl p Ls = r := ⟨_, rfl⟩
  rw [hr]
  obtain ⟨fps, hf⟩ : ∃ fps, Ls.map (Gf2.onBytes p 1) = fps := ⟨_, rfl⟩
  unfold tColl at hr
  rw [hf] at hr
  have HR := Lib.hid hr
  have HF := Lib.hid hf
  have HS := Lib.hid hs
  have HL := Lib.hid hl
  clear hr hf hs hl
  go_enter Try.func71, Try.ntmps71
  go_wp2_with (go_at_call 74; refine hnm.mono ?_; rintro e w1 ⟨rfl, hb1, hlt1, hM1⟩)
  clear hnm hmm
  go_loopg [19] Ls.length (fun g v19 wr => ∃ k : Nat, v19 = I k ∧ k + g = Ls.length ∧ Below w.heap.size w wr ∧ Mach w.heap.size p d 256 (tab p) wr ∧ w.heap.size < wr.heap.size ∧ MapIs wr w1.heap.size k (fun x => (fps.take k).findIdx? (· == x)) ∧ collAt Ls fps g k = r)
  case atStart =>
    refine ⟨0, rfl, by omega, hb1.alloc (by omega) _, hM1.of_below ((Below.refl w1.heap.size w1).alloc (Nat.le_refl _) _) hlt1, by simp; omega, ?_, HR.out⟩
    exact ⟨_, World.ownsMap_made _ _ _ _, fun x hx => ⟨by simp [Maps.has], fun i hi => by simp at hi⟩⟩
  case round =>
    obtain ⟨k, rfl, hkg, hb, hM, hlt, ⟨D, hown, hmap⟩, hc⟩ := hrel
    have hT := HL.out.below hb
    cases gk with
    | zero =>
      have hk : k = Ls.length := by omega
      subst hk
      have Hc := Lib.hid (show (0, 0, false) = r from hc)
      clear hc hmap hown hT hM
      go_wp2
      go_ret3
      exact ⟨by rw [← Hc.out]; rfl, hb⟩
    | succ g =>
      rw [collAt] at hc
      have hlk : k < Ls.length := by omega
      obtain ⟨b, off, rfl, hcs⟩ : ∃ b off, a = some ⟨b, off, none⟩ ∧ ∀ i, i < Ls.length → ∃ x c, wr.cell? ⟨b, off + i, none⟩ = some (.slice x (Ls.getD i []).length c) ∧ BytesAt wr x (Ls.getD i []) := by
        rcases hT with h | h
        · rw [h] at hlk; simp at hlk
        · exact h
      obtain ⟨x, c, hcell, hbt⟩ := hcs k hlk
      have hfl : k < fps.length := by rw [← HF.out]; simpa using hlk
      have hfk : fps.getD k 0 = Gf2.onBytes p 1 (Ls.getD k []) := by rw [← HF.out]; simp [hlk]
      have htl : (Ls.getD k []).length < 2 ^ 60 := HS.out _ (by simp [hlk])
      obtain ⟨t, hte⟩ : ∃ t, Ls.getD k [] = t := ⟨_, rfl⟩
      rw [hte] at hcell hbt hfk htl hc
      obtain ⟨f, hfe⟩ : ∃ f, Gf2.onBytes p 1 t = f := ⟨_, rfl⟩
      have hf64 : f < 2 ^ 64 := by
        rw [← hfe]
        exact lt_of_len (by have := Gf2.onBytes_lt hp0 t 1 (by rw [Gf2.len_one]; omega); have := len_le_64 hp; omega)
      have hon := on1_calls p d w.heap.size c x t hd hd4 hp wr hM hbt htl
      rw [hfe] at hfk hon
      rw [hfk] at hc
      have hkey : keyOf Try.prog 22 (U f) = some (.int .u64 f) := keyOf_int_mk Try.underlying22 (WalkArith.wf_u64 (by omega))
      obtain ⟨hhas, hat0⟩ := hmap f hf64
      dsimp only at hhas hat0
      have hDm : IsMap D := hown.isMap
      have hw1 : w1.heap.size ≤ (wr.drewN 0).heap.size := Nat.le_of_lt hown.lt
      have hownd : ∀ n, (wr.drewN n).ownsMap Try.prog 22 (plainElem Try.prog 3) w1.heap.size k D := fun n => hown
      have hsnoc := first_snoc hfl
      rw [hfk] at hsnoc
      have Hsn := Lib.hid hsnoc
      have Hmap := Lib.hid hmap
      have HK := Lib.hid hkey
      have Hwf := Lib.hid (show (Lit.int .i64 (k : Int)).wf = true from WalkArith.wf_i64 (by omega))
      have hown' := Lib.hid hown
      clear hkey hmap hsnoc hfk hfe htl hown
      cases hfi : (fps.take k).findIdx? (· == f) with
      | none =>
        rw [hfi] at hc hhas
        have hhas : Maps.has D (.int .u64 f) = false := hhas
        have Hc := Lib.hid (show collAt Ls fps g (k + 1) = r from hc)
        have Hfi := Lib.hid hfi
        clear hc hfi hat0 hcs hbt
        go_wp2_with (first
          | (go_at_call 75; refine hon.mono ?_; rintro e w2 ⟨rfl, nd, rfl⟩)
          | (at_lookup; refine wpList_lookup_own_ok_int _ rfl _ _ 97 rfl 22 3 .i64 (int_keyed Try.underlying22) Try.underlying97 Try.underlying3 (zeroE _) w1.heap.size k D rfl (hownd _) _ _ rfl HK.out ?_; rw [hhas]; intro ci hat hwc; clear hhas)
          | (at_mapUpdate; refine wpList_mapUpdate_own _ rfl _ _ _ 97 rfl 22 3 (int_keyed Try.underlying22) Try.underlying97 _ w1.heap.size k D rfl (hownd _) (by unfold maxLen; omega) _ _ _ rfl rfl HK.out _ [] (plainElem_int Try.underlying3 Hwf.out) ?_; intro w3 hown1 hgrow1))
        have hb3 : Below w1.heap.size (wr.drewN nd) w3 := (Below.refl _ _).grown hgrow1 hw1 (fun j hj => by cases hj; exact Nat.le_refl _)
        go_roundg g
        case measure => omega
        case rel =>
          refine ⟨k + 1, by go_num, by omega, (below_drewN hb nd).trans (hb3.mono hb1.size), (hM.drew nd).of_below hb3 hlt1, Nat.lt_of_lt_of_le hlt hb3.size, ?_, Hc.out⟩
          refine (MapIs.put hDm Hmap.out hown1).congr fun y => ?_
          rw [Hsn.out y]
          by_cases hyf : y = f
          · subst hyf; rw [Hfi.out]
          · simp only [hyf, if_false]
            cases (fps.take k).findIdx? (· == y) <;> rfl
      | some i =>
        rw [hfi] at hc hhas
        have hhas : Maps.has D (.int .u64 f) = true := hhas
        have hat1 := hat0 i hfi
        obtain ⟨hif, _⟩ := List.findIdx?_eq_some_iff_getElem.1 hfi
        have hik : i < k := by have := hif; simp at this; omega
        have hiL : i < Ls.length := by omega
        obtain ⟨x2, c2, hcell2, hbt2⟩ := hcs i hiL
        have htl2 : (Ls.getD i []).length < 2 ^ 60 := HS.out _ (by simp [hiL])
        obtain ⟨u, hue⟩ : ∃ u, Ls.getD i [] = u := ⟨_, rfl⟩
        rw [hue] at hcell2 hbt2 htl2
        have hc : (if u = t then collAt Ls fps g (k + 1) else (i, k, true)) = r := by rw [← hue, ← hte]; rw [← hte] at hc; exact hc
        have hcv1 : ∀ n, (convert 35 9 (.slice x t.length c)).run Try.prog (wr.drewN n) = .ok (.string (strOf t)) (wr.drewN n) := fun n => run_convB c (hbt.drew n)
        have hcv2 : ∀ n, (convert 35 9 (.slice x2 u.length c2)).run Try.prog (wr.drewN n) = .ok (.string (strOf u)) (wr.drewN n) := fun n => run_convB c2 (hbt2.drew n)
        have Hfi := Lib.hid hfi
        by_cases hut : u = t
        · rw [if_pos hut] at hc
          have Hc := Lib.hid hc
          have hse : strOf u = strOf t := by rw [hut]
          clear hc hfi hat0 hcs hbt2 htl2 hbt hue hte hut
          go_wp2_with (first
            | (go_at_call 75; refine hon.mono ?_; rintro e w2 ⟨rfl, nd, rfl⟩)
            | (at_lookup; refine wpList_lookup_own_ok_int _ rfl _ _ 97 rfl 22 3 .i64 (int_keyed Try.underlying22) Try.underlying97 Try.underlying3 (zeroE _) w1.heap.size k D rfl (hownd _) _ _ rfl HK.out ?_; rw [hhas]; intro ci hat hwc; obtain rfl : (i : Int) = ci := (by have h9 := (hat1 _).symm.trans hat; injection h9 with h9; injection h9); clear hhas hat)
            | go_quiet (fail))
          go_roundg g
          case measure => omega
          case rel =>
            refine ⟨k + 1, by go_num, by omega, below_drewN hb _, hM.drew _, hlt, ⟨D, (hown'.out.mono (Nat.le_succ _)), fun y hy => ?_⟩, Hc.out⟩
            obtain ⟨h1, h2⟩ := Hmap.out y hy
            dsimp only at h1 h2 ⊢
            rw [Hsn.out y]
            by_cases hyf : y = f
            · subst hyf; rw [Hfi.out] at h1 h2 ⊢; exact ⟨h1, h2⟩
            · simp only [hyf, if_false]
              revert h1 h2
              cases (fps.take k).findIdx? (· == y) <;> exact fun h1 h2 => ⟨h1, h2⟩
        · rw [if_neg hut] at hc
          have Hc := Lib.hid hc
          have hsn := strOf_ne hbt2.1 hbt.1 hut
          clear hc hfi hat0 hcs hbt2 htl2 hbt hue hte hut
          go_wp2_with (first
            | (go_at_call 75; refine hon.mono ?_; rintro e w2 ⟨rfl, nd, rfl⟩)
            | (at_lookup; refine wpList_lookup_own_ok_int _ rfl _ _ 97 rfl 22 3 .i64 (int_keyed Try.underlying22) Try.underlying97 Try.underlying3 (zeroE _) w1.heap.size k D rfl (hownd _) _ _ rfl HK.out ?_; rw [hhas]; intro ci hat hwc; obtain rfl : (i : Int) = ci := (by have h9 := (hat1 _).symm.trans hat; injection h9 with h9; injection h9); clear hhas hat)
            | go_quiet (fail))
          go_ret3
          exact ⟨by rw [← Hc.out]; rfl, below_drewN (below_drewN hb _) _⟩
end Go.Proofs.Ytjgfcnhnlaobcaa
