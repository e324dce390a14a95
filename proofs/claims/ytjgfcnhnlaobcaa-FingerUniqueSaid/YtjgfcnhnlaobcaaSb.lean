/- Walk: the examples that each law begins with: they hold. -/
import Derived.Test.YtjgfcnhnlaobcaaSa
namespace Go.Proofs.Ytjgfcnhnlaobcaa
open Go.RowKit

set_option maxRecDepth 100000 in
set_option maxHeartbeats 3200000 in
theorem sane_calls (w : World) : Calls Try.prog 14 #[] w fun e w' => e = .returned (.bool true) ∧ Below w.heap.size w w' := by
  have hB : Below w.heap.size w w := Below.refl _ _
  have h17a := s17a
  have h17b := s17b
  have h35a := s35a
  have h35b := s35b
  go_enter Try.func14, Try.ntmps14
  go_wp2_with (first
    | (go_at_call 15; refine (s15 _).mono ?_; rintro e w1 ⟨rfl, hb⟩; replace hB := hB.trans (hb.mono hB.size); clear hb)
    | (go_at_call 21; refine (s21 _).mono ?_; rintro e w2 ⟨rfl, hb⟩; replace hB := hB.trans (hb.mono hB.size); clear hb)
    | (go_at_call 23; refine (s23 _).mono ?_; rintro e w3 ⟨rfl, rfl⟩)
    | (go_at_call 19; refine (s19 _).mono ?_; rintro e w4 ⟨rfl, rfl⟩)
    | (go_at_call 17; refine (h17a _).mono ?_; clear h17a; rintro e w5 ⟨rfl, rfl⟩)
    | (go_at_call 17; refine (h17b _).mono ?_; clear h17b; rintro e w5 ⟨rfl, rfl⟩)
    | (go_at_call 37; refine (s37 _).mono ?_; rintro e w6 ⟨a8, c8, rfl, hs8, hl8, hb⟩; replace hB := hB.trans (hb.mono hB.size); clear hb)
    | (go_at_call 28; refine (s28 _).mono ?_; rintro e w7 ⟨rfl, hb⟩; replace hB := hB.trans (hb.mono hB.size); replace hs8 := hs8.below hb hl8; replace hl8 := (fun x hx => Nat.lt_of_lt_of_le (hl8 x hx) hb.size); clear hb)
    | (go_at_call 34; refine (s34 _).mono ?_; rintro e w8 ⟨rfl, hb⟩; replace hB := hB.trans (hb.mono hB.size); replace hs8 := hs8.below hb hl8; replace hl8 := (fun x hx => Nat.lt_of_lt_of_le (hl8 x hx) hb.size); clear hb)
    | (go_at_call 39; refine (s39 _ _ _ hs8 hl8).mono ?_; rintro e w9 ⟨rfl, hb⟩; replace hB := hB.trans (hb.mono hB.size); clear hb hs8 hl8)
    | (go_at_call 35; refine (h35a _).mono ?_; clear h35a; rintro e w10 ⟨rfl, hb⟩; replace hB := hB.trans (hb.mono hB.size); clear hb)
    | (go_at_call 35; refine (h35b _).mono ?_; clear h35b; rintro e w11 ⟨rfl, hb⟩; replace hB := hB.trans (hb.mono hB.size); clear hb)
    | (go_at_call 30; refine (s30 _).mono ?_; rintro e w12 ⟨rfl, hb⟩; replace hB := hB.trans (hb.mono hB.size); clear hb)
    | (go_at_call 46; refine (s46 _).mono ?_; rintro e w13 ⟨rfl, hb⟩; replace hB := hB.trans (hb.mono hB.size); clear hb)
    | (go_at_call 50; refine (s50 _).mono ?_; rintro e w14 ⟨rfl, hb⟩; replace hB := hB.trans (hb.mono hB.size); clear hb)
    | (go_at_call 31; refine (s31 _).mono ?_; rintro e w15 ⟨a9, c9, rfl, hs9, hl9, hb⟩; replace hB := hB.trans (hb.mono hB.size); clear hb)
    | (go_at_call 32; refine (s32 _ _ _ hs9 hl9).mono ?_; rintro e w16 ⟨rfl, hb⟩; replace hB := hB.trans (hb.mono hB.size); clear hb hs9 hl9)
    | (go_at_call 36; refine (s36 _).mono ?_; rintro e w17 ⟨rfl, hb⟩; replace hB := hB.trans (hb.mono hB.size); clear hb)
    | (go_at_call 26; refine (s26 _).mono ?_; rintro e w18 ⟨rfl, hb⟩; replace hB := hB.trans (hb.mono hB.size); clear hb)
    | (go_at_call 27; refine (s27 _).mono ?_; rintro e w19 ⟨rfl, hb⟩; replace hB := hB.trans (hb.mono hB.size); clear hb))
  go_ret
  exact ⟨rfl, hB⟩
end Go.Proofs.Ytjgfcnhnlaobcaa
