/-
  The code laws' 'alive'; CodeNil. No statement is proved here.
-/
import Derived.Test.YtnfknbjdggkdpaaDoorRTextW
import Derived.Test.YtnfknbjdggkdpaaDoorCodeTextW
namespace Go.Proofs.YtnfknbjdggkdpaaDoor
open Go.RowKit
theorem uint300 : uintL 300 = [172, 2] := by decide
theorem textab : textL [97, 98] = [2, 97, 98] := by decide
theorem num8000 : numR 9 [128, 0] = (0, 21, 2) := by decide
set_option maxHeartbeats 1000000 in
set_option maxRecDepth 100000 in
theorem alive_any (w : World) (hT : TabAny w) (hH : Handle w) : Calls Tryd.prog 19 #[] w fun e w' => e = .returned (.bool true) ∧ Below w.heap.size w w' := by
  have hU := fun W => Uint_any 300 W (by decide)
  have hX := fun W => Text_any ⟨#[97, 98]⟩ W (by decide)
  rw [uint300] at hU
  rw [show (⟨#[97, 98]⟩ : ByteArray).data.toList = [97, 98] from rfl, textab] at hX
  have HU := Lib.hid hU
  have HX := Lib.hid hX
  have HT := Lib.hid hT
  have HH := Lib.hid hH
  clear hU hX hT hH
  go_enter Tryd.func19, Tryd.ntmps19
  go_wp2_with fail
  refine (New_any _ _).mono ?_; rintro e w1 ⟨rfl, hr, hb⟩
  have hr0 := RUint_any 9 w.heap.size ⟨#[128, 0]⟩ 0 0 21 2 w1 (by exact num8000) (by decide) (by decide) (by decide) hr
  have HR := Lib.hid hr0
  clear hr0 hr
  go_wp2_with fail
  refine HR.out.mono ?_; rintro e w2 ⟨E, rfl, hE, _, hg⟩
  have HE := Lib.hid hE
  have hB2 : Below w.heap.size w w2 := ⟨hg.os.trans hb.os, hg.tape.trans hb.tape, hg.output.trans hb.output, Nat.le_trans hb.size hg.size, fun k hk => (hg.block k (Nat.lt_of_lt_of_le hk hb.size) (by simp; omega)).trans (hb.block k hk)⟩
  clear hE hg hb
  go_wp2_with fail
  refine (HU.out _).mono ?_; rintro e w3 ⟨rfl, hb3⟩
  have hB3 := hB2.trans (hb3.mono hB2.size)
  go_wp2_with fail
  refine (HX.out _).mono ?_; rintro e w4 ⟨rfl, hb4⟩
  have hB4 := hB3.trans (hb4.mono hB3.size)
  have HE4 := Lib.hid ((HE.out.below hb3).below hb4)
  go_wp2_with fail
  refine (is_errVal E 21 0 _ HE4.out (by decide) (HT.out.below hB4) (HH.out.below hB4)).mono ?_; rintro e w5 ⟨rfl, hb5⟩
  have hB5 := hB4.trans (hb5.mono hB4.size)
  go_wp2_with fail
  refine (End_nil _).mono ?_; rintro e w6 ⟨E2, rfl, hE2, hb6⟩
  have hB6 := hB5.trans (hb6.mono hB5.size)
  have HE2 := Lib.hid hE2
  clear hE2
  go_wp2_with fail
  refine (is_errVal E2 1 (-1) _ HE2.out (by decide) (HT.out.below hB6) (HH.out.below hB6)).mono ?_; rintro e w7 ⟨rfl, hb7⟩
  have hB7 := hB6.trans (hb7.mono hB6.size)
  go_wp2_with fail
  go_ret
  exact ⟨rfl, hB7⟩
set_option maxHeartbeats 1000000 in
set_option maxRecDepth 100000 in
theorem CodeNil_walk (most : Nat) (w : World) (_hm : most < 18446744073709551616) (hT : TabAny w) (hH : Handle w) :
    Calls Tryd.prog 4 #[.int .u64 most] w fun e w' => e = .returned (.bool true) ∧ Below w.heap.size w w' := by
  have HT := Lib.hid hT
  have HH := Lib.hid hH
  clear hT hH
  go_enter Tryd.func4, Tryd.ntmps4
  go_wp2_with fail
  refine (RUint_nil _ _).mono ?_; rintro e w1 ⟨E, rfl, hE, hb1⟩
  have HE := Lib.hid hE
  clear hE
  go_wp2_with fail
  refine (RText_nil _ _).mono ?_; rintro e w2 ⟨F, rfl, hF, hb2⟩
  have hB2 := hb1.trans (hb2.mono hb1.size)
  have HE2 := Lib.hid (HE.out.below hb2)
  have HF := Lib.hid hF
  clear hF
  go_wp2_with fail
  refine (is_errVal E 1 (-1) _ HE2.out (by decide) (HT.out.below hB2) (HH.out.below hB2)).mono ?_; rintro e w3 ⟨rfl, hb3⟩
  have hB3 := hB2.trans (hb3.mono hB2.size)
  go_wp2_with fail
  refine (is_errVal F 1 (-1) _ (HF.out.below hb3) (by decide) (HT.out.below hB3) (HH.out.below hB3)).mono ?_; rintro e w4 ⟨rfl, hb4⟩
  have hB4 := hB3.trans (hb4.mono hB3.size)
  go_wp2_with fail
  refine (At_nil _).mono ?_; rintro e w' ⟨rfl, rfl⟩
  go_wp2_with fail
  refine (Rest_nil _).mono ?_; rintro e w' ⟨rfl, rfl⟩
  go_wp2_with fail
  refine (alive_any _ (HT.out.below hB4) (HH.out.below hB4)).mono ?_; rintro e w5 ⟨rfl, hb5⟩
  go_wp2_with fail
  go_ret
  exact ⟨rfl, hB4.trans (hb5.mono hB4.size)⟩
end Go.Proofs.YtnfknbjdggkdpaaDoor
