/-
  frame.fault, Of, Size, front, Front. No statement is proved here.
-/
import Derived.Test.YthimmdaefmbcjaaDoorHeadW
import Derived.Test.YthimmdaefmbcjaaDoorTold
namespace Go.Proofs.YthimmdaefmbcjaaDoor
open Go.RowKit
def faultV (b : Nat) : Value := .iface 58 (.pointer (some ⟨b, 0, none⟩))
def SomeFault (c at_ : Int) (w : World) (e : Ending) (w' : World) : Prop := ∃ b, e = .returned (.iface 58 (.pointer (some ⟨b, 0, none⟩))) ∧ FaultAt w' b c at_ ∧ Below w.heap.size w w'
theorem fault_any (c at_ : Int) (w : World) : Calls Tryd.prog 18 #[.int .i64 c, .int .i64 at_] w (SomeFault c at_ w) := by
  go_enter Tryd.func18, Tryd.ntmps18
  go_wp2_with fail
  go_ret
  refine ⟨w.heap.size, rfl, ⟨?_, ?_, ?_, ?_⟩, (Below.refl _ _).alloc (Nat.le_refl _) _⟩ <;> (rw [World.cell?_alloc_mark]; rfl)
theorem list12 (l : List UInt8) (h : l.length = 12) : ∃ x0 x1 x2 x3 x4 x5 x6 x7 x8 x9 x10 x11, l = [x0, x1, x2, x3, x4, x5, x6, x7, x8, x9, x10, x11] := by
  match l, h with
  | [x0, x1, x2, x3, x4, x5, x6, x7, x8, x9, x10, x11], _ => exact ⟨_, _, _, _, _, _, _, _, _, _, _, _, rfl⟩
/-- The record of a payload. -/
noncomputable def recL (p : List UInt8) : List UInt8 := headL p ++ p
theorem recL_length (p : List UInt8) : (recL p).length = 12 + p.length := by simp [recL, headL_length]
/-- frame.Of's answer. -/
def OfIs (p : ByteArray) (w : World) (e : Ending) (w' : World) : Prop :=
  (p.size ≤ 131072 ∧ e = .returned (.tuple #[.string ⟨(recL p.data.toList).toArray⟩, .nilIface]) ∧ Below w.heap.size w w') ∨
  (131072 < p.size ∧ ∃ b, e = .returned (.tuple #[.string ⟨#[]⟩, .iface 58 (.pointer (some ⟨b, 0, none⟩))]) ∧ FaultAt w' b 4 (-1) ∧ Below w.heap.size w w')
set_option maxHeartbeats 1000000 in
set_option maxRecDepth 100000 in
theorem Of_frame (p : ByteArray) (w : World) (hp : p.size ≤ 140737488351232) : Calls Tryd.prog 8 #[.string p] w (OfIs p w) := by
  by_cases hs : p.size ≤ 131072
  · have HH := head_any p w hs
    obtain ⟨x0, x1, x2, x3, x4, x5, x6, x7, x8, x9, x10, x11, hx⟩ := list12 (headL p.data.toList) (headL_length _)
    have hr : (⟨(recL p.data.toList).toArray⟩ : ByteArray) = (⟨(headL p.data.toList).toArray⟩ : ByteArray) ++ p := by
      rw [show p = (⟨p.data.toList.toArray⟩ : ByteArray) from (ba_data p).symm, ba_append]; rfl
    have HX := Lib.hid hx
    have HR := Lib.hid hr
    rw [hx] at HH
    simp only [u8s, List.map_cons, List.map_nil] at HH
    have HC := Lib.hid HH
    have hz : (⟨#[x0, x1, x2, x3, x4, x5, x6, x7, x8, x9, x10, x11]⟩ : ByteArray).size = 12 := by simp [ByteArray.size]
    clear hx HH hr
    go_enter Tryd.func8, Tryd.ntmps8
    go_wp2_with fail
    refine HC.out.mono ?_; rintro e w1 ⟨rfl, hb⟩
    go_wp2_with fail
    rw [conv_new _ _ _ _ 12 12 [x0, x1, x2, x3, x4, x5, x6, x7, x8, x9, x10, x11] rfl rfl (cells_u8s _ _ [] (by simp [u8s]))]
    go_wp2_with fail
    go_ret2
    refine .inl ⟨hs, ret_val ?_, hb.alloc hb.size _⟩
    rw [HR.out, HX.out]
    rfl
  · have hs' : 131072 < p.size := by omega
    clear hs
    go_enter Tryd.func8, Tryd.ntmps8
    go_wp2_with fail
    refine (fault_any _ _ _).mono ?_; rintro e w1 ⟨b, rfl, hF, hb⟩
    have HF := Lib.hid hF
    clear hF
    go_wp2_with fail
    go_ret2
    exact .inr ⟨hs', b, rfl, HF.out, hb⟩
theorem Size_any (p : ByteArray) (w : World) (hp : p.size ≤ 140737488351232) : Calls Tryd.prog 11 #[.string p] w fun e w' => e = .returned (.int .i64 (12 + (p.size : Int))) ∧ w = w' := by
  go_enter Tryd.func11, Tryd.ntmps11
  go_wp2_with fail
  go_ret
  exact ⟨rfl, rfl⟩
theorem refSize_any (p : ByteArray) (w : World) (hp : p.size ≤ 140737488351232) : Calls Tryd.prog 12 #[.string p] w fun e w' => e = .returned (.int .i64 (12 + (p.size : Int))) ∧ w = w' := by
  go_enter Tryd.func12, Tryd.ntmps12
  go_wp2_with fail
  go_ret
  exact ⟨rfl, rfl⟩
end Go.Proofs.YthimmdaefmbcjaaDoor
