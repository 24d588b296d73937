/-
  code.Reader.End, Byte, Word. No statement is proved here.
-/
import Derived.Test.YtnfknbjdggkdpaaDoorRTexts2W
namespace Go.Proofs.YtnfknbjdggkdpaaDoor
open Go.RowKit
theorem enterEnd (caps : Array Value) (w : World) : (callFunc 65 caps).run Tryd.prog w = .ok (.enter 65 caps) w := by kernel_rfl
theorem End1_any (g b0 : Nat) (s : ByteArray) (at_ : Nat) (w : World) (hr : RAt w g s at_) (h0 : w.cell? ⟨b0, 0, none⟩ = some (.pointer (some ⟨g, 0, none⟩))) :
    Calls Tryd.prog 65 #[.pointer (some ⟨b0, 0, none⟩)] w (DoIs g s (fun c w' => c = (if at_ < s.size then 23 else 0) ∧ ∃ n, w' = w.drewN n)) := by
  have HR := Lib.hid hr
  obtain ⟨r0, r1, r2⟩ := hr
  by_cases h : at_ < s.size
  · rw [if_pos h]
    go_enter Tryd.func65, Tryd.ntmps65
    go_wp2_with fail
    go_quiet (fail)
    go_wp2_with fail
    go_ret
    exact ⟨23, rfl, ⟨rfl, _, rfl⟩, _, HR.out.drewN _⟩
  · rw [if_neg h]
    go_enter Tryd.func65, Tryd.ntmps65
    go_wp2_with fail
    go_quiet (fail)
    go_wp2_with fail
    go_ret
    exact ⟨0, rfl, ⟨rfl, _, rfl⟩, _, HR.out.drewN _⟩
def EndIs (g : Nat) (s : ByteArray) (at_ : Nat) (w : World) (e : Ending) (w' : World) : Prop :=
  ∃ E, e = .returned E ∧ ErrVal w' E (if at_ < s.size then 23 else 0) at_ ∧ RAt w' g s at_ ∧ w.grownBy w' (some g)
theorem REnd_any (g : Nat) (s : ByteArray) (at_ : Nat) (w : World) (hr : RAt w g s at_) :
    Calls Tryd.prog 42 #[.pointer (some ⟨g, 0, none⟩)] w (EndIs g s at_ w) := by
  have hlt := hr.lt
  have HR := Lib.hid hr
  clear hr
  go_enter Tryd.func42, Tryd.ntmps42
  go_wp2_with fail
  obtain ⟨W, hW⟩ : ∃ W, w.alloc (.cells #[.pointer (some ⟨g, 0, none⟩)] 30) = W := ⟨_, rfl⟩
  have hB : Below w.heap.size w W := by rw [← hW]; exact (Below.refl _ _).alloc (Nat.le_refl _) _
  have c0 : W.cell? ⟨w.heap.size, 0, none⟩ = some (.pointer (some ⟨g, 0, none⟩)) := by rw [← hW, World.cell?_alloc_mark]; rfl
  rw [hW]
  have hr1 := HR.out.below hB
  refine (keep_any _ _ g s at_ W _ hr1 (enterEnd _) (End1_any g w.heap.size s at_ W hr1 c0)).mono ?_
  clear c0 hW
  rintro e w1 (⟨⟨hc, n, rfl⟩, rfl⟩ | ⟨c, w2, b, hc0, ⟨hc, n, rfl⟩, rfl, hF, hb⟩)
  · have HC := Lib.hid hc
    clear hc
    go_wp2_with fail
    go_ret
    refine ⟨_, rfl, .inl ⟨HC.out.symm, rfl⟩, hr1.drewN n, but_drewN ⟨hB.os, hB.tape, hB.output, hB.size, fun k hk _ => hB.block k hk⟩ n⟩
  · have HC := Lib.hid hc
    have HF := Lib.hid hF
    have hk2 := ((hr1.drewN n).set at_).below (w' := w1) (by rw [heap_size_set]; exact hb)
    have HK := Lib.hid hk2
    have HO : Hid (w.grownBy w1 (some g)) := Lib.hid (but_below (w1 := (W.drewN n).setCell ⟨g, 1, none⟩ (.int .i64 (at_ : Int))) (but_set (but_drewN ⟨hB.os, hB.tape, hB.output, hB.size, fun k hk _ => hB.block k hk⟩ n) 1 _) (by rw [heap_size_set]; exact hb))
    clear hc hF hk2 hb
    go_wp2_with fail
    go_ret
    refine ⟨_, rfl, .inr ⟨by rw [← HC.out]; exact hc0, by split <;> decide, b, rfl, by rw [← HC.out]; exact HF.out⟩, HK.out, HO.out⟩
end Go.Proofs.YtnfknbjdggkdpaaDoor
