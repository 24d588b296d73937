/-
  code.Reader: New, At, Rest, keep. No statement is proved here.
-/
import Derived.Test.YtnfknbjdggkdpaaDoorReaderW
import Derived.Test.YtnfknbjdggkdpaaDoorTold
namespace Go.Proofs.YtnfknbjdggkdpaaDoor
open Go.RowKit
def SomeFault (c at_ : Int) (w : World) (e : Ending) (w' : World) : Prop := ∃ b, e = .returned (.iface 115 (.pointer (some ⟨b, 0, none⟩))) ∧ FaultAt w' b c at_ ∧ Below w.heap.size w w'
theorem fault_any (c at_ : Int) (w : World) : Calls Tryd.prog 73 #[.int .i64 c, .int .i64 at_] w (SomeFault c at_ w) := by
  go_enter Tryd.func73, Tryd.ntmps73
  go_wp2_with fail
  go_ret
  refine ⟨w.heap.size, rfl, ⟨?_, ?_, ?_, ?_⟩, (Below.refl _ _).alloc (Nat.le_refl _) _⟩ <;> (rw [World.cell?_alloc_mark]; rfl)
def NewIs (s : ByteArray) (w : World) (e : Ending) (w' : World) : Prop := e = .returned (.pointer (some ⟨w.heap.size, 0, none⟩)) ∧ RAt w' w.heap.size s 0 ∧ Below w.heap.size w w'
theorem New_any (s : ByteArray) (w : World) : Calls Tryd.prog 25 #[.string s] w (NewIs s w) := by
  go_enter Tryd.func25, Tryd.ntmps25
  go_wp2_with fail
  go_ret
  refine ⟨rfl, ⟨?_, ?_, ?_⟩, (Below.refl _ _).alloc (Nat.le_refl _) _⟩
  · rw [World.cell?_alloc_mark]; rfl
  · rw [World.cell?_alloc_mark]; rfl
  · rw [World.frozen?_alloc_mark]; rfl
theorem At_any (g : Nat) (s : ByteArray) (at_ : Nat) (w : World) (hr : RAt w g s at_) : Calls Tryd.prog 23 #[.pointer (some ⟨g, 0, none⟩)] w fun e w' => e = .returned (.int .i64 at_) ∧ w = w' := by
  obtain ⟨h0, h1, h2⟩ := hr
  go_enter Tryd.func23, Tryd.ntmps23
  go_wp2_with fail
  go_ret
  exact ⟨rfl, rfl⟩
theorem At_nil (w : World) : Calls Tryd.prog 23 #[.pointer none] w fun e w' => e = .returned (.int .i64 0) ∧ w = w' := by
  go_enter Tryd.func23, Tryd.ntmps23
  go_wp2_with fail
  go_ret
  exact ⟨rfl, rfl⟩
theorem Rest_nil (w : World) : Calls Tryd.prog 24 #[.pointer none] w fun e w' => e = .returned (.string ⟨#[]⟩) ∧ w = w' := by
  go_enter Tryd.func24, Tryd.ntmps24
  go_wp2_with fail
  go_ret
  exact ⟨rfl, rfl⟩
theorem Rest_any (g : Nat) (s : ByteArray) (at_ : Nat) (w : World) (ha : at_ ≤ s.size) (_hs : s.size ≤ 140737488355328) (hr : RAt w g s at_) : Calls Tryd.prog 24 #[.pointer (some ⟨g, 0, none⟩)] w fun e w' => e = .returned (.string (s.extract at_ s.size)) ∧ ∃ n, w' = w.drewN n := by
  obtain ⟨h0, h1, h2⟩ := hr
  go_enter Tryd.func24, Tryd.ntmps24
  go_wp2_with fail
  go_quiet (fail)
  go_wp2_with fail
  go_ret
  exact ⟨rfl, _, rfl⟩
theorem keep_nil (d : Value) (w : World) : Calls Tryd.prog 44 #[.pointer none, d] w (SomeFault 1 (-1) w) := by
  go_enter Tryd.func44, Tryd.ntmps44
  go_wp2_with fail
  refine (fault_any _ _ _).mono ?_; rintro e w1 ⟨b, rfl, hF, hb⟩
  have HF := Lib.hid hF
  clear hF
  go_wp2_with fail
  go_ret
  exact ⟨b, rfl, HF.out, hb⟩
def DoIs (g : Nat) (s : ByteArray) (R : Nat → World → Prop) (e : Ending) (w' : World) : Prop := ∃ c : Nat, e = .returned (.int .i64 c) ∧ R c w' ∧ ∃ k, RAt w' g s k
def KeepIs (g : Nat) (at_ : Nat) (R : Nat → World → Prop) (e : Ending) (w' : World) : Prop :=
  (R 0 w' ∧ e = .returned .nilIface) ∨ ∃ c w1 b, c ≠ 0 ∧ R c w1 ∧ e = .returned (.iface 115 (.pointer (some ⟨b, 0, none⟩))) ∧ FaultAt w' b c at_ ∧ Below w1.heap.size (w1.setCell ⟨g, 1, none⟩ (.int .i64 (at_ : Int))) w'
set_option maxRecDepth 100000 in
theorem keep_any (F : FuncId) (caps : Array Value) (g : Nat) (s : ByteArray) (at_ : Nat) (w : World) (R : Nat → World → Prop) (hr : RAt w g s at_)
    (hcf : ∀ w, (callFunc F caps).run Tryd.prog w = .ok (.enter F caps) w) (hdo : Calls Tryd.prog F caps w (DoIs g s R)) :
    Calls Tryd.prog 44 #[.pointer (some ⟨g, 0, none⟩), .func (.func F) #[] caps] w (KeepIs g at_ R) := by
  have HD := Lib.hid hdo
  obtain ⟨h0, h1, h2⟩ := hr
  clear hdo
  go_enter Tryd.func44, Tryd.ntmps44
  go_wp2_with fail
  refine HD.out.mono ?_; rintro e w1 ⟨c, rfl, hR, k, hk⟩
  have HR := Lib.hid hR
  clear hR
  by_cases h0 : c = 0
  · subst h0
    go_wp2_with fail
    go_ret
    exact .inl ⟨HR.out, rfl⟩
  · have hc0 : ((c : Int) == 0) = false := beq_eq_false_iff_ne.2 (by omega)
    obtain ⟨k0, k1, k2⟩ := hk
    go_wp2_with fail
    refine (fault_any _ _ _).mono ?_; rintro e w2 ⟨b, rfl, hF, hb⟩
    have HF := Lib.hid hF
    clear hF
    go_wp2_with fail
    go_ret
    exact .inr ⟨c, w1, b, h0, HR.out, rfl, HF.out, by simpa using hb⟩
theorem enter45 (caps : Array Value) (w : World) : (callFunc 45 caps).run Tryd.prog w = .ok (.enter 45 caps) w := by kernel_rfl
end Go.Proofs.YtnfknbjdggkdpaaDoor
