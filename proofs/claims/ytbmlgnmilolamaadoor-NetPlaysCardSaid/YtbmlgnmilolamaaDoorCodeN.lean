/-
  The law's 'code' at nil and at a fault. No statement is proved here.
-/
import Derived.Test.YtbmlgnmilolamaaDoorErrAs
import Derived.Test.YtbmlgnmilolamaaDoorErrIs
import Derived.Test.YtbmlgnmilolamaaDoorLivesW
namespace Go.Proofs.YtbmlgnmilolamaaDoor
open Go.RowKit Go.Lib
/-- The variable that errors.As reads. -/
def Handle (w : World) : Prop := w.cell? ⟨0, 0, none⟩ = some (.iface 107 (.agg #[.pointer (some ⟨1, 24, none⟩)]))
theorem Handle.below {w w' : World} (h : Handle w) (hb : Below w.heap.size w w') : Handle w' := (hb.cell (p := ⟨0, 0, none⟩) (World.block_lt_of_cell? w _ h)).trans h
def AsGives (b : Nat) (t : Addr) (w : World) (e : Ending) (w' : World) : Prop := e = .returned (.bool true) ∧ w'.cell? t = some (.pointer (some ⟨b, 0, none⟩)) ∧ w.grownBy w' (some t.block)
theorem As_gives (b : Nat) (t : Addr) (old : Value) (w : World) (hg : Handle w) (ht0 : w.cell? t = some old) (hf0 : w.frozen? t = false) :
    Calls Tryd.prog 29 #[.iface 69 (.pointer (some ⟨b, 0, none⟩)), .iface 71 (.pointer (some t))] w (AsGives b t w) := by
  have hlt := World.block_lt_of_cell? w _ ht0
  refine (as_hit ⟨b, 0, none⟩ t old w hg ht0 hf0).mono ?_
  rintro e w' ⟨rfl, rfl⟩
  refine ⟨rfl, ?_, ?_⟩
  · rw [World.cell?_setCell_same (u := old)]
    rw [World.cell?_alloc_lt _ _ t (by simp; omega), World.cell?_alloc_lt _ _ t (by simp; omega), World.cell?_alloc_lt _ _ t (by simp; omega), World.cell?_alloc_lt _ _ t hlt]
    exact ht0
  · refine ⟨rfl, rfl, rfl, by simp [World.setCell]; omega, fun k hk hne => ?_⟩
    rw [Below.heap_setCell _ _ _ _ (fun e => hne (by rw [e]))]
    rw [Below.heap_alloc _ _ _ (by simp; omega), Below.heap_alloc _ _ _ (by simp; omega), Below.heap_alloc _ _ _ (by simp; omega), Below.heap_alloc _ _ _ hk]
def CodeIs (c : Int) (at_ : Int) (w : World) (e : Ending) (w' : World) : Prop := e = .returned (.tuple #[.int .i64 c, .int .i64 at_]) ∧ Below w.heap.size w w'
theorem code_nil (w : World) : Calls Tryd.prog 8 #[.nilIface] w (CodeIs 0 (-1) w) := by
  go_enter Tryd.func8, Tryd.ntmps8
  go_wp2_with fail
  go_ret2
  exact ⟨rfl, Below.refl _ _⟩
set_option maxHeartbeats 4000000 in
set_option maxRecDepth 100000 in
theorem code_fault (b : Nat) (c at_ : Int) (w : World) (h0 : FltAt w b c at_) (hH : Handle w) :
    Calls Tryd.prog 8 #[.iface 69 (.pointer (some ⟨b, 0, none⟩))] w (CodeIs c at_ w) := by
  have h : FaultAt w b c at_ := h0
  have HF := Lib.hid h
  have HH := Lib.hid hH
  have HL := Lib.hid (World.block_lt_of_cell? w _ h.1)
  clear h h0 hH
  have hB0 : Below w.heap.size w (w.alloc (.cells #[.pointer none] 69)) := (Below.refl _ _).alloc (Nat.le_refl _) _
  go_enter Tryd.func8, Tryd.ntmps8
  go_wp2_with fail
  refine (As_gives b ⟨w.heap.size, 0, none⟩ (.pointer none) _ (HH.out.below hB0) (by simp) (by simp)).mono ?_; rintro e w1 ⟨rfl, ht, hg⟩
  have hB1 : Below w.heap.size w w1 := hB0.grown hg (by simp) (fun k hk => by have := Option.some.inj hk; simp at this; omega)
  have hF1 : FaultAt w1 b c at_ := HF.out.below hB1
  have HF1 := Lib.hid hF1
  obtain ⟨g0, g1, g2, g3⟩ := hF1
  go_wp2_with fail
  refine (Is_fault b c at_ _ HF1.out).mono ?_; rintro e w2 ⟨rfl, hB2⟩
  have hT2 : w2.cell? ⟨w.heap.size, 0, none⟩ = some (.pointer (some ⟨b, 0, none⟩)) := (hB2.cell (p := ⟨w.heap.size, 0, none⟩) (World.block_lt_of_cell? w1 _ ht)).trans ht
  have hB3 : Below w.heap.size w w2 := hB1.trans (hB2.mono hB1.size)
  have HF2 := Lib.hid (HF1.out.below hB2)
  clear g0 g1 g2 g3 ht
  obtain ⟨g0, g1, g2, g3⟩ := HF2.out
  go_wp2_with fail
  go_quiet (fail)
  go_wp2_with fail
  go_ret2
  exact ⟨rfl, below_drewN hB3 _⟩
end Go.Proofs.YtbmlgnmilolamaaDoor
