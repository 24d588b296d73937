/-
  The law's 'told' and 'is' at nil and at a fault. No statement is proved here.
-/
import Derived.Test.YtnfknbjdggkdpaaDoorErrText
import Derived.Test.YtnfknbjdggkdpaaDoorErrAs
namespace Go.Proofs.YtnfknbjdggkdpaaDoor
open Go.RowKit Go.Lib
/-- The variable that errors.As reads. -/
def Handle (w : World) : Prop := w.cell? ⟨0, 0, none⟩ = some (.iface 149 (.agg #[.pointer (some ⟨5, 32, none⟩)]))
theorem Handle.below {w w' : World} (h : Handle w) (hb : Below w.heap.size w w') : Handle w' := (hb.cell (p := ⟨0, 0, none⟩) (World.block_lt_of_cell? w _ h)).trans h
def AsGives (b : Nat) (t : Addr) (w : World) (e : Ending) (w' : World) : Prop := e = .returned (.bool true) ∧ w'.cell? t = some (.pointer (some ⟨b, 0, none⟩)) ∧ w.grownBy w' (some t.block)
theorem As_gives (b : Nat) (t : Addr) (old : Value) (w : World) (hg : Handle w) (ht0 : w.cell? t = some old) (hf0 : w.frozen? t = false) :
    Calls Tryd.prog 74 #[.iface 115 (.pointer (some ⟨b, 0, none⟩)), .iface 117 (.pointer (some t))] w (AsGives b t w) := by
  have hlt := World.block_lt_of_cell? w _ ht0
  refine (as_hit ⟨b, 0, none⟩ t old w hg ht0 hf0).mono ?_
  rintro e w' ⟨rfl, rfl⟩
  refine ⟨rfl, ?_, ?_⟩
  · rw [World.cell?_setCell_same (u := old)]
    rw [World.cell?_alloc_lt _ _ t (by simp; omega), World.cell?_alloc_lt _ _ t (by simp; omega), World.cell?_alloc_lt _ _ t (by simp; omega), World.cell?_alloc_lt _ _ t hlt]
    exact ht0
  · refine ⟨rfl, rfl, rfl, by simp [World.setCell]; omega, fun k hk hne => ?_⟩
    rw [Below.heap_setCell _ _ _ _ (fun e => hne (by rw [e]))]
    rw [Below.heap_alloc _ _ _ (by simp; omega), Below.heap_alloc _ _ _ (by simp; omega), Below.heap_alloc _ _ _ (by simp; omega), Below.heap_alloc _ _ _ hk]
theorem err_nilAhead (a : Addr) (w : World) : (nilAhead 313 115 (.pointer (some a)) "Error").run Tryd.prog w = .ok (some false) w := by kernel_rfl
theorem err_method (a : Addr) (w : World) : (Go.method 313 115 (.pointer (some a)) "Error").run Tryd.prog w = .ok (143, .pointer (some a)) w := by kernel_rfl
def ToldIs (c : Int) (at_ : Int) (w : World) (e : Ending) (w' : World) : Prop := e = .returned (.tuple #[.int .i64 c, .string ⟨#[]⟩, .int .i64 at_]) ∧ Below w.heap.size w w'
set_option maxHeartbeats 4000000 in
theorem told_fault (b : Nat) (c : Nat) (at_ : Int) (hc : c < 100) (ha : at_ ≤ 9223372036854775807) (w : World) (h : FaultAt w b c at_) (hT : TabAny w) (hH : Handle w) :
    Calls Tryd.prog 49 #[.iface 115 (.pointer (some ⟨b, 0, none⟩))] w (ToldIs c at_ w) := by
  have HF := Lib.hid h
  have HT := Lib.hid hT
  have HH := Lib.hid hH
  have HL := Lib.hid (World.block_lt_of_cell? w _ h.1)
  clear h hT hH
  have hB0 : Below w.heap.size w (w.alloc (.cells #[.pointer none] 115)) := (Below.refl _ _).alloc (Nat.le_refl _) _
  go_enter Tryd.func49, Tryd.ntmps49
  go_wp2_with fail
  refine (As_gives b ⟨w.heap.size, 0, none⟩ (.pointer none) _ (HH.out.below hB0) (by simp) (by simp)).mono ?_; rintro e w1 ⟨rfl, ht, hg⟩
  have hB1 : Below w.heap.size w w1 := hB0.grown hg (by simp) (fun k hk => by have := Option.some.inj hk; simp at this; omega)
  have hF1 : FaultAt w1 b c at_ := HF.out.below hB1
  have HF1 := Lib.hid hF1
  obtain ⟨g0, g1, g2, g3⟩ := hF1
  go_wp2_with fail
  refine (Is_fault b c at_ _ HF1.out).mono ?_; rintro e w2 ⟨rfl, hB2⟩
  have hT2 : w2.cell? ⟨w.heap.size, 0, none⟩ = some (.pointer (some ⟨b, 0, none⟩)) := (hB2.cell (p := ⟨w.heap.size, 0, none⟩) (World.block_lt_of_cell? w1 _ ht)).trans ht
  have hB3 : Below w.heap.size w w2 := hB1.trans (hB2.mono hB1.size)
  have HF2 := Lib.hid (HF1.out.below hB2)
  clear g0 g1 g2 g3 ht
  have hna := err_nilAhead
  have hme := err_method
  go_wp2_with fail
  refine (error_text b c at_ hc ha _ HF2.out (HT.out.below hB3)).mono ?_; rintro e w3 ⟨s, hs1, hs2, rfl, hB4⟩
  have hT3 : w3.cell? ⟨w.heap.size, 0, none⟩ = some (.pointer (some ⟨b, 0, none⟩)) := (hB4.cell (p := ⟨w.heap.size, 0, none⟩) (World.block_lt_of_cell? w2 _ hT2)).trans hT2
  have hB5 : Below w.heap.size w w3 := hB3.trans (hB4.mono hB3.size)
  obtain ⟨g0, g1, g2, g3⟩ := HF2.out.below hB4
  clear hT2
  have hem : s.toList.isEmpty = false := by
    rw [ByteArray.toList_eq]
    cases hl : s.data.toList with
    | nil =>
      have := ba_len s
      rw [hl] at this
      simp at this
      omega
    | cons _ _ => rfl
  go_wp2_with fail
  go_quiet (fail)
  go_wp2_with fail
  go_ret3
  exact ⟨rfl, below_drewN hB5 _⟩
theorem told_nil (w : World) : Calls Tryd.prog 49 #[.nilIface] w fun e w' => e = .returned (.tuple #[.int .i64 0, .string ⟨#[]⟩, .int .i64 (-1)]) ∧ w = w' := by
  go_enter Tryd.func49, Tryd.ntmps49
  go_wp2_with fail
  go_ret3
  exact ⟨rfl, rfl⟩
theorem is_nil (s : ByteArray) (at_ : Int) (w : World) : Calls Tryd.prog 22 #[.nilIface, .int .i64 0, .string s, .int .i64 at_] w fun e w' => e = .returned (.bool true) ∧ w = w' := by
  go_enter Tryd.func22, Tryd.ntmps22
  go_wp2_with fail
  go_ret
  exact ⟨rfl, rfl⟩
set_option maxHeartbeats 1000000 in
theorem is_err (b : Nat) (c : Nat) (at_ : Int) (hc0 : c ≠ 0) (hc : c < 100) (ha : at_ ≤ 9223372036854775807) (w : World) (h : FaultAt w b c at_) (hT : TabAny w) (hH : Handle w) :
    Calls Tryd.prog 22 #[.iface 115 (.pointer (some ⟨b, 0, none⟩)), .int .i64 c, .string ⟨#[]⟩, .int .i64 at_] w fun e w' => e = .returned (.bool true) ∧ Below w.heap.size w w' := by
  have h1 : ((c : Int) == 0) = false := beq_eq_false_iff_ne.2 (by omega)
  have HC := Lib.hid (told_fault b c at_ hc ha w h hT hH)
  clear h hT hH hc0
  go_enter Tryd.func22, Tryd.ntmps22
  go_wp2_with fail
  refine HC.out.mono ?_; rintro e w' ⟨rfl, hb⟩
  go_wp2_with fail
  go_ret
  exact ⟨rfl, hb⟩
end Go.Proofs.YtnfknbjdggkdpaaDoor
