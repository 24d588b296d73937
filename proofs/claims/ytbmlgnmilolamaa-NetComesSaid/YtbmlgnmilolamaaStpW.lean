/-
  A list of steps; a step in a block of its own. No statement is proved here.
-/
import Derived.Test.YtbmlgnmilolamaaMineW
namespace Go.Proofs.Ytbmlgnmilolamaa
open Go.RowKit
theorem FaRow.at {w : World} {a : Option Addr} {len : Nat} {fs : List FaI} (h : FaRow w a len fs) {j : Nat} (hj : j < len) : ∃ b off f, a = some ⟨b, off, none⟩ ∧ fs[j]? = some f ∧ w.cell? ⟨b, off + j * 3, none⟩ = some (.bool f.1) ∧ w.cell? ⟨b, off + j * 3 + 1, none⟩ = some (.int .i64 f.2.1) ∧ w.cell? ⟨b, off + j * 3 + 2, none⟩ = some (.int .i64 f.2.2) := by
  obtain ⟨h1, h2⟩ := h
  obtain ⟨b, off, rfl, h3⟩ := h2 (by omega)
  have hf : fs[j]? = some (fs[j]'(by omega)) := List.getElem?_eq_getElem _
  exact ⟨b, off, _, rfl, hf, h3 j _ hf⟩
/-- A step of the script. -/
abbrev Stp := Int × Int × Int × ByteArray
def StpRow (w : World) (a : Option Addr) (len : Nat) (ss : List Stp) : Prop :=
  ss.length = len ∧ (∀ s ∈ ss, s.2.2.2.size ≤ 140737488355328) ∧ (0 < len → ∃ b off, a = some ⟨b, off, none⟩ ∧ ∀ i s, ss[i]? = some s → w.cell? ⟨b, off + i * 4, none⟩ = some (.int .i64 s.1) ∧ w.cell? ⟨b, off + i * 4 + 1, none⟩ = some (.int .i64 s.2.1) ∧ w.cell? ⟨b, off + i * 4 + 2, none⟩ = some (.int .i64 s.2.2.1) ∧ w.cell? ⟨b, off + i * 4 + 3, none⟩ = some (.string s.2.2.2))
theorem StpRow.below {w w' : World} {a : Option Addr} {len : Nat} {ss : List Stp} (h : StpRow w a len ss) (hb : Below w.heap.size w w') : StpRow w' a len ss := by
  obtain ⟨h1, h0, h2⟩ := h
  refine ⟨h1, h0, fun hl => ?_⟩
  obtain ⟨b, off, e, hc⟩ := h2 hl
  refine ⟨b, off, e, fun i s hi => ?_⟩
  obtain ⟨c0, c1, c2, c3⟩ := hc i s hi
  have hlt := World.block_lt_of_cell? w _ c0
  have key : ∀ o, w'.cell? ⟨b, o, none⟩ = w.cell? ⟨b, o, none⟩ := fun o => hb.cell (p := ⟨b, o, none⟩) hlt
  exact ⟨(key _).trans c0, (key _).trans c1, (key _).trans c2, (key _).trans c3⟩
theorem StpRow.at {w : World} {a : Option Addr} {len : Nat} {ss : List Stp} (h : StpRow w a len ss) {j : Nat} (hj : j < len) : ∃ b off d x y s, a = some ⟨b, off, none⟩ ∧ s.size ≤ 140737488355328 ∧ w.cell? ⟨b, off + j * 4, none⟩ = some (.int .i64 d) ∧ w.cell? ⟨b, off + j * 4 + 1, none⟩ = some (.int .i64 x) ∧ w.cell? ⟨b, off + j * 4 + 2, none⟩ = some (.int .i64 y) ∧ w.cell? ⟨b, off + j * 4 + 3, none⟩ = some (.string s) := by
  obtain ⟨h1, h0, h2⟩ := h
  obtain ⟨b, off, rfl, h3⟩ := h2 (by omega)
  have hs : ss[j]? = some (ss[j]'(by omega)) := List.getElem?_eq_getElem _
  exact ⟨b, off, _, _, _, _, rfl, h0 _ (List.mem_of_getElem? hs), h3 j _ hs⟩
/-- The step in a block of its own. -/
def StpAt (w : World) (t : Nat) (d x y : Int) (s : ByteArray) : Prop := w.heap[t]? = some (.cells #[.int .i64 d, .int .i64 x, .int .i64 y, .string s] 42 (0, 0))
theorem StpAt.kept {w w' : World} {t : Nat} {d x y : Int} {s : ByteArray} (h : StpAt w t d x y s) (k : Kept w w') : StpAt w' t d x y s := k _ _ _ _ h (by decide) (by decide)
theorem StpAt.below {w w' : World} {t : Nat} {d x y : Int} {s : ByteArray} (h : StpAt w t d x y s) (k : Below w.heap.size w w') : StpAt w' t d x y s := h.kept (Kept.of_below k)
theorem StpAt.get {w : World} {t : Nat} {d x y : Int} {s : ByteArray} (h : StpAt w t d x y s) : w.cell? ⟨t, 0, none⟩ = some (.int .i64 d) ∧ w.cell? ⟨t, 1, none⟩ = some (.int .i64 x) ∧ w.cell? ⟨t, 2, none⟩ = some (.int .i64 y) ∧ w.cell? ⟨t, 3, none⟩ = some (.string s) :=
  ⟨by rw [cell_of_row w t 0 _ _ _ h]; rfl, by rw [cell_of_row w t 1 _ _ _ h]; rfl, by rw [cell_of_row w t 2 _ _ _ h]; rfl, by rw [cell_of_row w t 3 _ _ _ h]; rfl⟩
end Go.Proofs.Ytbmlgnmilolamaa
