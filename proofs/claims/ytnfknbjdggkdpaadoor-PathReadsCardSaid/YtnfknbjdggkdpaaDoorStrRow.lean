/-
  A slice of texts that is read. No statement is proved here.
-/
import Derived.Test.YtnfknbjdggkdpaaDoorKit
namespace Go.Proofs.YtnfknbjdggkdpaaDoor
open Go.RowKit
/-- A slice of texts that is read. -/
def StrRow (w : World) (a : Option Addr) (len : Nat) (ss : List ByteArray) : Prop :=
  ss.length = len ∧ len ≤ maxLen ∧ (∀ s ∈ ss, s.size ≤ maxLen) ∧ (0 < len → ∃ b off, a = some ⟨b, off, none⟩ ∧ ∀ i, i < len → w.cell? ⟨b, off + i, none⟩ = some (.string (ss.getD i ByteArray.empty)))
theorem StrRow.below {w w' : World} {a : Option Addr} {len : Nat} {ss : List ByteArray} (h : StrRow w a len ss) (hb : Below w.heap.size w w') : StrRow w' a len ss := by
  obtain ⟨h1, h2, h3, h4⟩ := h
  refine ⟨h1, h2, h3, fun hl => ?_⟩
  obtain ⟨b, off, e, hc⟩ := h4 hl
  exact ⟨b, off, e, fun i hi => (hb.cell (p := ⟨b, off + i, none⟩) (World.block_lt_of_cell? w _ (hc i hi))).trans (hc i hi)⟩

theorem StrRow.item {w : World} {a : Option Addr} {len : Nat} {ss : List ByteArray} (h : StrRow w a len ss) (k : Nat) (hk : k < len) :
    ∃ b off x, a = some ⟨b, off, none⟩ ∧ w.cell? ⟨b, off + k, none⟩ = some (.string x) ∧ Hid (ss[k]? = some x) ∧ Hid (x.size ≤ maxLen) := by
  obtain ⟨h1, _, h3, h4⟩ := h
  obtain ⟨b, off, e, hc⟩ := h4 (by omega)
  have hx := List.getElem?_eq_getElem (l := ss) (i := k) (by omega)
  refine ⟨b, off, ss[k], e, ?_, hx, h3 _ (List.mem_of_getElem? hx)⟩
  rw [hc k hk, List.getD_eq_getElem?_getD, hx, Option.getD_some]
end Go.Proofs.YtnfknbjdggkdpaaDoor
