/-
  A region that draws its order, whose operations only read and whose callees lay blocks of their own: walked once. No statement is proved here.
-/
import Derived.Test.YtbmlgnmilolamaaKit
import Derived.BigQuiet
namespace Go.Proofs.Ytbmlgnmilolamaa
open Go.RowKit
/-- A world in which all of w lies unturned. -/
structure BOf (w : World) where
  W : World
  h : Below w.heap.size w W
instance (w : World) : Inhabited (BOf w) := ⟨⟨w, Below.refl _ _⟩⟩
theorem wp_region_bof {P : Program} {id : Nat} {Q : Exit → Act → World → Prop} {a : Act} {w : World} {l : List Oper} (hm : P.follows .mixedOrders = true) (hB : Region.lexB .any l.toArray = true)
    (h : wpQuiet P l.toArray (fun w' => ∃ p : BOf w, w' = p.W) (fun a' => ∀ w', (∃ p : BOf w, w' = p.W) → Q .normal a' w') l a) : (Code.region id l.toArray true).wp P Q a w :=
  wp_region_quiet (C := fun w' => ∃ p : BOf w, w' = p.W) hm hB ⟨⟨_, below_drewN (Below.refl _ _) 1⟩, rfl⟩ (by simpa using h)
theorem bof_call {P : Program} {f : FuncId} {args : Array Value} {w : World} {p : BOf w} {v : Value} (h : Calls P f args p.W fun e w' => e = .returned v ∧ Below p.W.heap.size p.W w') :
    Calls P f args p.W fun e w'' => e = .returned v ∧ ∃ q : BOf w, w'' = q.W :=
  h.mono fun _ w'' ⟨he, hb⟩ => ⟨he, ⟨w'', p.h.trans (hb.mono p.h.size)⟩, rfl⟩
theorem bof_cell {w : World} {a : Addr} {v : Value} (h : w.cell? a = some v) (p : BOf w) : p.W.cell? a = some v := (p.h.cell (World.block_lt_of_cell? w _ h)).trans h
theorem bof_below {w w' : World} (h : ∃ p : BOf w, w' = p.W) : Below w.heap.size w w' := by
  obtain ⟨p, rfl⟩ := h
  exact p.h
end Go.Proofs.Ytbmlgnmilolamaa
