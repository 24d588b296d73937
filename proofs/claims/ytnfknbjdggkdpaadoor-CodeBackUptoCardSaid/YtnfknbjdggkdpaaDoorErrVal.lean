/-
  An error of a number and a place, or nil; what 'is' says of it. No statement is proved here.
-/
import Derived.Test.YtnfknbjdggkdpaaDoorTold
namespace Go.Proofs.YtnfknbjdggkdpaaDoor
open Go.RowKit
def ErrVal (w : World) (E : Value) (c : Nat) (at_ : Int) : Prop :=
  (c = 0 ∧ E = .nilIface) ∨ (c ≠ 0 ∧ c < 100 ∧ ∃ b, E = .iface 115 (.pointer (some ⟨b, 0, none⟩)) ∧ FaultAt w b c at_)
theorem FaultAt.but {w w' : World} {b : Nat} {c at_ : Int} {g : Nat} {s : Value} (h : FaultAt w b c at_) (hs : w.cell? ⟨g, 0, none⟩ = some s) (hn : ∀ k : Int, s ≠ .int .i64 k) (hg : w.grownBy w' (some g)) : FaultAt w' b c at_ := by
  have hne : b ≠ g := by
    intro e
    subst e
    exact hn _ (Option.some.inj (hs.symm.trans h.1))
  have hb := hg.block b (World.block_lt_of_cell? w _ h.1) (by simpa using hne)
  obtain ⟨h1, h2, h3, h4⟩ := h
  exact ⟨(World.cell?_of_block (a := ⟨b, 0, none⟩) hb).trans h1, (World.cell?_of_block (a := ⟨b, 1, none⟩) hb).trans h2, (World.cell?_of_block (a := ⟨b, 2, none⟩) hb).trans h3, (World.cell?_of_block (a := ⟨b, 3, none⟩) hb).trans h4⟩
theorem ErrVal.below {w w' : World} {E : Value} {c : Nat} {at_ : Int} (h : ErrVal w E c at_) (hb : Below w.heap.size w w') : ErrVal w' E c at_ := by
  rcases h with h | ⟨h1, h2, b, h3, h4⟩
  · exact .inl h
  · exact .inr ⟨h1, h2, b, h3, h4.below hb⟩
theorem is_errVal (E : Value) (c : Nat) (at_ : Int) (w : World) (h : ErrVal w E c at_) (ha : at_ ≤ 9223372036854775807) (hT : TabAny w) (hH : Handle w) :
    Calls Tryd.prog 22 #[E, .int .i64 c, .string ⟨#[]⟩, .int .i64 at_] w fun e w' => e = .returned (.bool true) ∧ Below w.heap.size w w' := by
  rcases h with ⟨rfl, rfl⟩ | ⟨h1, h2, b, rfl, h4⟩
  · refine (is_nil ⟨#[]⟩ at_ w).mono ?_
    rintro e w' ⟨rfl, rfl⟩
    exact ⟨rfl, Below.refl _ _⟩
  · exact is_err b c at_ h1 h2 ha w h4 hT hH
end Go.Proofs.YtnfknbjdggkdpaaDoor
