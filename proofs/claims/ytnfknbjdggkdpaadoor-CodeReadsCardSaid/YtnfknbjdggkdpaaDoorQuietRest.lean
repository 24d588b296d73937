/-
  A region that draws its order: a beginning in one order, then operations that only read: the rest walked once. No statement is proved here.
-/
import Derived.Test.YtnfknbjdggkdpaaDoorKit
import Derived.Deep.RegionWith
namespace Go.Proofs.YtnfknbjdggkdpaaDoor
open Go.RowKit
theorem wpAny_quiet_rest {P : Program} {l : List Oper} {Q : Exit → Act → World → Prop} {fuel : Nat} (k : Nat) {listed : Array Bool} {a : Act} {w : World} (hf : fuel = (l.drop k).length) (hs : Region.noSelect l.toArray = true) (hB : Region.lexFrom .any l.toArray (l.drop k).length k listed = true)
    (h : wpQuiet P l.toArray (fun w' => ∃ n, w' = w.drewN n) (fun a' => ∀ w', (∃ n, w' = w.drewN n) → Q .normal a' w') (l.drop k) a) : wpAny P .any l.toArray Q fuel listed a w := by
  subst hf
  exact wpAny_of_quiet (C := fun w' => ∃ n, w' = w.drewN n) (Q := fun a' => ∀ w', (∃ n, w' = w.drewN n) → Q .normal a' w') (fun _ w' hw' h => h w' hw') _ _ _ _ ⟨0, rfl⟩ (wpAnyQ_lex hs (l.drop k) k listed a (fun j => by simp [List.getElem?_drop]) hB h)
end Go.Proofs.YtnfknbjdggkdpaaDoor
