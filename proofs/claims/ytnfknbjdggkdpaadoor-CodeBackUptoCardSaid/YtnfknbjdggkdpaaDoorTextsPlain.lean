/-
  A reading of a list of texts, in plain lists. No statement is proved here.
-/
import Derived.Test.YtnfknbjdggkdpaaDoorRTextW
import Derived.Test.YtnfknbjdggkdpaaDoorOwnW2
namespace Go.Proofs.YtnfknbjdggkdpaaDoor
open Go.RowKit
def txtsG (M : Nat) : Nat → List UInt8 → List (List UInt8) × Nat × Nat
  | 0, _ => ([], 0, 0)
  | n + 1, l => if (txtR M l).2.1 ≠ 0 then ([], (txtR M l).2.1, 0) else
      ((txtR M l).1 :: (txtsG M n (l.drop (txtR M l).2.2)).1, (txtsG M n (l.drop (txtR M l).2.2)).2.1, (txtR M l).2.2 + (txtsG M n (l.drop (txtR M l).2.2)).2.2)
/-- What a reading of texts comes to. -/
def txtsR (most M : Nat) (l : List UInt8) : List (List UInt8) × Nat × Nat :=
  if (numR most l).2.1 ≠ 0 then ([], (numR most l).2.1, 0) else
    ((txtsG M (numR most l).1 (l.drop (numR most l).2.2)).1, (txtsG M (numR most l).1 (l.drop (numR most l).2.2)).2.1, (numR most l).2.2 + (txtsG M (numR most l).1 (l.drop (numR most l).2.2)).2.2)
theorem txtsG_lt (M n : Nat) : ∀ l, (txtsG M n l).2.1 < 100 := by
  induction n with
  | zero => intro l; simp [txtsG]
  | succ n ih =>
    intro l
    rw [txtsG]
    split
    · exact txtR_lt M l
    · exact ih _
theorem txtsR_lt (most M : Nat) (l : List UInt8) : (txtsR most M l).2.1 < 100 := by
  unfold txtsR
  split
  · exact (numR_len most l).2.2.2.1
  · exact txtsG_lt _ _ _
/-- How far a reading of x texts has come: the texts so far, where, how many are left; c: what is wrong. -/
def SoTexts (M x : Nat) (l0 : List UInt8) (ss : List (List UInt8)) (q n c : Nat) : Prop :=
  (c = 0 → (txtsG M x l0).2.1 = (txtsG M n (l0.drop q)).2.1 ∧ ((txtsG M n (l0.drop q)).2.1 = 0 → (txtsG M x l0).1 = ss ++ (txtsG M n (l0.drop q)).1 ∧ (txtsG M x l0).2.2 = q + (txtsG M n (l0.drop q)).2.2)) ∧
  (c ≠ 0 → (txtsG M x l0).2.1 = c)
theorem SoTexts.start (M x : Nat) (l0 : List UInt8) : SoTexts M x l0 [] 0 x 0 := by
  refine ⟨fun _ => ?_, fun h => absurd rfl h⟩
  rw [List.drop_zero]
  exact ⟨rfl, fun _ => ⟨rfl, by omega⟩⟩
theorem SoTexts.bad {M x n q : Nat} {l0 : List UInt8} {ss ss' : List (List UInt8)} (h : SoTexts M x l0 ss q (n + 1) 0) (hc : (txtR M (l0.drop q)).2.1 ≠ 0) (q' n' : Nat) : SoTexts M x l0 ss' q' n' (txtR M (l0.drop q)).2.1 := by
  refine ⟨fun h0 => absurd h0 hc, fun _ => ?_⟩
  have := (h.1 rfl).1
  rw [this, txtsG, if_pos hc]
theorem SoTexts.next {M x n q : Nat} {l0 : List UInt8} {ss : List (List UInt8)} (h : SoTexts M x l0 ss q (n + 1) 0) (hc : (txtR M (l0.drop q)).2.1 = 0) : SoTexts M x l0 (ss ++ [(txtR M (l0.drop q)).1]) (q + (txtR M (l0.drop q)).2.2) n 0 := by
  refine ⟨fun _ => ?_, fun h => absurd rfl h⟩
  obtain ⟨h1, h2⟩ := h.1 rfl
  rw [txtsG, if_neg (by omega)] at h1 h2
  rw [List.drop_drop] at h1 h2
  refine ⟨h1, fun h0 => ?_⟩
  obtain ⟨e1, e2⟩ := h2 h0
  exact ⟨by rw [e1]; simp, by rw [e2]; simp only; omega⟩
theorem SoTexts.end_ {M x q : Nat} {l0 : List UInt8} {ss : List (List UInt8)} (h : SoTexts M x l0 ss q 0 0) : txtsG M x l0 = (ss, 0, q) := by
  obtain ⟨h1, h2⟩ := h.1 rfl
  obtain ⟨e1, e2⟩ := h2 rfl
  rw [show txtsG M x l0 = ((txtsG M x l0).1, (txtsG M x l0).2.1, (txtsG M x l0).2.2) from rfl, e1, e2, h1]
  simp [txtsG]
end Go.Proofs.YtnfknbjdggkdpaaDoor
