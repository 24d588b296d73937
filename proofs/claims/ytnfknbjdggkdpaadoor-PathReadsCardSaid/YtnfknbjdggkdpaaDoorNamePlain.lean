/-
  Names in one form, in plain lists. No statement is proved here.
-/
import Derived.Test.YtnfknbjdggkdpaaDoorKit
namespace Go.Proofs.YtnfknbjdggkdpaaDoor
open Go.RowKit
/-- A letter or a digit. -/
def lett (c : UInt8) : Bool := decide ((97 ≤ c.toNat ∧ c.toNat ≤ 122) ∨ (65 ≤ c.toNat ∧ c.toNat ≤ 90) ∨ (48 ≤ c.toNat ∧ c.toNat ≤ 57))
def sig (c : UInt8) : Bool := decide (c.toNat = 45 ∨ c.toNat = 95 ∨ c.toNat = 46)
/-- The small form of a letter. -/
def low (c : UInt8) : UInt8 := if 65 ≤ c.toNat ∧ c.toNat ≤ 90 then UInt8.ofNat (c.toNat + 32) else c
/-- The program's walk: which kind came last (2: a separator), what there is. -/
def fm : List UInt8 → Nat → List UInt8 → Option (List UInt8 × Nat)
  | [], last, acc => some (acc, last)
  | c :: l, last, acc => if lett c then fm l 1 ((if last = 2 ∧ acc ≠ [] then acc ++ [45] else acc) ++ [low c]) else if sig c ∧ acc ≠ [] then fm l 2 acc else none
/-- The document's walk. -/
def rf : List UInt8 → Bool → List UInt8 → List UInt8
  | [], _, out => out
  | c :: l, run, out => if lett c then rf l false ((if run then out ++ [45] else out) ++ [low c]) else rf l true out
def okc (c : UInt8) : Bool := lett c || sig c
def lastOf : List UInt8 → UInt8 → UInt8
  | [], d => d
  | c :: l, _ => lastOf l c
/-- May a raw name be? -/
def mayN (l : List UInt8) : Bool := decide (1 ≤ l.length ∧ l.length ≤ 64) && lett (l.headD 0) && lett (lastOf l 0) && l.all okc
/-- The one form; false: there is none. -/
def normN (l : List UInt8) : Option (List UInt8) := if mayN l then some (rf l false []) else none
theorem lett_sig (c : UInt8) (h : lett c = true) : sig c = false := by
  unfold lett at h
  unfold sig
  rw [decide_eq_true_iff] at h
  rw [decide_eq_false_iff_not]
  omega
theorem fm_rf (l : List UInt8) : ∀ last acc, acc ≠ [] → (last = 1 ∨ last = 2) →
    fm l last acc = if l.all okc then some (rf l (last == 2) acc, if l = [] then last else if lett (lastOf l 0) then 1 else 2) else none := by
  induction l with
  | nil => intro last acc _ _; simp [fm, rf]
  | cons c l ih =>
    intro last acc ha hl
    rw [fm, rf, List.all_cons]
    by_cases h : lett c
    · have ho : okc c = true := by simp [okc, h]
      rw [if_pos h, if_pos h, ih 1 _ (by simp) (.inl rfl), ho, Bool.true_and]
      have e1 : ((1 : Nat) == 2) = false := rfl
      rw [e1]
      have e2 : (if last = 2 ∧ acc ≠ [] then acc ++ [45] else acc) = (if (last == 2) = true then acc ++ [45] else acc) := by
        rcases hl with rfl | rfl
        · simp
        · simp [ha]
      rw [e2]
      by_cases hal : l.all okc
      · rw [if_pos hal, if_pos hal]
        congr 2
        cases l with
        | nil => simp [h, lastOf]
        | cons d l =>
          have n1 : ¬ d :: l = [] := by simp
          have n2 : ¬ c :: d :: l = [] := by simp
          rw [if_neg n1, if_neg n2]
          rfl
      · rw [if_neg hal, if_neg hal]
    · rw [if_neg h, if_neg h]
      by_cases hs : sig c
      · have ho : okc c = true := by simp [okc, hs]
        rw [if_pos ⟨hs, ha⟩, ih 2 _ ha (.inr rfl), ho, Bool.true_and]
        have e1 : ((2 : Nat) == 2) = true := rfl
        rw [e1]
        by_cases hal : l.all okc
        · rw [if_pos hal, if_pos hal]
          congr 2
          cases l with
          | nil => simp [h, lastOf]
          | cons d l =>
          have n1 : ¬ d :: l = [] := by simp
          have n2 : ¬ c :: d :: l = [] := by simp
          rw [if_neg n1, if_neg n2]
          rfl
        · rw [if_neg hal, if_neg hal]
      · have ho : okc c = false := by simp [okc, h, hs]
        rw [if_neg (fun x => hs x.1), ho]
        simp
/-- What the program's form comes to. -/
def formR (l : List UInt8) : List UInt8 × Bool :=
  if l.length < 1 ∨ 64 < l.length then ([], false) else match fm l 2 [] with
    | none => ([], false)
    | some (acc, last) => (acc, last == 1)
theorem formR_norm (l : List UInt8) : (formR l).2 = (normN l).isSome ∧ ∀ x, normN l = some x → (formR l).1 = x := by
  unfold formR normN mayN
  by_cases h : l.length < 1 ∨ 64 < l.length
  · rw [if_pos h]
    have e : decide (1 ≤ l.length ∧ l.length ≤ 64) = false := decide_eq_false (by omega)
    simp [e]
  · rw [if_neg h]
    have e : decide (1 ≤ l.length ∧ l.length ≤ 64) = true := decide_eq_true (by omega)
    rw [e, Bool.true_and]
    cases l with
    | nil => simp at h
    | cons c l =>
      rw [fm]
      by_cases hc : lett c
      · have ho : okc c = true := by simp [okc, hc]
        rw [if_pos hc]
        simp only [List.headD_cons, hc, Bool.true_and, List.all_cons, ho]
        rw [fm_rf l 1 _ (by simp) (.inl rfl)]
        have e1 : ((1 : Nat) == 2) = false := rfl
        have hrf : rf (c :: l) false [] = rf l false [low c] := by rw [rf, if_pos hc]; simp
        rw [e1, hrf]
        by_cases hal : l.all okc
        · rw [if_pos hal, hal, Bool.and_true]
          simp only [ne_eq, not_true_eq_false, and_false, if_false, List.nil_append]
          cases l with
          | nil => simp [hc, lastOf]
          | cons d l =>
            by_cases hd : lett (lastOf l d)
            · simp [lastOf, hd]
            · simp [lastOf, hd]
        · rw [if_neg hal]
          have : l.all okc = false := by simpa using hal
          simp [this]
      · rw [if_neg hc, if_neg (by simp)]
        simp [hc]
/-- Is it a name in its one form? -/
def isN (l : List UInt8) : Bool := decide (normN l = some l)
end Go.Proofs.YtnfknbjdggkdpaaDoor
