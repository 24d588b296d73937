/-
  Numbers and texts as bytes, in plain lists. No statement is proved here.
-/
import Derived.Test.YtnfknbjdggkdpaaDoorKit
import Derived.Laws.BitsAllLaws
namespace Go.Proofs.YtnfknbjdggkdpaaDoor
open Go.RowKit
/-- A number as bytes, seven bits each, the lowest first. -/
def uintG : Nat → Nat → List UInt8
  | 0, x => [UInt8.ofNat x]
  | f + 1, x => if x < 128 then [UInt8.ofNat x] else UInt8.ofNat (x % 128 + 128) :: uintG f (x / 128)
def uintL (x : Nat) : List UInt8 := uintG 9 x
theorem uintG_small (f x : Nat) (h : x < 128) : uintG f x = [UInt8.ofNat x] := by
  cases f with
  | zero => rfl
  | succ f => rw [uintG, if_pos h]
theorem uintG_big (f x : Nat) (h : ¬ x < 128) : uintG (f + 1) x = UInt8.ofNat (x % 128 + 128) :: uintG f (x / 128) := by rw [uintG, if_neg h]
theorem uintG_length (f : Nat) : ∀ x, (uintG f x).length ≤ f + 1 ∧ 0 < (uintG f x).length := by
  induction f with
  | zero => intro x; simp [uintG]
  | succ f ih =>
    intro x
    rw [uintG]
    split
    · simp
    · have := ih (x / 128)
      simp only [List.length_cons]
      omega
theorem uintL_length (x : Nat) : (uintL x).length ≤ 10 ∧ 0 < (uintL x).length := uintG_length 9 x
/-- What a reading of a number comes to: the number, what is wrong (0: nothing), how many bytes. -/
def numG : Nat → Nat → List UInt8 → Nat × Nat × Nat
  | n, _, [] => (0, if n = 10 then 21 else 20, n)
  | n, x, b :: l => if n = 10 then (0, 21, n) else if n = 9 ∧ 1 < b.toNat then (0, 21, n + 1) else
      if 128 ≤ b.toNat then numG (n + 1) (x + (b.toNat - 128) * 128 ^ n) l else
      if b.toNat = 0 ∧ 0 < n then (0, 21, n + 1) else (x + b.toNat * 128 ^ n, 0, n + 1)
def numR (most : Nat) (l : List UInt8) : Nat × Nat × Nat := if (numG 0 0 l).2.1 = 0 ∧ most < (numG 0 0 l).1 then (0, 22, (numG 0 0 l).2.2) else numG 0 0 l
theorem numG_len (l : List UInt8) : ∀ n x, n ≤ 10 → n ≤ (numG n x l).2.2 ∧ (numG n x l).2.2 ≤ 10 ∧ (numG n x l).2.2 ≤ n + l.length ∧ ((numG n x l).2.1 ≠ 0 → (numG n x l).1 = 0) ∧ ((numG n x l).2.1 = 0 → n < (numG n x l).2.2) ∧ (numG n x l).2.1 < 100 := by
  induction l with
  | nil =>
    intro n x h
    simp only [numG]
    split <;> simp <;> omega
  | cons b l ih =>
    intro n x h
    rw [numG]
    split
    · simp; omega
    · split
      · simp; omega
      · split
        · have := ih (n + 1) (x + (b.toNat - 128) * 128 ^ n) (by omega)
          simp only [List.length_cons]
          omega
        · split <;> simp <;> omega
theorem numR_len (most : Nat) (l : List UInt8) : (numR most l).2.2 ≤ l.length ∧ (numR most l).2.2 ≤ 10 ∧ ((numR most l).2.1 ≠ 0 → (numR most l).1 = 0) ∧ (numR most l).2.1 < 100 ∧ ((numR most l).2.1 = 0 → 0 < (numR most l).2.2) := by
  have h := numG_len l 0 0 (by omega)
  unfold numR
  split
  · simp; omega
  · exact ⟨by omega, by omega, h.2.2.2.1, h.2.2.2.2.2, h.2.2.2.2.1⟩
/-- What was read is below 2^64. -/
theorem numG_lt (l : List UInt8) : ∀ n x, n ≤ 10 → x < 128 ^ n → x < 2 ^ 64 → (numG n x l).1 < 2 ^ 64 := by
  induction l with
  | nil => intro n x _ _ _; simp [numG]
  | cons b l ih =>
    intro n x hn hx h64
    rw [numG]
    have hb := b.toNat_lt
    split
    · simp
    · rename_i h10
      split
      · simp
      · rename_i h9
        have key : ∀ y, y < 128 → (n = 9 → y ≤ 1) → x + y * 128 ^ n < 128 ^ (n + 1) ∧ x + y * 128 ^ n < 2 ^ 64 := by
          intro y hy h91
          have h1 : (y + 1) * 128 ^ n ≤ 128 * 128 ^ n := Nat.mul_le_mul_right _ hy
          have h3 : (128 : Nat) ^ (n + 1) = 128 * 128 ^ n := by rw [Nat.pow_succ, Nat.mul_comm]
          rw [Nat.add_mul, Nat.one_mul] at h1
          refine ⟨by omega, ?_⟩
          by_cases hn9 : n = 9
          · subst hn9
            have h2 : y * 128 ^ 9 ≤ 1 * 128 ^ 9 := Nat.mul_le_mul_right _ (h91 rfl)
            have h4 : (128 : Nat) ^ 9 = 2 ^ 63 := by decide
            omega
          · have h4 : (128 : Nat) ^ (n + 1) ≤ 128 ^ 9 := Nat.pow_le_pow_right (by decide) (by omega)
            have h5 : (128 : Nat) ^ 9 = 2 ^ 63 := by decide
            omega
        split
        · have hk := key (b.toNat - 128) (by omega) (by intro e; omega)
          exact ih (n + 1) _ (by omega) hk.1 hk.2
        · split
          · simp
          · exact (key b.toNat (by omega) (by intro e; omega)).2
theorem numR_lt (most : Nat) (l : List UInt8) : (numR most l).1 < 2 ^ 64 := by
  have h := numG_lt l 0 0 (by omega) (by simp) (by decide)
  unfold numR
  split
  · simp
  · exact h
end Go.Proofs.YtnfknbjdggkdpaaDoor
