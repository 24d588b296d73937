/-
  A word of eight bytes, in plain lists. No statement is proved here.
-/
import Derived.Test.YtnfknbjdggkdpaaDoorWordW
namespace Go.Proofs.YtnfknbjdggkdpaaDoor
open Go.RowKit
def beA : Nat → List UInt8 → Nat
  | n, [] => n
  | n, c :: l => beA (n * 256 + c.toNat) l
def beV (l : List UInt8) : Nat := beA 0 l
theorem beA_eq (l : List UInt8) : ∀ n, beA n l = n * 256 ^ l.length + beV l := by
  induction l with
  | nil => intro n; simp [beA, beV]
  | cons c l ih =>
    intro n
    have h1 : beV (c :: l) = beA (0 * 256 + c.toNat) l := rfl
    rw [beA, ih, h1, ih, List.length_cons, Nat.pow_succ, Nat.add_mul, Nat.add_mul, Nat.zero_mul, Nat.mul_assoc n, Nat.mul_comm 256]
    omega
theorem beV_cons (c : UInt8) (l : List UInt8) : beV (c :: l) = c.toNat * 256 ^ l.length + beV l := by
  have h1 : beV (c :: l) = beA (0 * 256 + c.toNat) l := rfl
  rw [h1, beA_eq]; simp
theorem beA_append (l m : List UInt8) : ∀ n, beA n (l ++ m) = beA (beA n l) m := by
  induction l with
  | nil => intro n; rfl
  | cons c l ih => intro n; exact ih _
theorem beV_snoc (l : List UInt8) (c : UInt8) : beV (l ++ [c]) = beV l * 256 + c.toNat := by rw [beV, beA_append]; rfl
theorem beV_lt (l : List UInt8) : beV l < 256 ^ l.length := by
  induction l with
  | nil => decide
  | cons c l ih =>
    rw [beV_cons, List.length_cons, Nat.pow_succ]
    have h1 : (c.toNat + 1) * 256 ^ l.length ≤ 256 * 256 ^ l.length := Nat.mul_le_mul_right _ c.toNat_lt
    rw [Nat.add_mul] at h1
    omega
theorem u8nat (x : Nat) : (UInt8.ofNat x).toNat = x % 256 := UInt8.toNat_ofNat'
theorem beV_be' (k : Nat) : ∀ x, beV (be x k) = x % 256 ^ k := by
  induction k with
  | zero => intro x; simp [be, beV, beA, Nat.mod_one]
  | succ k ih =>
    intro x
    rw [be, beV_cons, be_length, ih, u8nat, Nat.mod_pow_succ, Nat.mul_comm (256 ^ k), Nat.add_comm]
theorem beV_be (x k : Nat) (h : x < 256 ^ k) : beV (be x k) = x := by rw [beV_be', Nat.mod_eq_of_lt h]
end Go.Proofs.YtnfknbjdggkdpaaDoor
