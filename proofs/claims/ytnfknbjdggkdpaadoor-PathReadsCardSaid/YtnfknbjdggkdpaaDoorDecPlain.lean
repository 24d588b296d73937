/-
  Decimal digits and the names of files, in plain lists. No statement is proved here.
-/
import Derived.Test.YtnfknbjdggkdpaaDoorNumW
import Derived.Test.YtnfknbjdggkdpaaDoorSumPlain
import Derived.Test.YtnfknbjdggkdpaaDoorNamePlain
namespace Go.Proofs.YtnfknbjdggkdpaaDoor
open Go.RowKit
def isD (c : UInt8) : Bool := decide (48 ≤ c.toNat ∧ c.toNat ≤ 57)
/-- The number that digits say, behind a number. -/
def dval : Nat → List UInt8 → Option Nat
  | n, [] => some n
  | n, c :: l => if isD c then dval (10 * n + (c.toNat - 48)) l else none
/-- The number that a text of digits says; 0: it is none. -/
def valD (l : List UInt8) : Nat := (dval 0 l).getD 0
theorem dval_append (l m : List UInt8) : ∀ n, dval n (l ++ m) = (dval n l).bind fun v => dval v m := by
  induction l with
  | nil => intro n; rfl
  | cons c l ih =>
    intro n
    rw [List.cons_append, dval, dval]
    split
    · exact ih _
    · rfl
theorem isD_digit (d : Nat) (h : d < 10) : isD (UInt8.ofNat (48 + d)) = true ∧ (UInt8.ofNat (48 + d)).toNat - 48 = d := by
  have e : (UInt8.ofNat (48 + d)).toNat = 48 + d := by rw [UInt8.toNat_ofNat']; omega
  unfold isD
  rw [e]
  exact ⟨decide_eq_true (by omega), by omega⟩
theorem dval_digit (n d : Nat) (h : d < 10) : dval n [UInt8.ofNat (48 + d)] = some (10 * n + d) := by
  obtain ⟨h1, h2⟩ := isD_digit d h
  rw [dval, if_pos h1, h2, dval]
theorem dval_dec (u : Nat) : dval 0 (Lib.decDigits u) = some u := by
  induction u using Nat.strongRecOn with
  | _ u ih =>
    by_cases h : u < 10
    · rw [Lib.decDigits_one h, dval_digit 0 u h]; simp
    · rw [dec_step u h, dval_append, ih (u / 10) (by omega)]
      simp only [Option.bind_some]
      rw [dval_digit _ _ (Nat.mod_lt _ (by decide))]
      congr 1
      omega
theorem dval_zeros (k : Nat) (l : List UInt8) : dval 0 (List.replicate k 48 ++ l) = dval 0 l := by
  induction k with
  | zero => rfl
  | succ k ih =>
    rw [List.replicate_succ, List.cons_append, dval]
    exact ih
/-- Eight digits. -/
def pad8 (n : Nat) : List UInt8 := List.replicate (8 - (Lib.decDigits n).length) 48 ++ Lib.decDigits n
theorem dval_pad8 (n : Nat) : dval 0 (pad8 n) = some n := by rw [pad8, dval_zeros, dval_dec]
theorem nDigits_le (k : Nat) : ∀ u, u < 10 ^ (k + 1) → Lib.nDigits u ≤ k + 1 := by
  induction k with
  | zero => intro u h; rw [Lib.nDigits_small (by simpa using h)]; exact Nat.le_refl _
  | succ k ih =>
    intro u h
    by_cases h10 : u < 10
    · rw [Lib.nDigits_small h10]; omega
    · rw [Lib.nDigits_big h10]
      rw [Nat.pow_succ] at h
      have := ih (u / 10) (by omega)
      omega
theorem dec_len (k u : Nat) (h : u < 10 ^ (k + 1)) : (Lib.decDigits u).length ≤ k + 1 := by rw [Lib.decDigits_length]; exact nDigits_le k u h
theorem pad8_len (n : Nat) (h : n ≤ 99999999) : (pad8 n).length = 8 := by
  have := dec_len 7 n (by omega)
  rw [pad8, List.length_append, List.length_replicate]
  omega
def logH : List UInt8 := [108, 111, 103, 47]
def stageH : List UInt8 := [115, 116, 97, 103, 101, 47]
def blobH : List UInt8 := [98, 108, 111, 98, 47]
def pageH : List UInt8 := [112, 97, 103, 101, 47]
def logT (n : Nat) : List UInt8 := logH ++ pad8 n
def stageT (n : Nat) : List UInt8 := stageH ++ Lib.decDigits n
def blobT (s n : Nat) : List UInt8 := blobH ++ (hexl s 16 ++ (45 :: Lib.decDigits n))
def pageT (l : List UInt8) : List UInt8 := pageH ++ l
/-- The program's reading of a number. -/
def numP : Nat → List UInt8 → Nat
  | n, [] => n
  | n, c :: l => if isD c = true ∧ n ≤ 1099511627776 then numP (10 * n + (c.toNat - 48)) l else 0
theorem dval_mono (l : List UInt8) : ∀ n v, dval n l = some v → n ≤ v := by
  induction l with
  | nil => intro n v h; injection h with h; omega
  | cons c l ih =>
    intro n v h
    rw [dval] at h
    split at h
    · have := ih _ _ h; omega
    · cases h
theorem numP_val (l : List UInt8) : ∀ n, n ≤ 10995116277769 → (dval n l = none → numP n l = 0) ∧ (∀ v, dval n l = some v → numP n l = v ∨ (numP n l = 0 ∧ 1099511627776 < v)) ∧ numP n l ≤ 10995116277769 := by
  induction l with
  | nil => intro n hn; exact ⟨(fun h => by cases h), fun v h => .inl (Option.some.inj h), hn⟩
  | cons c l ih =>
    intro n hn
    rw [dval, numP]
    by_cases h : isD c
    · rw [if_pos h]
      by_cases hb : n ≤ 1099511627776
      · rw [if_pos ⟨h, hb⟩]
        unfold isD at h
        rw [decide_eq_true_iff] at h
        exact ih _ (by omega)
      · rw [if_neg (fun x => hb x.2)]
        refine ⟨fun _ => rfl, fun v hv => .inr ⟨rfl, ?_⟩, by omega⟩
        have := dval_mono _ _ _ hv
        omega
    · rw [if_neg h, if_neg (fun x => h x.1)]
      exact ⟨fun _ => rfl, (fun v hv => by cases hv), by omega⟩
/-- The document's. -/
def numR' (l : List UInt8) : Int := if l = [] ∨ 10 < l.length then -1 else match dval 0 l with
  | none => -1
  | some v => v
end Go.Proofs.YtnfknbjdggkdpaaDoor
