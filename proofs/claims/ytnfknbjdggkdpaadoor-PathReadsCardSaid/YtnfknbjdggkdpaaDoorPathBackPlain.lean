/-
  Digits in order, in plain lists. No statement is proved here.
-/
import Derived.Test.YtnfknbjdggkdpaaDoorPathMakesW
namespace Go.Proofs.YtnfknbjdggkdpaaDoor
open Go.RowKit
theorem dval_bounds (l : List UInt8) : ∀ n v, dval n l = some v → n * 10 ^ l.length ≤ v ∧ v < (n + 1) * 10 ^ l.length := by
  induction l with
  | nil => intro n v h; rw [dval] at h; cases h; simp
  | cons c l ih =>
    intro n v h
    rw [dval] at h
    split at h
    · next hd =>
      obtain ⟨a, b⟩ := ih _ _ h
      have : 48 ≤ c.toNat ∧ c.toNat ≤ 57 := by simpa [isD] using hd
      rw [List.length_cons, Nat.pow_succ]
      generalize 10 ^ l.length = P at *
      constructor
      · refine Nat.le_trans ?_ a
        have : n * (P * 10) = (10 * n) * P := by rw [Nat.mul_comm P 10, ← Nat.mul_assoc, Nat.mul_comm n 10]
        rw [this]
        exact Nat.mul_le_mul_right _ (by omega)
      · refine Nat.lt_of_lt_of_le b ?_
        have : (n + 1) * (P * 10) = (10 * (n + 1)) * P := by rw [Nat.mul_comm P 10, ← Nat.mul_assoc, Nat.mul_comm (n + 1) 10]
        rw [this]
        exact Nat.mul_le_mul_right _ (by omega)
    · cases h
theorem digits_lt (l : List UInt8) : ∀ (m : List UInt8) (a x y : Nat), l.length = m.length → dval a l = some x → dval a m = some y → (l < m ↔ x < y) := by
  induction l with
  | nil =>
    intro m a x y hl hx hy
    obtain rfl : m = [] := List.eq_nil_of_length_eq_zero hl.symm
    rw [dval] at hx hy
    cases hx; cases hy
    simp
  | cons c l ih =>
    intro m a x y hl hx hy
    cases m with
    | nil => simp at hl
    | cons d m =>
      rw [dval] at hx hy
      split at hx
      · next hc =>
        split at hy
        · next hd =>
          have hc' : 48 ≤ c.toNat ∧ c.toNat ≤ 57 := by simpa [isD] using hc
          have hd' : 48 ≤ d.toNat ∧ d.toNat ≤ 57 := by simpa [isD] using hd
          have hl' : l.length = m.length := by simpa using hl
          rw [List.cons_lt_cons_iff]
          by_cases e : c = d
          · subst e
            have := ih m _ x y hl' hx hy
            have ho : ¬ c < c := UInt8.lt_irrefl _
            simp [ho, this]
          · have hne : c.toNat ≠ d.toNat := fun h => e (UInt8.toNat_inj.1 h)
            obtain ⟨x1, x2⟩ := dval_bounds _ _ _ hx
            obtain ⟨y1, y2⟩ := dval_bounds _ _ _ hy
            rw [hl'] at x1 x2
            generalize 10 ^ m.length = P at *
            have hcd : c < d ↔ c.toNat < d.toNat := UInt8.lt_iff_toNat_lt
            constructor
            · rintro (h | h)
              · rw [hcd] at h
                refine Nat.lt_of_lt_of_le x2 (Nat.le_trans (Nat.mul_le_mul_right _ ?_) y1)
                omega
              · exact absurd h.1 e
            · intro h
              refine .inl (hcd.2 ?_)
              refine Nat.lt_of_not_le fun hle => ?_
              have : y < x := Nat.lt_of_lt_of_le y2 (Nat.le_trans (Nat.mul_le_mul_right _ (by omega)) x1)
              omega
        · cases hy
      · cases hx
theorem logT_lt (n m : Nat) (hn : n ≤ 99999999) (hm : m ≤ 99999999) : logT n < logT m ↔ n < m := by
  have h1 : (pad8 n).length = 8 := pad8_len n hn
  have h2 : (pad8 m).length = 8 := pad8_len m hm
  have := digits_lt (pad8 n) (pad8 m) 0 n m (by rw [h1, h2]) (dval_pad8 n) (dval_pad8 m)
  rw [← this]
  show (108 :: 111 :: 103 :: 47 :: pad8 n : List UInt8) < 108 :: 111 :: 103 :: 47 :: pad8 m ↔ _
  simp only [List.cons_lt_cons_iff, UInt8.lt_irrefl, false_or, true_and]
end Go.Proofs.YtnfknbjdggkdpaaDoor
