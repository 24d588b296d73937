/-
  What is written is read, and what is read is written: numbers, texts, lists, in plain lists. No statement is proved here.
-/
import Derived.Test.YtnfknbjdggkdpaaDoorTextsPlain
import Derived.Test.YtnfknbjdggkdpaaDoorCodeTextW
namespace Go.Proofs.YtnfknbjdggkdpaaDoor
open Go.RowKit
theorem numG_back (l : List UInt8) : ∀ n x, n ≤ 9 → (numG n x l).2.1 = 0 →
    ∃ z j, (numG n x l).1 = x + z * 128 ^ n ∧ (numG n x l).2.2 = n + j ∧ uintG (9 - n) z = l.take j ∧ (0 < n → 0 < z) := by
  induction l with
  | nil =>
    intro n x hn h
    simp only [numG] at h
    split at h <;> cases h
  | cons b l ih =>
    intro n x hn h
    have hb := b.toNat_lt
    rw [numG, if_neg (by omega)] at h ⊢
    by_cases h9 : n = 9 ∧ 1 < b.toNat
    · rw [if_pos h9] at h; cases h
    · rw [if_neg h9] at h ⊢
      by_cases h128 : 128 ≤ b.toNat
      · rw [if_pos h128] at h ⊢
        have hn8 : n ≤ 8 := by
          have : n ≠ 9 := fun e => h9 ⟨e, by omega⟩
          omega
        obtain ⟨z, j, h1, h2, h3, h4⟩ := ih (n + 1) (x + (b.toNat - 128) * 128 ^ n) (by omega) h
        have hz := h4 (by omega)
        refine ⟨(b.toNat - 128) + 128 * z, j + 1, ?_, by omega, ?_, by omega⟩
        · rw [h1, Nat.pow_succ, Nat.add_mul]
          have : z * (128 ^ n * 128) = 128 * z * 128 ^ n := by rw [Nat.mul_comm 128 z, Nat.mul_assoc, Nat.mul_comm (128 ^ n)]
          omega
        · obtain ⟨f, hf⟩ : ∃ f, 9 - n = f + 1 := ⟨8 - n, by omega⟩
          rw [hf, uintG_big f _ (by omega), List.take_succ_cons]
          rw [show 9 - (n + 1) = f by omega] at h3
          rw [show ((b.toNat - 128) + 128 * z) / 128 = z by omega, h3, show ((b.toNat - 128) + 128 * z) % 128 + 128 = b.toNat by omega, UInt8.ofNat_toNat]
      · rw [if_neg h128] at h ⊢
        by_cases hz : b.toNat = 0 ∧ 0 < n
        · rw [if_pos hz] at h; cases h
        · rw [if_neg hz] at h ⊢
          refine ⟨b.toNat, 1, rfl, rfl, ?_, by omega⟩
          rw [uintG_small _ _ (by omega), UInt8.ofNat_toNat]
          simp
theorem numR_back (most : Nat) (l : List UInt8) (h : (numR most l).2.1 = 0) : uintL (numR most l).1 = l.take (numR most l).2.2 := by
  unfold numR at h ⊢
  split at h
  · cases h
  · rename_i hn
    rw [if_neg hn]
    obtain ⟨z, j, h1, h2, h3, _⟩ := numG_back l 0 0 (by omega) h
    rw [h1, h2, uintL]
    simpa using h3
theorem numG_read (f : Nat) : ∀ n x z r, n + f = 9 → z < 128 ^ (f + 1) → (n = 9 → z ≤ 1) → x + z * 128 ^ n < 18446744073709551616 → (0 < n → 0 < z) →
    numG n x (uintG f z ++ r) = (x + z * 128 ^ n, 0, n + (uintG f z).length) := by
  induction f with
  | zero =>
    intro n x z r hn hz h9 hlt h0
    obtain rfl : n = 9 := by omega
    have hz1 := h9 rfl
    have hzn : (UInt8.ofNat z).toNat = z := by rw [UInt8.toNat_ofNat']; omega
    rw [uintG, List.singleton_append, numG, hzn, if_neg (by omega), if_neg (by omega), if_neg (by omega), if_neg (by omega)]
    rfl
  | succ f ih =>
    intro n x z r hn hz h9 hlt h0
    by_cases h128 : z < 128
    · have hzn : (UInt8.ofNat z).toNat = z := by rw [UInt8.toNat_ofNat']; omega
      rw [uintG_small _ _ h128, List.singleton_append, numG, hzn, if_neg (by omega), if_neg (by omega), if_neg (by omega), if_neg (by omega)]
      rfl
    · have hzn : (UInt8.ofNat (z % 128 + 128)).toNat = z % 128 + 128 := by rw [UInt8.toNat_ofNat']; omega
      have e : x + (z % 128) * 128 ^ n + z / 128 * 128 ^ (n + 1) = x + z * 128 ^ n := by
        have h1 : z / 128 * 128 ^ (n + 1) = (128 * (z / 128)) * 128 ^ n := by rw [Nat.pow_succ, Nat.mul_comm 128 (z / 128), Nat.mul_assoc, Nat.mul_comm (128 ^ n)]
        have h2 : z * 128 ^ n = (z % 128) * 128 ^ n + (128 * (z / 128)) * 128 ^ n := by rw [← Nat.add_mul, Nat.mod_add_div]
        omega
      rw [uintG_big f z h128, List.cons_append, numG, hzn, if_neg (by omega), if_neg (by omega), if_pos (by omega), show z % 128 + 128 - 128 = z % 128 by omega,
        ih (n + 1) _ (z / 128) r (by omega) (by rw [Nat.pow_succ] at hz; exact Nat.div_lt_of_lt_mul (by rw [Nat.mul_comm]; exact hz)) ?_ (by rw [e]; exact hlt) (by omega), e, List.length_cons]
      · congr 2
        omega
      · intro e9
        have h9' : (128 : Nat) ^ 9 = 9223372036854775808 := by decide
        have hn8 : n + 1 = 9 := e9
        rw [hn8, h9'] at e
        have := Nat.mul_le_mul_right 9223372036854775808 (show z / 128 ≤ z / 128 from Nat.le_refl _)
        omega
theorem numR_read (most x : Nat) (r : List UInt8) (h : x ≤ most) (hx : x < 18446744073709551616) : numR most (uintL x ++ r) = (x, 0, (uintL x).length) := by
  have h1 := numG_read 9 0 0 x r rfl (Nat.lt_trans hx (by decide)) (by omega) (by omega) (by omega)
  rw [Nat.pow_zero, Nat.mul_one, Nat.zero_add, Nat.zero_add] at h1
  unfold numR
  rw [show uintL x = uintG 9 x from rfl, h1]
  simp only
  rw [if_neg (by omega)]
theorem txtR_back (M : Nat) (l : List UInt8) (h : (txtR M l).2.1 = 0) : textL (txtR M l).1 = l.take (txtR M l).2.2 := by
  have hn := numR_len M l
  have hb := numR_back M l
  unfold txtR at h ⊢
  split at h
  · contradiction
  · rename_i h0
    rw [if_neg h0]
    split at h
    · cases h
    · rename_i h1
      rw [if_neg h1]
      have h2 := hb (by omega)
      have hl : ((l.drop (numR M l).2.2).take (numR M l).1).length = (numR M l).1 := by rw [List.length_take, List.length_drop]; omega
      simp only
      rw [textL, hl, h2, List.take_add]
theorem txtR_read (M : Nat) (s r : List UInt8) (h : s.length ≤ M) (hM : M < 18446744073709551616) : txtR M (textL s ++ r) = (s, 0, (textL s).length) := by
  have h1 := numR_read M s.length (s ++ r) h (by omega)
  have e : textL s ++ r = uintL s.length ++ (s ++ r) := by rw [textL, List.append_assoc]
  unfold txtR
  rw [e, h1]
  simp only
  rw [if_neg (by simp), if_neg (by simp), List.drop_left, List.take_left, textL, List.length_append]
theorem txtsG_back (M : Nat) (n : Nat) : ∀ l, (txtsG M n l).2.1 = 0 → (txtsG M n l).1.length = n ∧ (txtsG M n l).1.flatMap textL = l.take (txtsG M n l).2.2 := by
  induction n with
  | zero => intro l _; simp [txtsG]
  | succ n ih =>
    intro l h
    rw [txtsG] at h ⊢
    split at h
    · contradiction
    · rename_i h0
      rw [if_neg h0]
      have hb := txtR_back M l (by omega)
      obtain ⟨h1, h2⟩ := ih _ h
      refine ⟨by simp only [List.length_cons]; omega, ?_⟩
      simp only [List.flatMap_cons]
      rw [hb, h2, List.take_add]
theorem txtsR_back (most M : Nat) (l : List UInt8) (h : (txtsR most M l).2.1 = 0) : textsL (txtsR most M l).1 = l.take (txtsR most M l).2.2 := by
  have hb := numR_back most l
  unfold txtsR at h ⊢
  split at h
  · contradiction
  · rename_i h0
    rw [if_neg h0]
    obtain ⟨h1, h2⟩ := txtsG_back M _ _ h
    simp only
    rw [textsL, h1, h2, hb (by omega), List.take_add]
theorem txtsG_read (M : Nat) (ts : List (List UInt8)) (r : List UInt8) (h : ∀ t ∈ ts, t.length ≤ M) (hM : M < 18446744073709551616) : txtsG M ts.length (ts.flatMap textL ++ r) = (ts, 0, (ts.flatMap textL).length) := by
  induction ts with
  | nil => simp [txtsG]
  | cons t ts ih =>
    have h1 := txtR_read M t (ts.flatMap textL ++ r) (h t (by simp)) hM
    have e : (t :: ts).flatMap textL ++ r = textL t ++ (ts.flatMap textL ++ r) := by rw [List.flatMap_cons, List.append_assoc]
    rw [e, List.length_cons, txtsG, h1]
    simp only
    rw [if_neg (by simp), List.drop_left, ih (fun x hx => h x (by simp [hx]))]
    simp only [List.flatMap_cons, List.length_append]
theorem txtsR_read (most M : Nat) (ts : List (List UInt8)) (r : List UInt8) (hn : ts.length ≤ most) (hm : most < 18446744073709551616) (h : ∀ t ∈ ts, t.length ≤ M) (hM : M < 18446744073709551616) : txtsR most M (textsL ts ++ r) = (ts, 0, (textsL ts).length) := by
  have h1 := numR_read most ts.length (ts.flatMap textL ++ r) hn (by omega)
  have e : textsL ts ++ r = uintL ts.length ++ (ts.flatMap textL ++ r) := by rw [textsL, List.append_assoc]
  unfold txtsR
  rw [e, h1]
  simp only
  rw [if_neg (by simp), List.drop_left, txtsG_read M ts r h hM, textsL, List.length_append]
end Go.Proofs.YtnfknbjdggkdpaaDoor
