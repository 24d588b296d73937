/-
  Records: what stands at the front of bytes, in plain lists. No statement is proved here.
-/
import Derived.Test.YthimmdaefmbcjaaDoorHeadW
namespace Go.Proofs.YthimmdaefmbcjaaDoor
open Go.RowKit
def beA : Nat → List UInt8 → Nat
  | n, [] => n
  | n, c :: l => beA (n * 256 + c.toNat) l
def beV (l : List UInt8) : Nat := beA 0 l
theorem beA_eq (l : List UInt8) : ∀ n, beA n l = n * 256 ^ l.length + beV l := by
  induction l with
  | nil => intro n; simp [beA, beV]
  | cons c l ih =>
    intro n
    have h1 : beV (c :: l) = beA (0 * 256 + c.toNat) l := rfl
    rw [beA, ih, h1, ih, List.length_cons, Nat.pow_succ, Nat.add_mul, Nat.add_mul, Nat.zero_mul, Nat.mul_assoc n, Nat.mul_comm 256]
    omega
theorem beV_cons (c : UInt8) (l : List UInt8) : beV (c :: l) = c.toNat * 256 ^ l.length + beV l := by
  have h1 : beV (c :: l) = beA (0 * 256 + c.toNat) l := rfl
  rw [h1, beA_eq]; simp
theorem beA_append (l m : List UInt8) : ∀ n, beA n (l ++ m) = beA (beA n l) m := by
  induction l with
  | nil => intro n; rfl
  | cons c l ih => intro n; exact ih _
theorem beV_snoc (l : List UInt8) (c : UInt8) : beV (l ++ [c]) = beV l * 256 + c.toNat := by rw [beV, beA_append]; rfl
theorem beV_lt (l : List UInt8) : beV l < 256 ^ l.length := by
  induction l with
  | nil => decide
  | cons c l ih =>
    rw [beV_cons, List.length_cons, Nat.pow_succ]
    have h1 : (c.toNat + 1) * 256 ^ l.length ≤ 256 * 256 ^ l.length := Nat.mul_le_mul_right _ c.toNat_lt
    rw [Nat.add_mul] at h1
    omega
theorem u8nat (x : Nat) : (UInt8.ofNat x).toNat = x % 256 := UInt8.toNat_ofNat'
theorem be_beV (l : List UInt8) : ∀ m, be (m * 256 ^ l.length + beV l) l.length = l := by
  induction l with
  | nil => intro m; rfl
  | cons c l ih =>
    intro m
    have hlt := beV_lt l
    have hp : 0 < 256 ^ l.length := Nat.pow_pos (by decide)
    rw [beV_cons, List.length_cons, be, Nat.pow_succ]
    have e : m * (256 ^ l.length * 256) + (c.toNat * 256 ^ l.length + beV l) = (m * 256 + c.toNat) * 256 ^ l.length + beV l := by
      rw [Nat.add_mul, Nat.mul_assoc m 256, Nat.mul_comm 256 (256 ^ l.length)]; omega
    rw [e, ih]
    congr 1
    have e2 : ((m * 256 + c.toNat) * 256 ^ l.length + beV l) / 256 ^ l.length = m * 256 + c.toNat := by
      rw [Nat.mul_comm, Nat.mul_add_div hp, Nat.div_eq_of_lt hlt, Nat.add_zero]
    rw [e2]
    apply UInt8.toNat_inj.1
    rw [u8nat]
    have := c.toNat_lt
    omega
theorem beV_be' (k : Nat) : ∀ x, beV (be x k) = x % 256 ^ k := by
  induction k with
  | zero => intro x; simp [be, beV, beA, Nat.mod_one]
  | succ k ih =>
    intro x
    rw [be, beV_cons, be_length, ih, u8nat, Nat.mod_pow_succ, Nat.mul_comm (256 ^ k), Nat.add_comm]
theorem beV_be (x k : Nat) (h : x < 256 ^ k) : beV (be x k) = x := by rw [beV_be', Nat.mod_eq_of_lt h]
/-- The length that bytes begin with. -/
def len4 (s : List UInt8) : Nat := beV (s.take 4)
def payL (s : List UInt8) : List UInt8 := (s.drop 12).take (len4 s)
open Classical in
/-- What keeps a record from standing at the front: 0: nothing. -/
noncomputable def frontC (s : List UInt8) : Nat :=
  if s.length < 12 then 40 else if 131072 < len4 s then 4 else if s.length - 12 < len4 s then 40 else if headL (payL s) = s.take 12 then 0 else 41
theorem len4_lt (s : List UInt8) : len4 s < 4294967296 := by
  have h1 := beV_lt (s.take 4)
  have h2 : (s.take 4).length ≤ 4 := List.length_take_le _ _
  have h3 : 256 ^ (s.take 4).length ≤ 256 ^ 4 := Nat.pow_le_pow_right (by decide) h2
  have h4 : (256 : Nat) ^ 4 = 4294967296 := by decide
  unfold len4
  omega
theorem payL_length (s : List UInt8) (h : len4 s ≤ s.length - 12) : (payL s).length = len4 s := by
  simp only [payL, List.length_take, List.length_drop]; omega
/-- At the front of a record and more bytes it stands. -/
theorem front_rec (p r : List UInt8) (hp : p.length ≤ 131072) : frontC (headL p ++ p ++ r) = 0 ∧ payL (headL p ++ p ++ r) = p := by
  have h12 := headL_length p
  have ht : (headL p ++ p ++ r).take 4 = be p.length 4 := by
    rw [List.append_assoc, headL, List.append_assoc, List.take_append_of_le_length (by rw [be_length]; omega), List.take_of_length_le (by rw [be_length]; omega)]
  have hl : len4 (headL p ++ p ++ r) = p.length := by
    rw [len4, ht, beV_be]
    have : (256 : Nat) ^ 4 = 4294967296 := by decide
    omega
  have hd : (headL p ++ p ++ r).drop 12 = p ++ r := by
    rw [List.append_assoc, ← h12, List.drop_left]
  have hpay : payL (headL p ++ p ++ r) = p := by
    rw [payL, hl, hd, List.take_left]
  refine ⟨?_, hpay⟩
  have hlen : (headL p ++ p ++ r).length = 12 + p.length + r.length := by simp [h12]; omega
  rw [frontC, if_neg (by omega), if_neg (by omega), if_neg (by omega), hpay, if_pos]
  rw [List.append_assoc, ← h12, List.take_left]
theorem front_short (s : List UInt8) (h : s.length < 12) : frontC s = 40 := by rw [frontC, if_pos h]
theorem set_split' (l : List UInt8) (k : Nat) (c : UInt8) (h : k < l.length) : l = l.take k ++ l[k] :: l.drop (k + 1) ∧ l.set k c = l.take k ++ c :: l.drop (k + 1) := by
  refine ⟨?_, List.set_eq_take_append_cons_drop.trans (by rw [if_pos h])⟩
  rw [← List.drop_eq_getElem_cons h, List.take_append_drop]
theorem be_inj (x y k : Nat) (hx : x < 256 ^ k) (hy : y < 256 ^ k) (h : be x k = be y k) : x = y := by
  rw [← beV_be x k hx, h, beV_be y k hy]
theorem rsum_lt (p : List UInt8) : rsum p < 256 ^ 8 := by
  have h := more_lt (more begin_ (be p.length 4)) p (more_lt _ _ begin_lt)
  have e : (256 : Nat) ^ 8 = 18446744073709551616 := by decide
  unfold rsum
  omega
/-- A record with one byte of its sum or its payload turned. -/
theorem front_spoilt (p : List UInt8) (hp : p.length ≤ 131072) (i : Nat) (x : UInt8) (h4 : 4 ≤ i) (hi : i < (headL p ++ p).length) (hx : (headL p ++ p)[i] ≠ x) :
    frontC ((headL p ++ p).set i x) = 41 := by
  have h12 := headL_length p
  have hlen : (headL p ++ p).length = 12 + p.length := by simp [h12]
  have ht4 : (headL p ++ p).take 4 = be p.length 4 := by
    rw [headL, List.append_assoc, List.take_append_of_le_length (by rw [be_length]; omega), List.take_of_length_le (by rw [be_length]; omega)]
  have ht : ((headL p ++ p).set i x).take 4 = be p.length 4 := by
    rw [List.take_set, ht4, List.set_eq_of_length_le (by rw [be_length]; exact h4)]
  have hl : len4 ((headL p ++ p).set i x) = p.length := by
    rw [len4, ht, beV_be]
    have : (256 : Nat) ^ 4 = 4294967296 := by decide
    omega
  have hd : (headL p ++ p).drop 12 = p := by rw [← h12, List.drop_left]
  have ht12 : (headL p ++ p).take 12 = headL p := by rw [← h12, List.take_left]
  have hsl : ((headL p ++ p).set i x).length = 12 + p.length := by rw [List.length_set, hlen]
  rw [frontC, if_neg (by omega), if_neg (by omega), if_neg (by omega), if_neg]
  intro he
  by_cases hc : i < 12
  · have hpay : payL ((headL p ++ p).set i x) = p := by
      rw [payL, hl, List.drop_set, if_pos hc, hd, List.take_of_length_le (Nat.le_refl _)]
    rw [hpay, List.take_set, ht12] at he
    have hb : i < (headL p).length := by omega
    have e1 : (headL p)[i] = x := by
      have : (headL p)[i] = ((headL p).set i x)[i]'(by rw [List.length_set]; exact hb) := by
        congr 1
      rw [this]; simp
    rw [List.getElem_append_left hb] at hx
    exact hx e1
  · have hk : i - 12 < p.length := by omega
    have hpay : payL ((headL p ++ p).set i x) = p.set (i - 12) x := by
      rw [payL, hl, List.drop_set, if_neg hc, hd, List.take_of_length_le (by rw [List.length_set]; exact Nat.le_refl _)]
    rw [hpay, List.take_set, ht12, List.set_eq_of_length_le (l := headL p) (by omega)] at he
    have hs : rsum (p.set (i - 12) x) = rsum p := by
      unfold headL at he
      rw [List.length_set] at he
      exact be_inj _ _ 8 (rsum_lt _) (rsum_lt _) (List.append_cancel_left he)
    obtain ⟨e1, e2⟩ := set_split' p (i - 12) x hk
    have hne : p[i - 12] ≠ x := by
      rw [List.getElem_append_right (by omega)] at hx
      simpa [h12] using hx
    have h5 := more_other (more begin_ (be p.length 4)) (more_lt _ _ begin_lt) (p.take (i - 12)) (p.drop (i - 12 + 1)) _ _ hne
    rw [← e1, ← e2] at h5
    unfold rsum at hs
    rw [List.length_set] at hs
    exact h5 hs.symm
end Go.Proofs.YthimmdaefmbcjaaDoor
