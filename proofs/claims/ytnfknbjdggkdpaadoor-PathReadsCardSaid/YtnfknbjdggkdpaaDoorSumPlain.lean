import Derived.Laws.Bits64
import Derived.Below
namespace Go.Proofs.YtnfknbjdggkdpaaDoor
/-- There is a step (behind a choice, so that nothing lays it open by itself). -/
theorem mstep_is : ∃ f : Nat → UInt8 → Nat, ∀ n c, f n c = (n ^^^ c.toNat) * 1099511628211 % 18446744073709551616 := ⟨_, fun _ _ => rfl⟩
/-- One byte more. -/
noncomputable def mstep : Nat → UInt8 → Nat := Classical.choose mstep_is
theorem mstep_eq (n : Nat) (c : UInt8) : mstep n c = (n ^^^ c.toNat) * 1099511628211 % 18446744073709551616 := Classical.choose_spec mstep_is n c
noncomputable def more (n : Nat) (l : List UInt8) : Nat := l.foldl mstep n
def begin_ : Nat := 14695981039346656037
theorem begin_int : (14695981039346656037 : Int) = ((begin_ : Nat) : Int) := by unfold begin_; rfl
theorem begin_lt : begin_ < 18446744073709551616 := by unfold begin_; omega
theorem more_nil (n : Nat) : more n [] = n := rfl
theorem more_cons (n : Nat) (c : UInt8) (l : List UInt8) : more n (c :: l) = more (mstep n c) l := rfl
theorem more_append (n : Nat) (l m : List UInt8) : more n (l ++ m) = more (more n l) m := List.foldl_append
theorem more_snoc (n : Nat) (l : List UInt8) (c : UInt8) : more n (l ++ [c]) = mstep (more n l) c := more_append n l [c]
theorem mstep_lt (n : Nat) (c : UInt8) : mstep n c < 18446744073709551616 := by rw [mstep_eq]; exact Nat.mod_lt _ (by omega)
theorem more_lt (n : Nat) (l : List UInt8) (h : n < 18446744073709551616) : more n l < 18446744073709551616 := by
  induction l generalizing n with
  | nil => exact h
  | cons c l ih => exact ih _ (mstep_lt n c)
theorem wrap_byte (c : UInt8) : IntKind.u64.wrap (c.toNat : Int) = (c.toNat : Int) := by
  rw [IntKind.wrap_u64]; have := c.toNat_lt; omega
/-- The step as the walk spells it. -/
theorem mstep_walk (n : Nat) (c : UInt8) (h : n < 18446744073709551616) :
    IntKind.u64.wrap (bits .xor .u64 (n : Int) (IntKind.u64.wrap (c.toNat : Int)) * 1099511628211) = (mstep n c : Int) := by
  have := c.toNat_lt
  rw [wrap_byte, bits_xor_u64_nat n c.toNat h (by omega), IntKind.wrap_u64, mstep_eq]
  omega
theorem inv_ok : 1099511628211 * 14886173955864302971 % 18446744073709551616 = 1 := by decide +kernel
theorem key (x : Nat) (hx : x < 18446744073709551616) : x * 1099511628211 % 18446744073709551616 * 14886173955864302971 % 18446744073709551616 = x := by
  rw [Nat.mod_mul_mod, Nat.mul_assoc, Nat.mul_mod, inv_ok, Nat.mul_one, Nat.mod_mod, Nat.mod_eq_of_lt hx]
/-- Times an odd number is one to one. -/
theorem mul_inj (a b : Nat) (ha : a < 18446744073709551616) (hb : b < 18446744073709551616)
    (h : a * 1099511628211 % 18446744073709551616 = b * 1099511628211 % 18446744073709551616) : a = b := by
  rw [← key a ha, h, key b hb]
theorem mstep_inj (a b : Nat) (c : UInt8) (ha : a < 18446744073709551616) (hb : b < 18446744073709551616) (h : mstep a c = mstep b c) : a = b := by
  have hc := c.toNat_lt
  rw [mstep_eq, mstep_eq] at h
  have h1 := mul_inj _ _ (Nat.xor_lt_two_pow (n := 64) (by omega) (by omega)) (Nat.xor_lt_two_pow (n := 64) (by omega) (by omega)) h
  have h2 : (a ^^^ c.toNat) ^^^ c.toNat = (b ^^^ c.toNat) ^^^ c.toNat := by rw [h1]
  simpa [Nat.xor_assoc] using h2
theorem mstep_byte (a : Nat) (c d : UInt8) (ha : a < 18446744073709551616) (h : mstep a c = mstep a d) : c = d := by
  have hc := c.toNat_lt
  have hd := d.toNat_lt
  rw [mstep_eq, mstep_eq] at h
  have h1 := mul_inj _ _ (Nat.xor_lt_two_pow (n := 64) (by omega) (by omega)) (Nat.xor_lt_two_pow (n := 64) (by omega) (by omega)) h
  have h2 : a ^^^ (a ^^^ c.toNat) = a ^^^ (a ^^^ d.toNat) := by rw [h1]
  rw [← Nat.xor_assoc, ← Nat.xor_assoc, Nat.xor_self, Nat.zero_xor, Nat.zero_xor] at h2
  exact UInt8.toNat_inj.1 h2
theorem more_inj (l : List UInt8) : ∀ a b, a < 18446744073709551616 → b < 18446744073709551616 → more a l = more b l → a = b := by
  induction l with
  | nil => intro a b _ _ h; exact h
  | cons c l ih => intro a b ha hb h; exact mstep_inj a b c ha hb (ih _ _ (mstep_lt _ _) (mstep_lt _ _) h)
/-- One byte that is another one is noticed. -/
theorem more_other (n : Nat) (hn : n < 18446744073709551616) (l m : List UInt8) (c d : UInt8) (h : c ≠ d) : more n (l ++ c :: m) ≠ more n (l ++ d :: m) := by
  intro e
  rw [more_append, more_append] at e
  have h1 : mstep (more n l) c = mstep (more n l) d := more_inj m _ _ (mstep_lt _ _) (mstep_lt _ _) e
  exact h (mstep_byte _ _ _ (more_lt _ _ hn) h1)
theorem take_snoc (s : ByteArray) (k : Nat) (h : k < s.size) : s.data.toList.take (k + 1) = s.data.toList.take k ++ [s[k]] := by
  rw [List.take_succ_eq_append_getElem (by simpa using h)]; rfl

/-! ### hexadecimal texts -/
def hexd (d : Nat) : UInt8 := if d < 10 then UInt8.ofNat (48 + d) else UInt8.ofNat (87 + d)
/-- The digits of the lowest k places, the highest first. -/
def hexl (n : Nat) : Nat → List UInt8
  | 0 => []
  | k + 1 => hexd (n / 16 ^ k % 16) :: hexl n k
theorem hexl_length (n k : Nat) : (hexl n k).length = k := by
  induction k with
  | zero => rfl
  | succ k ih => simp [hexl, ih]
def u8s (l : List UInt8) : List Value := l.map fun c => .int .u8 (c.toNat : Int)
theorem u8s_length (l : List UInt8) : (u8s l).length = l.length := by simp [u8s]
/-- The sixteen cells when the lowest k places are written. -/
def textArr (n k : Nat) : Array Value := (List.replicate (16 - k) (Value.int .u8 0) ++ u8s (hexl n k)).toArray
theorem textArr_size (n k : Nat) (h : k ≤ 16) : (textArr n k).size = 16 := by simp [textArr, u8s_length, hexl_length]; omega
theorem textArr_at (n k : Nat) (h : k < 16) : (textArr n k)[15 - k]? = some (.int .u8 0) := by
  simp only [textArr, List.getElem?_toArray]
  rw [List.getElem?_append_left (by simp; omega), List.getElem?_replicate, if_pos (by omega)]
theorem textArr_set (n k : Nat) (h : k < 16) : (textArr n k).setIfInBounds (15 - k) (.int .u8 ((hexd (n / 16 ^ k % 16)).toNat : Int)) = textArr n (k + 1) := by
  have e : 16 - k = (15 - k) + 1 := by omega
  have e' : 16 - (k + 1) = 15 - k := by omega
  simp only [textArr, List.setIfInBounds_toArray]
  congr 1
  rw [e, e', List.set_append_left _ _ (by simp), List.replicate_succ', List.set_append_right _ _ (by simp)]
  simp [hexl, u8s]
theorem hexd_at (d : Nat) (h : d < 16) : ∀ h' : d < (ByteArray.mk #[48, 49, 50, 51, 52, 53, 54, 55, 56, 57, 97, 98, 99, 100, 101, 102]).size,
    ((ByteArray.mk #[48, 49, 50, 51, 52, 53, 54, 55, 56, 57, 97, 98, 99, 100, 101, 102])[d]'h').toNat = (hexd d).toNat := by
  intro h'
  have : ∀ d : Fin 16, ((ByteArray.mk #[48, 49, 50, 51, 52, 53, 54, 55, 56, 57, 97, 98, 99, 100, 101, 102])[d.1]'(by simp [ByteArray.size])).toNat = (hexd d.1).toNat := by decide +kernel
  exact this ⟨d, h⟩
theorem and15 (m : Nat) (h : m < 18446744073709551616) : bits .and .u64 (m : Int) 15 = ((m % 16 : Nat) : Int) := by
  have h1 : (BitVec.ofInt 64 (m : Int)).toNat = m := by
    rw [BitVec.ofInt_natCast, BitVec.toNat_ofNat]; exact Nat.mod_eq_of_lt (by omega)
  show IntKind.u64.wrap ((BitVec.ofInt 64 (m : Int) &&& BitVec.ofInt 64 15).toNat : Int) = _
  rw [BitVec.toNat_and, h1, IntKind.wrap_u64]
  have h2 : (BitVec.ofInt 64 15).toNat = 2 ^ 4 - 1 := by decide
  rw [h2, Nat.and_two_pow_sub_one_eq_mod]
  omega

theorem textArr_full (n : Nat) : textArr n 16 = (u8s (hexl n 16)).toArray := by simp [textArr]
theorem u8s_at (l : List UInt8) (j : Nat) (h : j < l.length) : (u8s l).toArray[j]? = some (.int .u8 (l[j].toNat : Int)) := by
  simp [u8s, List.getElem?_eq_getElem h]

/-! ### a hexadecimal text read -/
def dig (c : UInt8) : Option Nat := if 48 ≤ c.toNat ∧ c.toNat ≤ 57 then some (c.toNat - 48) else if 97 ≤ c.toNat ∧ c.toNat ≤ 102 then some (c.toNat - 87) else none
def rdf : Nat → List UInt8 → Option Nat
  | n, [] => some n
  | n, c :: l => match dig c with
    | none => none
    | some d => rdf (n * 16 + d) l
def hexRead (l : List UInt8) : Option Nat := if l.length = 16 then rdf 0 l else none
def hexVal (l : List UInt8) : Nat := (hexRead l).getD 0
def hexErr (l : List UInt8) : Int := if (hexRead l).isSome then 0 else 10
theorem rdf_some (n d : Nat) (c : UInt8) (l : List UInt8) (h : dig c = some d) : rdf n (c :: l) = rdf (n * 16 + d) l := by simp [rdf, h]
theorem rdf_none (n : Nat) (c : UInt8) (l : List UInt8) (h : dig c = none) : rdf n (c :: l) = none := by simp [rdf, h]
theorem dig_lt (c : UInt8) (d : Nat) (h : dig c = some d) : d < 16 := by
  unfold dig at h
  split at h
  · have := Option.some.inj h; omega
  · split at h
    · have := Option.some.inj h; omega
    · cases h
theorem hex_of_some (l : List UInt8) (n : Nat) (hl : l.length = 16) (h : rdf 0 l = some n) : hexVal l = n ∧ hexErr l = 0 := by
  simp [hexVal, hexErr, hexRead, hl, h]
theorem hex_of_none (l : List UInt8) (h : l.length ≠ 16 ∨ rdf 0 l = none) : hexVal l = 0 ∧ hexErr l = 10 := by
  by_cases hl : l.length = 16
  · rcases h with h | h
    · exact absurd hl h
    · simp [hexVal, hexErr, hexRead, hl, h]
  · simp [hexVal, hexErr, hexRead, hl]
theorem drop_cons (s : ByteArray) (k : Nat) (h : k < s.size) : s.data.toList.drop k = s[k] :: s.data.toList.drop (k + 1) := by
  rw [List.drop_eq_getElem_cons (by simpa using h)]; rfl
theorem or_low (n d : Nat) (hn : n * 16 < 18446744073709551616) (hd : d < 16) : bits .or .u64 ((n : Int) * 16) (d : Int) = ((n * 16 + d : Nat) : Int) := by
  have h1 : (BitVec.ofInt 64 ((n : Int) * 16)).toNat = n * 16 := by
    rw [show ((n : Int) * 16) = ((n * 16 : Nat) : Int) by omega, BitVec.ofInt_natCast, BitVec.toNat_ofNat]; exact Nat.mod_eq_of_lt (by omega)
  have h2 : (BitVec.ofInt 64 (d : Int)).toNat = d := by
    rw [BitVec.ofInt_natCast, BitVec.toNat_ofNat]; exact Nat.mod_eq_of_lt (by omega)
  show IntKind.u64.wrap ((BitVec.ofInt 64 ((n : Int) * 16) ||| BitVec.ofInt 64 (d : Int)).toNat : Int) = _
  rw [BitVec.toNat_or, h1, h2, IntKind.wrap_u64, Nat.mul_comm n 16]
  have h3 := Nat.two_pow_add_eq_or_of_lt (i := 4) (b := d) hd n
  rw [show (2 ^ 4 : Nat) = 16 from rfl] at h3
  rw [← h3]
  omega

theorem or_step (n d : Nat) (x : Int) (hx : x = (d : Int)) (hn : n < 16 ^ 15) (hd : d < 16) : bits .or .u64 (IntKind.u64.wrap ((n : Int) * 16)) x = ((n * 16 + d : Nat) : Int) := by
  have hn' : n * 16 < 18446744073709551616 := by
    have : (16 : Nat) ^ 15 = 1152921504606846976 := by decide
    omega
  rw [hx, show IntKind.u64.wrap ((n : Int) * 16) = (n : Int) * 16 by rw [IntKind.wrap_u64]; omega]
  exact or_low n d hn' hd
theorem pow_step (n d k : Nat) (hd : d < 16) (hn : n < 16 ^ k) : n * 16 + d < 16 ^ (k + 1) := by
  rw [Nat.pow_succ]; omega
theorem lt_15 (n k : Nat) (hk : k < 16) (hn : n < 16 ^ k) : n < 16 ^ 15 := Nat.lt_of_lt_of_le hn (Nat.pow_le_pow_right (by decide) (by omega))

theorem dig_hexd (d : Nat) (h : d < 16) : dig (hexd d) = some d := by
  have : ∀ d : Fin 16, dig (hexd d.1) = some d.1 := by decide +kernel
  exact this ⟨d, h⟩
theorem rdf_hexl (n k : Nat) : ∀ acc, rdf acc (hexl n k) = some (acc * 16 ^ k + n % 16 ^ k) := by
  induction k with
  | zero => intro acc; simp [rdf, hexl, Nat.mod_one]
  | succ k ih =>
    intro acc
    rw [hexl, rdf_some _ _ _ _ (dig_hexd _ (Nat.mod_lt _ (by decide))), ih, Nat.mod_pow_succ, Nat.add_mul, Nat.pow_succ]
    congr 1
    rw [Nat.mul_comm (n / 16 ^ k % 16), Nat.mul_assoc, Nat.mul_comm 16]
    omega
theorem hex_back (n : Nat) (h : n < 18446744073709551616) : hexVal (hexl n 16) = n ∧ hexErr (hexl n 16) = 0 := by
  refine hex_of_some _ _ (hexl_length _ _) ?_
  rw [rdf_hexl, Nat.zero_mul, Nat.zero_add, Nat.mod_eq_of_lt (by have : (16 : Nat) ^ 16 = 18446744073709551616 := by decide
                                                                 omega)]
end Go.Proofs.YtnfknbjdggkdpaaDoor
