/-
  code.Uint and the reference's: the same bytes. No statement is proved here.
-/
import Derived.Test.YtnfknbjdggkdpaaDoorCodePlain
import Derived.Test.YtnfknbjdggkdpaaDoorBtsW
namespace Go.Proofs.YtnfknbjdggkdpaaDoor
open Go.RowKit
set_option maxRecDepth 100000 in
theorem or128 (x : Nat) : bits .or .u8 ((x : Int) % 256) 128 = ((x % 128 + 128 : Nat) : Int) := by
  have h1 : (BitVec.ofInt 8 ((x : Int) % 256)).toNat = x % 256 := by
    rw [show ((x : Int) % 256) = ((x % 256 : Nat) : Int) by omega, BitVec.ofInt_natCast, BitVec.toNat_ofNat]
    omega
  have h2 : (BitVec.ofInt 8 128).toNat = 128 := by decide
  show IntKind.u8.wrap ((BitVec.ofInt 8 ((x : Int) % 256) ||| BitVec.ofInt 8 128).toNat : Int) = _
  rw [BitVec.toNat_or, h1, h2, IntKind.wrap_u8]
  have h3 : ∀ y, y < 256 → y ||| 128 = y % 128 + 128 := by decide
  rw [h3 (x % 256) (by omega)]
  omega
set_option maxRecDepth 100000 in
theorem or128' (x : Nat) : bits .or .u8 (x : Int) 128 = ((x % 128 + 128 : Nat) : Int) := by
  have h1 : (BitVec.ofInt 8 (x : Int)).toNat = x % 256 := by
    rw [BitVec.ofInt_natCast, BitVec.toNat_ofNat]
  have h2 : (BitVec.ofInt 8 128).toNat = 128 := by decide
  show IntKind.u8.wrap ((BitVec.ofInt 8 (x : Int) ||| BitVec.ofInt 8 128).toNat : Int) = _
  rw [BitVec.toNat_or, h1, h2, IntKind.wrap_u8]
  have h3 : ∀ y, y < 256 → y ||| 128 = y % 128 + 128 := by decide
  rw [h3 (x % 256) (by omega)]
  omega
theorem u64_and127 (x : Nat) (h : x < 18446744073709551616) : bits .and .u64 (x : Int) 127 = ((x % 128 : Nat) : Int) := by
  have := u64_and_nat x 127 h (by decide)
  rw [show ((127 : Nat) : Int) = 127 from rfl] at this
  rw [this]
  congr 1
  exact Nat.and_two_pow_sub_one_eq_mod x 7
set_option maxHeartbeats 1000000 in
set_option maxRecDepth 100000 in
theorem Uint_any (X : Nat) (w : World) (hX : X < 18446744073709551616) :
    Calls Tryd.prog 11 #[.int .u64 X] w fun e w' => e = .returned (.string ⟨(uintL X).toArray⟩) ∧ Below w.heap.size w w' := by
  go_enter Tryd.func11, Tryd.ntmps11
  go_wp2_with fail
  go_loopw [0, 3] (fun x v wr => ∃ (V : Value) (n : Nat) (l : List UInt8) (f : Nat), V = v ∧ x = .int .u64 n ∧ n < 18446744073709551616 ∧ Hid (Bts wr w.heap.size V l) ∧ Hid (l ++ uintG f n = uintL X) ∧ Hid (n < 128 ^ (f + 1)) ∧ Hid (l.length + f = 9) ∧ Below w.heap.size w wr) (fun x _ _ => (intOf x).toNat)
  case atStart => exact ⟨_, X, [], 9, rfl, rfl, hX, Lib.hid (Bts.nil _ _), Lib.hid rfl, Lib.hid (Nat.lt_trans hX (by decide)), Lib.hid rfl, Below.refl _ _⟩
  case round =>
    obtain ⟨V, n, l, f, rfl, rfl, hn, HB, HL, HF, HN, hb⟩ := hrel
    by_cases h128 : 128 ≤ n
    · cases f with
      | zero => have := HF.out; omega
      | succ f =>
        obtain ⟨c, hc⟩ : ∃ c, c = UInt8.ofNat (n % 128 + 128) := ⟨_, rfl⟩
        have hcn : c.toNat = n % 128 + 128 := by rw [hc, UInt8.toNat_ofNat']; omega
        have ho : bits .or .u8 ((n : Int) % 256) 128 = (c.toNat : Int) := by rw [or128, hcn]
        obtain ⟨v', w2, hap, hB2, hb2⟩ := bts_add wr w.heap.size V l c HB.out (by have := HN.out; omega) hb.size
        have HA := Lib.hid hap
        have HB2 := Lib.hid hB2
        have HL2 : Hid ((l ++ [c]) ++ uintG f (n / 128) = uintL X) := Lib.hid (by rw [← HL.out, uintG_big f n (by omega), hc]; simp)
        have HF2 : Hid (n / 128 < 128 ^ (f + 1)) := Lib.hid (by
          have := HF.out
          rw [Nat.pow_succ] at this
          exact Nat.div_lt_of_lt_mul (by rw [Nat.mul_comm]; exact this))
        have HN2 : Hid ((l ++ [c]).length + f = 9) := Lib.hid (by have := HN.out; simp; omega)
        have hb3 := hb.trans hb2
        clear hap hB2 hb2 hc hcn
        go_wp2_with (at_builtin; refine wpList_append_run rfl _ _ 81 81 rfl _ _ rfl rfl HA.out ?_)
        go_roundw
        case rel => exact ⟨_, n / 128, l ++ [c], f, rfl, by go_num, by omega, HB2, HL2, HF2, HN2, hb3⟩
        case measure => simp [intOf]; omega
    · have hlt : n < 128 := by omega
      obtain ⟨c, hc⟩ : ∃ c, c = UInt8.ofNat n := ⟨_, rfl⟩
      have hcn : c.toNat = n := by rw [hc, UInt8.toNat_ofNat']; omega
      obtain ⟨v', w2, hap, hB2, hb2⟩ := bts_add wr w.heap.size V l c HB.out (by have := HN.out; omega) hb.size
      have hs := str_of w2 w.heap.size v' (l ++ [c]) hB2 (by simp)
      have hl : l ++ [c] = uintL X := by rw [← HL.out, uintG_small f n hlt, hc]
      rw [hl] at hs
      rw [hcn] at hap
      have HA := Lib.hid hap
      have hb3 := hb.trans hb2
      clear hap hB2 hb2 hc hcn hl
      go_wp2_with (at_builtin; refine wpList_append_run rfl _ _ 81 81 rfl _ _ rfl rfl HA.out ?_)
      go_ret
      exact ⟨rfl, hb3⟩
set_option maxHeartbeats 1000000 in
set_option maxRecDepth 100000 in
theorem refUint_any (X : Nat) (w : World) (hX : X < 18446744073709551616) :
    Calls Tryd.prog 12 #[.int .u64 X] w fun e w' => e = .returned (.string ⟨(uintL X).toArray⟩) ∧ Below w.heap.size w w' := by
  go_enter Tryd.func12, Tryd.ntmps12
  go_wp2_with fail
  go_loopw [0, 3] (fun x v wr => ∃ (V : Value) (n : Nat) (l : List UInt8) (f : Nat), V = v ∧ x = .int .u64 n ∧ n < 18446744073709551616 ∧ Hid (Bts wr w.heap.size V l) ∧ Hid (l ++ uintG f n = uintL X) ∧ Hid (n < 128 ^ (f + 1)) ∧ Hid (l.length + f = 9) ∧ Below w.heap.size w wr) (fun x _ _ => (intOf x).toNat)
  case atStart => exact ⟨_, X, [], 9, rfl, rfl, hX, Lib.hid (Bts.nil _ _), Lib.hid rfl, Lib.hid (Nat.lt_trans hX (by decide)), Lib.hid rfl, Below.refl _ _⟩
  case round =>
    obtain ⟨V, n, l, f, rfl, rfl, hn, HB, HL, HF, HN, hb⟩ := hrel
    by_cases h128 : 128 ≤ n
    · cases f with
      | zero => have := HF.out; omega
      | succ f =>
        obtain ⟨c, hc⟩ : ∃ c, c = UInt8.ofNat (n % 128 + 128) := ⟨_, rfl⟩
        have hcn : c.toNat = n % 128 + 128 := by rw [hc, UInt8.toNat_ofNat']; omega
        obtain ⟨d, hd⟩ : ∃ d, d = n % 128 := ⟨_, rfl⟩
        have hand : bits .and .u64 (n : Int) 127 = (d : Int) := by rw [u64_and127 n hn, hd]
        have ho : bits .or .u8 (d : Int) 128 = (c.toNat : Int) := by rw [or128', hcn, hd, Nat.mod_mod]
        have hd1 : d < 128 := by omega
        obtain ⟨v', w2, hap, hB2, hb2⟩ := bts_add wr w.heap.size V l c HB.out (by have := HN.out; omega) hb.size
        have HA := Lib.hid hap
        have HB2 := Lib.hid hB2
        have HL2 : Hid ((l ++ [c]) ++ uintG f (n / 128) = uintL X) := Lib.hid (by rw [← HL.out, uintG_big f n (by omega), hc]; simp)
        have HF2 : Hid (n / 128 < 128 ^ (f + 1)) := Lib.hid (by
          have := HF.out
          rw [Nat.pow_succ] at this
          exact Nat.div_lt_of_lt_mul (by rw [Nat.mul_comm]; exact this))
        have HN2 : Hid ((l ++ [c]).length + f = 9) := Lib.hid (by have := HN.out; simp; omega)
        have hb3 := hb.trans hb2
        clear hap hB2 hb2 hc hcn hd
        go_wp2_with (at_builtin; refine wpList_append_run rfl _ _ 81 81 rfl _ _ rfl rfl HA.out ?_)
        go_roundw
        case rel => exact ⟨_, n / 128, l ++ [c], f, rfl, by go_num, by omega, HB2, HL2, HF2, HN2, hb3⟩
        case measure => simp [intOf]; omega
    · have hlt : n < 128 := by omega
      obtain ⟨c, hc⟩ : ∃ c, c = UInt8.ofNat n := ⟨_, rfl⟩
      have hcn : c.toNat = n := by rw [hc, UInt8.toNat_ofNat']; omega
      obtain ⟨v', w2, hap, hB2, hb2⟩ := bts_add wr w.heap.size V l c HB.out (by have := HN.out; omega) hb.size
      have hs := str_of w2 w.heap.size v' (l ++ [c]) hB2 (by simp)
      have hl : l ++ [c] = uintL X := by rw [← HL.out, uintG_small f n hlt, hc]
      rw [hl] at hs
      rw [hcn] at hap
      have HA := Lib.hid hap
      have hb3 := hb.trans hb2
      clear hap hB2 hb2 hc hcn hl
      go_wp2_with (at_builtin; refine wpList_append_run rfl _ _ 81 81 rfl _ _ rfl rfl HA.out ?_)
      go_ret
      exact ⟨rfl, hb3⟩
end Go.Proofs.YtnfknbjdggkdpaaDoor
