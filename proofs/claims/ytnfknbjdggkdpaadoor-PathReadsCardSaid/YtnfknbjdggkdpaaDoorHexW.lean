import Derived.Test.YtnfknbjdggkdpaaDoorKit
import Derived.Test.YtnfknbjdggkdpaaDoorSumPlain
namespace Go.Proofs.YtnfknbjdggkdpaaDoor
open Go.RowKit
theorem dig_extract (d : Nat) (h : d < 16) : ((ByteArray.mk #[48, 49, 50, 51, 52, 53, 54, 55, 56, 57, 97, 98, 99, 100, 101, 102]).extract d (d + 1)) = ⟨#[hexd d]⟩ := by
  have : ∀ d : Fin 16, ((ByteArray.mk #[48, 49, 50, 51, 52, 53, 54, 55, 56, 57, 97, 98, 99, 100, 101, 102]).extract d.1 (d.1 + 1)) = ⟨#[hexd d.1]⟩ := by decide +kernel
  exact this ⟨d, h⟩
set_option maxHeartbeats 400000 in
theorem Hex_16 (n : Nat) (w : World) (hn : n < 18446744073709551616) :
    Calls Tryd.prog 79 #[.int .u64 n, .int .i64 16] w fun e w' => e = .returned (.string ⟨(hexl n 16).toArray⟩) ∧ w = w' := by
  have HN := Lib.hid hn
  clear hn
  go_enter Tryd.func79, Tryd.ntmps79
  go_wp2
  go_loop [0, 5, 6] (fun t x i => ∃ (k m : Nat) (S : ByteArray), k ≤ 16 ∧ i = .int .i64 k ∧ t = .int .u64 m ∧ x = .string S ∧ Hid (m = n / 16 ^ k) ∧ Hid (S = ⟨(hexl n k).toArray⟩) ∧ S.size ≤ k) (fun _ _ i => 16 - (intOf i).toNat)
  case atStart => exact ⟨0, n, ⟨#[]⟩, Nat.zero_le _, rfl, rfl, rfl, Lib.hid (by simp), Lib.hid (by simp [hexl]), by simp [ByteArray.size]⟩
  case round =>
    obtain ⟨k, m, S, hk, rfl, rfl, rfl, HM, HS, hS⟩ := hrel
    by_cases hlt : k < 16
    · have hm : m < 18446744073709551616 := by rw [HM.out]; exact Nat.lt_of_le_of_lt (Nat.div_le_self _ _) HN.out
      obtain ⟨d, Hd⟩ : ∃ d, Hid (d = m % 16) := ⟨_, Lib.hid rfl⟩
      have hd : d < 16 := by rw [Hd.out]; exact Nat.mod_lt _ (by decide)
      have hb : bits .and .u64 (m : Int) 15 = (d : Int) := by rw [Hd.out, and15 m hm]
      have hx := dig_extract d hd
      clear hm
      go_wp2
      go_round
      case rel =>
        refine ⟨k + 1, m / 16, _, by omega, by go_num, by go_num, rfl, Lib.hid (by rw [HM.out, Nat.div_div_eq_div_mul, Nat.pow_succ]), Lib.hid ?_, ?_⟩
        · rw [HS.out, Hd.out, HM.out]
          exact ba_append [hexd (n / 16 ^ k % 16)] (hexl n k)
        · rw [ByteArray.size_append]; have := ba_size [hexd d]; simp only [List.length_singleton] at this; omega
      case measure => simp [intOf]; omega
    · obtain rfl : k = 16 := by omega
      go_wp2
      go_ret
      exact ⟨ret_val (show Value.string S = _ by rw [HS.out]), rfl⟩
end Go.Proofs.YtnfknbjdggkdpaaDoor
