import Derived.Test.YtnfknbjdggkdpaaDoorKit
import Derived.Test.YtnfknbjdggkdpaaDoorSumPlain
namespace Go.Proofs.YtnfknbjdggkdpaaDoor
open Go.RowKit
set_option maxHeartbeats 400000 in
theorem Text_any (n : Nat) (w : World) (hn : n < 18446744073709551616) :
    Calls Tryd.prog 52 #[.int .u64 n] w fun e w' => e = .returned (.string ⟨(hexl n 16).toArray⟩) ∧ Below w.heap.size w w' := by
  have HN := Lib.hid hn
  clear hn
  go_enter Tryd.func52, Tryd.ntmps52
  go_wp2
  go_loopw [0, 5] (fun t i wr => ∃ k m : Nat, k ≤ 16 ∧ i = .int .i64 k ∧ t = .int .u64 m ∧ Hid (m = n / 16 ^ k) ∧ wr = w.alloc (.cells (textArr n k) 121)) (fun _ i _ => 16 - (intOf i).toNat)
  case atStart => exact ⟨0, n, Nat.zero_le _, rfl, by simp, Lib.hid (by simp), rfl⟩
  case round =>
    obtain ⟨k, m, hk, rfl, rfl, HM, rfl⟩ := hrel
    by_cases hlt : k < 16
    · have hm : m < 18446744073709551616 := by rw [HM.out]; exact Nat.lt_of_le_of_lt (Nat.div_le_self _ _) HN.out
      obtain ⟨d, Hd⟩ : ∃ d, Hid (d = m % 16) := ⟨_, Lib.hid rfl⟩
      have hd : d < 16 := by rw [Hd.out]; exact Nat.mod_lt _ (by decide)
      have hb : bits .and .u64 (m : Int) 15 = (d : Int) := by rw [Hd.out, and15 m hm]
      clear hm
      have hc := textArr_at n k hlt
      have hs := Lib.hid (textArr_set n k hlt)
      have hx := hexd_at d hd
      go_wp2
      go_roundw
      case rel =>
        refine ⟨k + 1, m / 16, by omega, by go_num, by go_num, Lib.hid (by rw [HM.out, Nat.div_div_eq_div_mul, Nat.pow_succ]), ?_⟩
        rw [← hs.out, ← HM.out, ← Hd.out]
      case measure => simp [intOf]; omega
    · obtain rfl : k = 16 := by omega
      have hv : (convert 81 9 (.slice (some ⟨w.heap.size, 0, none⟩) 16 16)).run Tryd.prog (w.alloc (.cells (textArr n 16) 121)) = .ok (.string ⟨(hexl n 16).toArray⟩) (w.alloc (.cells (textArr n 16) 121)) := by
        have hl := hexl_length n 16
        have := run_convert_bytes_back (P := Tryd.prog) (w.alloc (.cells (textArr n 16) 121)) 81 9 5 ⟨w.heap.size, 0, none⟩ 16 (hexl n 16) Tryd.underlying81 Tryd.underlying5 Tryd.underlying9 (fun j hj => by
          rw [textArr_full]
          simp only [Addr.add_lit, Nat.zero_add, World.cell?_alloc_mark]
          exact u8s_at _ j hj)
        rw [hl] at this
        exact this
      go_wp2
      go_ret
      exact ⟨rfl, (Below.refl _ _).alloc (Nat.le_refl _) _⟩
end Go.Proofs.YtnfknbjdggkdpaaDoor
