/-
  'said': the reference's struct as the program's. No statement is proved here.
-/
import Derived.Test.YtnfknbjdggkdpaaDoorRefPathW
namespace Go.Proofs.YtnfknbjdggkdpaaDoor
open Go.RowKit
set_option maxHeartbeats 1000000 in
set_option maxRecDepth 100000 in
theorem said_any (k : Nat) (n x p : Int) (m : ByteArray) (w : World) (hk : k < 256) : Calls Tryd.prog 39 #[.agg #[.int .i64 k, .int .i64 n, .int .u64 x, .int .u32 p, .string m]] w fun e w' => e = .returned (AggP k n x p m) ∧ Below w.heap.size w w' := by
  have hw : IntKind.u8.wrap (k : Int) = (k : Int) := by rw [IntKind.wrap_u8]; omega
  go_enter Tryd.func39, Tryd.ntmps39
  go_wp2_with fail
  refine bodyPost_ret (v := AggP k n x p m) (by simp [results, Tryd.results39, go_sem, asAddr]) rfl ?_
  exact ⟨rfl, ((Below.refl _ _).alloc (Nat.le_refl _) _).alloc (by simp) _⟩
end Go.Proofs.YtnfknbjdggkdpaaDoor
