/-
  sum.Of and the document's Of. No statement is proved here.
-/
import Derived.Test.YthimmdaefmbcjaaDoorSumWalks
namespace Go.Proofs.YthimmdaefmbcjaaDoor
open Go.RowKit
theorem Of_any (s : ByteArray) (w : World) (hs : s.size ≤ maxLen) :
    Calls Tryd.prog 26 #[.string s] w fun e w' => e = .returned (.int .u64 (more begin_ s.data.toList)) ∧ w = w' := by
  have h := More_any begin_ s w begin_lt hs
  rw [← begin_int] at h
  have H := Lib.hid h
  clear h
  go_enter Tryd.func26, Tryd.ntmps26
  go_wp2_with (go_at_call 25; refine (H.out).mono ?_; rintro e w' ⟨rfl, rfl⟩)
  go_ret
  exact ⟨rfl, rfl⟩
theorem refOf_any (s : ByteArray) (w : World) (hs : s.size ≤ maxLen) :
    Calls Tryd.prog 22 #[.string s] w fun e w' => e = .returned (.int .u64 (more begin_ s.data.toList)) ∧ w = w' := by
  have h := refMore_any begin_ s w begin_lt hs
  rw [← begin_int] at h
  have H := Lib.hid h
  clear h
  go_enter Tryd.func22, Tryd.ntmps22
  go_wp2_with (go_at_call 27; refine (H.out).mono ?_; rintro e w' ⟨rfl, rfl⟩)
  go_ret
  exact ⟨rfl, rfl⟩
end Go.Proofs.YthimmdaefmbcjaaDoor
