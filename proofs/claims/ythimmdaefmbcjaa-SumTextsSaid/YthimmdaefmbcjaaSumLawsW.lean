import Derived.Test.YthimmdaefmbcjaaAliveW
namespace Go.Proofs.Ythimmdaefmbcjaa
open Go.RowKit
set_option maxHeartbeats 400000 in
theorem SumOfs_walk (n : Nat) (s : ByteArray) (w : World) (hn : n < 18446744073709551616) (hs : s.size ≤ 140737488351232) :
    Calls Try.prog 3 #[.int .u64 n, .string s] w fun e w' => e = .returned (.bool true) ∧ Below w.heap.size w w' := by
  have HN := Lib.hid hn
  have HS : Hid (s.size ≤ maxLen) := Lib.hid (by unfold maxLen; omega)
  clear hn hs
  go_enter Try.func3, Try.ntmps3
  go_wp2_with fail
  refine (Of_any _ _ HS.out).mono ?_; rintro e w' ⟨rfl, rfl⟩
  go_wp2_with fail
  refine (refOf_any _ _ HS.out).mono ?_; rintro e w' ⟨rfl, rfl⟩
  go_wp2_with fail
  refine (More_any _ _ _ HN.out HS.out).mono ?_; rintro e w' ⟨rfl, rfl⟩
  go_wp2_with fail
  refine (refMore_any _ _ _ HN.out HS.out).mono ?_; rintro e w' ⟨rfl, rfl⟩
  go_wp2_with fail
  refine (alive_any _).mono ?_; rintro e w1 ⟨rfl, hb⟩
  go_wp2_with fail
  go_ret
  exact ⟨rfl, hb⟩
set_option maxHeartbeats 400000 in
theorem SumTexts_walk (n : Nat) (s : ByteArray) (w : World) (hn : n < 18446744073709551616) (hs : s.size ≤ 140737488351232) :
    Calls Try.prog 4 #[.int .u64 n, .string s] w fun e w' => e = .returned (.bool true) ∧ Below w.heap.size w w' := by
  have HN := Lib.hid hn
  have HS : Hid (s.size ≤ maxLen) := Lib.hid (by unfold maxLen; omega)
  clear hn hs
  go_enter Try.func4, Try.ntmps4
  go_wp2_with fail
  refine (Read_any _ _ HS.out).mono ?_; rintro e w' ⟨rfl, rfl⟩
  go_wp2_with fail
  refine (refRead_any _ _ HS.out).mono ?_; rintro e w' ⟨rfl, rfl⟩
  go_wp2_with fail
  refine (Text_any _ _ HN.out).mono ?_; rintro e w1 ⟨rfl, hb⟩
  go_wp2_with fail
  refine (refText_any _ _ HN.out).mono ?_; rintro e w' ⟨rfl, rfl⟩
  go_wp2_with fail
  refine (alive_any _).mono ?_; rintro e w2 ⟨rfl, hb2⟩
  go_wp2_with fail
  go_ret
  exact ⟨rfl, hb.trans (hb2.mono hb.size)⟩
end Go.Proofs.Ythimmdaefmbcjaa
