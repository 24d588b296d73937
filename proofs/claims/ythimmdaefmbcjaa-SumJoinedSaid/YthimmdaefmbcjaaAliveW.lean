import Derived.Test.YthimmdaefmbcjaaAllW
namespace Go.Proofs.Ythimmdaefmbcjaa
open Go.RowKit
theorem Of_empty (w : World) : Calls Try.prog 8 #[.string ⟨#[]⟩] w fun e w' => e = .returned (.int .u64 14695981039346656037) ∧ w = w' := by
  have h := Of_any ⟨#[]⟩ w (by unfold maxLen; simp [ByteArray.size])
  rw [begin_int]
  exact h
theorem more_a : more begin_ [97] = 12638187200555641996 := by
  rw [more_cons, more_nil, mstep_eq]; unfold begin_; decide +kernel
theorem Of_a (w : World) : Calls Try.prog 8 #[.string ⟨#[97]⟩] w fun e w' => e = .returned (.int .u64 12638187200555641996) ∧ w = w' := by
  have h := Of_any ⟨#[97]⟩ w (by unfold maxLen; simp [ByteArray.size])
  rw [show (⟨#[97]⟩ : ByteArray).data.toList = [97] from rfl, more_a] at h
  exact h
theorem hex_255 : hexl 255 16 = [48, 48, 48, 48, 48, 48, 48, 48, 48, 48, 48, 48, 48, 48, 102, 102] := by decide +kernel
theorem Text_255 (w : World) : Calls Try.prog 15 #[.int .u64 255] w fun e w' => e = .returned (.string ⟨#[48, 48, 48, 48, 48, 48, 48, 48, 48, 48, 48, 48, 48, 48, 102, 102]⟩) ∧ Below w.heap.size w w' := by
  have h := Text_any 255 w (by omega)
  rw [hex_255] at h
  exact h
theorem Read_ff (w : World) : Calls Try.prog 13 #[.string ⟨#[102, 102]⟩] w fun e w' => e = .returned (.tuple #[.int .u64 0, .int .i64 10]) ∧ w = w' := by
  have h := Read_any ⟨#[102, 102]⟩ w (by unfold maxLen; simp [ByteArray.size])
  obtain ⟨h1, h2⟩ := hex_of_none (⟨#[102, 102]⟩ : ByteArray).data.toList (.inl (by decide))
  rw [h1, h2] at h
  exact h
set_option maxHeartbeats 400000 in
theorem alive_any (w : World) : Calls Try.prog 12 #[] w fun e w' => e = .returned (.bool true) ∧ Below w.heap.size w w' := by
  go_enter Try.func12, Try.ntmps12
  go_wp2_with fail
  refine (Read_ff _).mono ?_; rintro e w' ⟨rfl, rfl⟩
  go_wp2_with fail
  refine (Of_empty _).mono ?_; rintro e w' ⟨rfl, rfl⟩
  go_wp2_with fail
  refine (Of_a _).mono ?_; rintro e w' ⟨rfl, rfl⟩
  go_wp2_with fail
  refine (Text_255 _).mono ?_; rintro e w1 ⟨rfl, hb⟩
  go_wp2_with fail
  go_ret
  exact ⟨rfl, hb⟩
end Go.Proofs.Ythimmdaefmbcjaa
