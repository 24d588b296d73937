import Derived.Test.YthimmdaefmbcjaaAliveW
namespace Go.Proofs.Ythimmdaefmbcjaa
open Go.RowKit
set_option maxHeartbeats 400000 in
theorem SumJoined_walk (a b : ByteArray) (n : Nat) (w : World) (ha : a.size ≤ 140737488351232) (hb : b.size ≤ 140737488351232) (hn : n < 18446744073709551616) :
    Calls Try.prog 7 #[.string a, .string b, .int .u64 n] w fun e w' => e = .returned (.bool true) ∧ Below w.heap.size w w' := by
  have HN := Lib.hid hn
  have HA : Hid (a.size ≤ maxLen) := Lib.hid (by unfold maxLen; omega)
  have HB : Hid (b.size ≤ maxLen) := Lib.hid (by unfold maxLen; omega)
  have HAB : Hid ((a ++ b).size ≤ maxLen) := Lib.hid (by unfold maxLen; rw [ByteArray.size_append]; omega)
  have HT : Hid ((⟨(hexl n 16).toArray⟩ : ByteArray).size ≤ maxLen) := Lib.hid (by rw [ba_size, hexl_length]; unfold maxLen; omega)
  have hv := (hex_back n hn).1
  have he := (hex_back n hn).2
  clear hn
  go_enter Try.func7, Try.ntmps7
  go_wp2_with fail
  refine (Text_any _ _ HN.out).mono ?_; rintro e w1 ⟨rfl, hb1⟩
  go_wp2_with fail
  refine (Read_any _ _ HT.out).mono ?_; rintro e w' ⟨rfl, rfl⟩
  go_wp2_with fail
  refine (Of_any _ _ HAB.out).mono ?_; rintro e w' ⟨rfl, rfl⟩
  go_wp2_with fail
  refine (Of_any _ _ HA.out).mono ?_; rintro e w' ⟨rfl, rfl⟩
  go_wp2_with fail
  refine (More_any _ _ _ (more_lt _ _ begin_lt) HB.out).mono ?_; rintro e w' ⟨rfl, rfl⟩
  have hq := more_append begin_ a.data.toList b.data.toList
  go_wp2_with fail
  have HR : StrRow (w1.alloc (.cells #[.string a, .string b] 9)) (some ⟨w1.heap.size, 0, none⟩) 2 [a, b] := by
    refine ⟨rfl, by decide, ?_, fun _ => ⟨_, _, rfl, fun i hi => ?_⟩⟩
    · intro s hs
      simp only [List.mem_cons, List.not_mem_nil, or_false] at hs
      rcases hs with rfl | rfl
      · exact HA.out
      · exact HB.out
    · rw [World.cell?_alloc_mark]
      rcases (show i = 0 ∨ i = 1 by omega) with rfl | rfl <;> rfl
  refine (All_any _ _ _ _ _ HR).mono ?_; rintro e w' ⟨rfl, rfl⟩
  have hq2 : allN begin_ [a, b] = more (more begin_ a.data.toList) b.data.toList := rfl
  clear HR
  go_wp2_with fail
  refine (Of_any _ _ HAB.out).mono ?_; rintro e w' ⟨rfl, rfl⟩
  go_wp2_with fail
  refine (alive_any _).mono ?_; rintro e w2 ⟨rfl, hb2⟩
  go_wp2_with fail
  go_ret
  exact ⟨rfl, (hb1.alloc hb1.size _).trans (hb2.mono (by have := hb1.size; simp; omega))⟩
end Go.Proofs.Ythimmdaefmbcjaa
