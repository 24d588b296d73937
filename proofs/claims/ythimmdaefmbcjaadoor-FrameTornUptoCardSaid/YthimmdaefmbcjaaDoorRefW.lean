/-
  The document's Word, four, Of (layers 2 and 4). No statement is proved here.
-/
import Derived.Test.YthimmdaefmbcjaaDoorHeadW
import Derived.Test.YthimmdaefmbcjaaDoorFramePlain
import Derived.Test.YthimmdaefmbcjaaDoorFrameW
import Derived.Lib.IndexBytes
namespace Go.Proofs.YthimmdaefmbcjaaDoor
open Go.RowKit
theorem mk8 (w : World) : (Instr.makeSlice 32 (.int .i64 8) (.int .i64 8)).run Tryd.prog w = .ok (.slice (some ⟨w.heap.size, 0, none⟩) 8 8) (w.alloc (.cells #[.int .u8 0, .int .u8 0, .int .u8 0, .int .u8 0, .int .u8 0, .int .u8 0, .int .u8 0, .int .u8 0] 5)) := by kernel_rfl
set_option maxHeartbeats 4000000 in
set_option maxRecDepth 100000 in
theorem refWord_any (x : Nat) (w : World) (hx : x < 18446744073709551616) :
    Calls Tryd.prog 21 #[.int .u64 x] w fun e w' => e = .returned (.string ⟨(be x 8).toArray⟩) ∧ Below w.heap.size w w' := by
  have hm := mk8
  go_enter Tryd.func21, Tryd.ntmps21
  go_wp2
  refine wp_loop_rounds 9 ?_
  iterate 9 (rw [rounds_succ]; go_wp2_with fail)
  rw [conv_new _ _ _ _ 8 8 (be x 8) (by simp) (be_length _ _) (cells_u8s _ _ [] (by
    rw [be8]
    simp only [u8s, List.map_cons, List.map_nil, u8of, List.append_nil]
    congr 3 <;> (try congr 1) <;> omega))]
  go_wp2_with fail
  go_ret
  exact ⟨rfl, (Below.refl _ _).alloc (Nat.le_refl _) _⟩
theorem be8_drop (n : Nat) : (be n 8).drop 4 = be n 4 := by simp [be]
set_option maxHeartbeats 1000000 in
theorem four_any (n : Nat) (w : World) (hn : n ≤ 140737488351232) :
    Calls Tryd.prog 20 #[.int .i64 n] w fun e w' => e = .returned (.string ⟨(be n 4).toArray⟩) ∧ Below w.heap.size w w' := by
  have hw : IntKind.u64.wrap (n : Int) = (n : Int) := by rw [IntKind.wrap_u64]; omega
  obtain ⟨S, hS⟩ : ∃ S, (⟨(be n 8).toArray⟩ : ByteArray) = S := ⟨_, rfl⟩
  have hz : S.size = 8 := by rw [← hS, ba_size, be_length]
  have he : S.extract 4 8 = ⟨(be n 4).toArray⟩ := ba_inj _ _ (by rw [← hz, Lib.extract_to_end, ← hS]; exact be8_drop n)
  have HC := Lib.hid (refWord_any n w (by omega))
  rw [hS] at HC
  clear hS
  go_enter Tryd.func20, Tryd.ntmps20
  go_wp2_with fail
  refine HC.out.mono ?_; rintro e w1 ⟨rfl, hb⟩
  go_wp2_with fail
  go_ret
  exact ⟨rfl, hb⟩
set_option maxHeartbeats 1000000 in
theorem refOf4_any (p : ByteArray) (w : World) (hp : p.size ≤ 140737488351232) :
    Calls Tryd.prog 9 #[.string p] w fun e w' =>
      e = .returned (.tuple #[.string (if p.size ≤ 131072 then ⟨(recL p.data.toList).toArray⟩ else ⟨#[]⟩), .int .i64 (if p.size ≤ 131072 then 0 else 4)]) ∧ Below w.heap.size w w' := by
  by_cases h : p.size ≤ 131072
  · rw [if_pos h, if_pos h]
    obtain ⟨N, hN⟩ : ∃ N, (⟨(be p.size 4).toArray⟩ : ByteArray) = N := ⟨_, rfl⟩
    have hz : N.size = 4 := by rw [← hN, ba_size, be_length]
    have H4 := Lib.hid (four_any p.size w hp)
    rw [hN] at H4
    have hl : (N ++ p).data.toList = be p.size 4 ++ p.data.toList := by rw [← hN, ByteArray.data_append, Array.toList_append]
    have hsum : more begin_ (N ++ p).data.toList = rsum p.data.toList := by rw [hl, more_append, rsum, ba_len]
    have hOf := fun W => refOf_any (N ++ p) W (by rw [ByteArray.size_append]; unfold maxLen; omega)
    rw [hsum] at hOf
    have hW := fun W => refWord_any (rsum p.data.toList) W (by unfold rsum; exact more_lt _ _ (more_lt _ _ begin_lt))
    obtain ⟨V, hV⟩ : ∃ V, (⟨(be (rsum p.data.toList) 8).toArray⟩ : ByteArray) = V := ⟨_, rfl⟩
    rw [hV] at hW
    have hv : V.size = 8 := by rw [← hV, ba_size, be_length]
    have he : N ++ V ++ p = (⟨(recL p.data.toList).toArray⟩ : ByteArray) := ba_inj _ _ (by
      rw [ByteArray.data_append, ByteArray.data_append, Array.toList_append, Array.toList_append, ← hN, ← hV]
      simp [recL, headL])
    have HE := Lib.hid he
    have HOf := Lib.hid hOf
    have HW := Lib.hid hW
    clear hN hl hsum hOf hW hV he
    go_enter Tryd.func9, Tryd.ntmps9
    go_wp2_with fail
    refine H4.out.mono ?_; rintro e w1 ⟨rfl, hb⟩
    go_wp2_with fail
    refine (HOf.out _).mono ?_; rintro e w' ⟨rfl, rfl⟩
    go_wp2_with fail
    refine (HW.out _).mono ?_; rintro e w2 ⟨rfl, hb2⟩
    go_wp2_with fail
    go_ret2
    refine ⟨ret_val ?_, hb.trans (hb2.mono hb.size)⟩
    rw [← HE.out]
    rfl
  · rw [if_neg h, if_neg h]
    have h' : 131072 < p.size := by omega
    clear h
    go_enter Tryd.func9, Tryd.ntmps9
    go_wp2_with fail
    go_ret2
    exact ⟨rfl, Below.refl _ _⟩
end Go.Proofs.YthimmdaefmbcjaaDoor
