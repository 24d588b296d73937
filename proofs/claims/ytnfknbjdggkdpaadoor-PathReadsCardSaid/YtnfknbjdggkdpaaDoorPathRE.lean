/-
  path.Read at what has no head. No statement is proved here.
-/
import Derived.Test.YtnfknbjdggkdpaaDoorPathR
namespace Go.Proofs.YtnfknbjdggkdpaaDoor
open Go.RowKit
set_option maxHeartbeats 4000000 in
set_option maxRecDepth 100000 in
theorem Read_else (s h r : ByteArray) (f : Bool) (w : World) (hc : IsCut s 47 h r f) (h1 : h.data.toList ≠ logK) (h2 : h.data.toList ≠ stageK) (h3 : h.data.toList ≠ pageK) (h4 : h.data.toList ≠ blobK)
    (hC : ∀ W, Calls Tryd.prog 58 #[.string s, .string ⟨#[47]⟩] W fun e w' => e = .returned (.tuple #[.string h, .string r, .bool f]) ∧ ∃ n, w' = W.drewN n) :
    Calls Tryd.prog 37 #[.string s] w (ReadIs (readR s.data.toList) w) := by
  have HR := Lib.hid (none_else hc h1 h2 h3 h4)
  have HC := Lib.hid hC
  have k1 : (h.toList == [108, 111, 103]) = false := beq_eq_false_iff_ne.2 (by rw [ByteArray.toList_eq]; exact h1)
  have k2 : (h.toList == [115, 116, 97, 103, 101]) = false := beq_eq_false_iff_ne.2 (by rw [ByteArray.toList_eq]; exact h2)
  have k3 : (h.toList == [112, 97, 103, 101]) = false := beq_eq_false_iff_ne.2 (by rw [ByteArray.toList_eq]; exact h3)
  have k4 : (h.toList == [98, 108, 111, 98]) = false := beq_eq_false_iff_ne.2 (by rw [ByteArray.toList_eq]; exact h4)
  clear hc h1 h2 h3 h4 hC
  go_enter Tryd.func37, Tryd.ntmps37
  go_wp2_with fail
  refine (HC.out _).mono ?_; rintro e w1 ⟨rfl, q, rfl⟩
  go_upto_region 5 with fail
  have h2 := two_new w 59 q 0 0 0 0 ⟨#[]⟩
  obtain ⟨W, hW⟩ : ∃ W, ((w.alloc (.cells #[.int .u8 0, .int .i64 0, .int .u64 0, .int .u32 0, .string ⟨#[]⟩] 59)).drewN q).alloc (.cells #[.int .u8 0, .int .i64 0, .int .u64 0, .int .u32 0, .string ⟨#[]⟩] 59) = W := ⟨_, rfl⟩
  rw [hW] at h2 ⊢
  have HW4 := Lib.hid h2
  clear h2 hW
  obtain ⟨z0, z1, z2, z3, z4, y0, y1, y2, y3, y4⟩ := HW4.out.z
  have c0 := HW4.out.q.c0
  by_cases hse : s.size = 0
  · obtain rfl : s = ⟨#[]⟩ := by
      apply ba_inj
      exact List.eq_nil_of_length_eq_zero (by rw [ba_len]; omega)
    clear hse
    go_wp2_with fail
    refine bodyPost_ret (v := .tuple #[pathV noP, .int .i64 110]) (by simp [results, Tryd.results37, go_sem, asAddr, z0, z1, z2, z3, z4, pathV, noP]) rfl ?_
    rw [HR.out]
    exact ⟨rfl, ((((HW4.out.b.setCell (by simp) _).setCell (by simp) _).setCell (by simp) _).setCell (by simp) _).setCell (by simp) _⟩
  · have hne3 : ¬ s.toList = [] := by
      rw [ByteArray.toList_eq]
      intro e
      have := ba_len s
      rw [e] at this
      simp at this
      omega
    have hem : s.toList.isEmpty = false := by simpa using hne3
    clear hse
    go_wp2_with fail
    refine bodyPost_ret (v := .tuple #[pathV noP, .int .i64 110]) (by simp [results, Tryd.results37, go_sem, asAddr, z0, z1, z2, z3, z4, pathV, noP]) rfl ?_
    rw [HR.out]
    exact ⟨rfl, ((((HW4.out.b.setCell (by simp) _).setCell (by simp) _).setCell (by simp) _).setCell (by simp) _).setCell (by simp) _⟩
end Go.Proofs.YtnfknbjdggkdpaaDoor
