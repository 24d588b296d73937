import Derived.Test.YthimmdaefmbcjaaDoorFAlive
import Derived.Test.YthimmdaefmbcjaaDoorRefW
import Derived.Test.YthimmdaefmbcjaaDoorBytesW
namespace Go.Proofs.YthimmdaefmbcjaaDoor
open Go.RowKit
theorem i64_and3 (n : Int) : bits .and .i64 n 3 = n % 4 := by
  have h : (BitVec.ofInt 64 3).toNat = 2 ^ 2 - 1 := by decide
  have key : (BitVec.ofInt 64 n &&& BitVec.ofInt 64 3).toNat = (n % ((2 ^ 64 : Nat) : Int)).toNat % 2 ^ 2 := by
    rw [BitVec.toNat_and, BitVec.toNat_ofInt, h, Nat.and_two_pow_sub_one_eq_mod]
  show IntKind.i64.wrap ((BitVec.ofInt 64 n &&& BitVec.ofInt 64 3).toNat : Nat) = n % 4
  rw [key, IntKind.wrap_i64]
  omega
set_option maxHeartbeats 2000000 in
set_option maxRecDepth 100000 in
theorem FrameLong_walk (more_ : Int) (c : Nat) (w : World) (hc : c < 256) (hT : TabAny w) (hH : Handle w) :
    Calls Tryd.prog 4 #[.int .i64 more_, .int .u8 c] w fun e w' => e = .returned (.bool true) ∧ Below w.heap.size w w' := by
  obtain ⟨r, hr⟩ := Int.eq_ofNat_of_zero_le (show 0 ≤ more_ % 4 by omega)
  have ha : bits .and .i64 more_ 3 = (r : Int) := by rw [i64_and3, hr]
  have hr4 : r < 4 := by omega
  obtain ⟨n, hn⟩ : ∃ n : Nat, n = 131071 + r := ⟨_, rfl⟩
  have hne : (131072 : Int) + (r : Int) - 1 = (n : Int) := by omega
  have hn1 : n ≤ 131074 := by omega
  obtain ⟨W1, hmk, hB, hbel, hlt⟩ := make_bytes w n (by omega)
  obtain ⟨C, hC⟩ : ∃ C : UInt8, (C.toNat : Int) = (c : Int) := ⟨UInt8.ofNat c, by rw [UInt8.toNat_ofNat']; omega⟩
  rw [← hC]
  have HB := Lib.hid hB
  have HT := Lib.hid hT
  have HH := Lib.hid hH
  clear hr hB hn hT hH hC hc
  go_enter Tryd.func4, Tryd.ntmps4
  go_wp2_with fail
  go_loopw [7] (fun i wr => ∃ (k : Nat) (l : List UInt8), k ≤ n ∧ i = .int .i64 k ∧ Hid (l.length = n) ∧ Hid (BytesAt wr w.heap.size l) ∧ Below w.heap.size w wr ∧ w.heap.size < wr.heap.size) (fun i _ => n - (intOf i).toNat)
  case atStart => exact ⟨0, _, Nat.zero_le _, rfl, Lib.hid (List.length_replicate ..), HB, hbel, hlt⟩
  case round =>
    obtain ⟨k, l, hk, rfl, HL, HBl, hb, hl⟩ := hrel
    by_cases hkn : k < n
    · obtain ⟨hcell, hfr⟩ := HBl.out k (by rw [HL.out]; exact hkn)
      go_wp2_with fail
      go_roundw
      case rel => exact ⟨k + 1, l.set k C, by omega, by go_num, Lib.hid (by rw [List.length_set]; exact HL.out), Lib.hid (HBl.out.set k C), hb.setCell (Nat.le_refl _) _, by simp; omega⟩
      case measure => simp [intOf]; omega
    · obtain ⟨S, hS⟩ : ∃ S, (⟨l.toArray⟩ : ByteArray) = S := ⟨_, rfl⟩
      have hz : S.size = n := by rw [← hS, ba_size]; exact HL.out
      have hp : S.size ≤ 140737488351232 := by omega
      have hback : ∀ W, BytesAt W w.heap.size l → (convert 32 9 (.slice (some ⟨w.heap.size, 0, none⟩) n n)).run Tryd.prog W = .ok (.string S) W := fun W h => by
        rw [← hS]; exact bytes_back h 32 9 5 n n HL.out Tryd.underlying32 Tryd.underlying5 Tryd.underlying9
      have hcv := hback wr HBl.out
      have HBK := Lib.hid hback
      have HR := Lib.hid (fun W => refOf4_any S W hp)
      have HO := Lib.hid (Of_frame S wr hp)
      clear hback hp hz hS
      go_wp2_with fail
      refine HO.out.mono ?_; rintro e w1 (⟨hs, rfl, hb1⟩ | ⟨hs, b, rfl, hF, hb1⟩)
      · have hr := HR.out
        simp only [if_pos hs] at hr
        have HR := Lib.hid hr
        have hcv2 := HBK.out w1 (HBl.out.below hb1 hl)
        clear hr hs hcv
        go_wp2_with fail
        refine (HR.out _).mono ?_; rintro e w2 ⟨rfl, hb2⟩
        go_wp2_with fail
        refine (is_nil _ _ _).mono ?_; rintro e w' ⟨rfl, rfl⟩
        have hB1 := hb.trans (hb1.mono (Nat.le_of_lt hl))
        have hB := hB1.trans (hb2.mono hB1.size)
        go_wp2_with fail
        refine (alive_any _ (HT.out.below hB) (HH.out.below hB)).mono ?_; rintro e w3 ⟨rfl, hb3⟩
        go_wp2_with fail
        go_ret
        exact ⟨rfl, hB.trans (hb3.mono hB.size)⟩
      · have hr := HR.out
        have hn : ¬ S.size ≤ 131072 := by omega
        simp only [if_neg hn] at hr
        have HR := Lib.hid hr
        have HF := Lib.hid hF
        have hcv2 := HBK.out w1 (HBl.out.below hb1 hl)
        clear hr hs hn hF hcv
        go_wp2_with fail
        refine (HR.out _).mono ?_; rintro e w2 ⟨rfl, hb2⟩
        have hB1 := hb.trans (hb1.mono (Nat.le_of_lt hl))
        have hB := hB1.trans (hb2.mono hB1.size)
        go_wp2_with fail
        refine (is_err b 4 (-1) (by decide) (by decide) (by decide) _ (HF.out.below hb2) (HT.out.below hB) (HH.out.below hB)).mono ?_; rintro e w3 ⟨rfl, hb3⟩
        have hB3 := hB.trans (hb3.mono hB.size)
        go_wp2_with fail
        refine (alive_any _ (HT.out.below hB3) (HH.out.below hB3)).mono ?_; rintro e w4 ⟨rfl, hb4⟩
        go_wp2_with fail
        go_ret
        exact ⟨rfl, hB3.trans (hb4.mono hB3.size)⟩
end Go.Proofs.YthimmdaefmbcjaaDoor
