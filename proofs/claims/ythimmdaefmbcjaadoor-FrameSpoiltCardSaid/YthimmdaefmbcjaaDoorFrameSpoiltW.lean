import Derived.Test.YthimmdaefmbcjaaDoorFAlive
import Derived.Test.YthimmdaefmbcjaaDoorBytesW
namespace Go.Proofs.YthimmdaefmbcjaaDoor
open Go.RowKit
/-- What a xor with a number that is not 0 modulo 256 does to a byte. -/
theorem turned (c : UInt8) (by_ : Int) (h : by_ % 256 ≠ 0) : ∃ x : UInt8, c ≠ x ∧ bits .xor .u8 (c.toNat : Int) (by_ % 256) = (x.toNat : Int) := by
  obtain ⟨d, hd⟩ := Int.eq_ofNat_of_zero_le (show 0 ≤ by_ % 256 by omega)
  have hd1 : d < 256 := by omega
  have hd0 : d ≠ 0 := by omega
  have hxlt : c.toNat ^^^ d < 2 ^ 8 := Nat.xor_lt_two_pow (by have := c.toNat_lt; omega) (by omega)
  have hx : (UInt8.ofNat (c.toNat ^^^ d)).toNat = c.toNat ^^^ d := by rw [UInt8.toNat_ofNat']; exact Nat.mod_eq_of_lt hxlt
  refine ⟨UInt8.ofNat (c.toNat ^^^ d), ?_, ?_⟩
  · intro e
    rw [← e] at hx
    have h4 : c.toNat ^^^ c.toNat = c.toNat ^^^ (c.toNat ^^^ d) := by rw [← hx]
    rw [Nat.xor_self, ← Nat.xor_assoc, Nat.xor_self, Nat.zero_xor] at h4
    exact hd0 h4.symm
  · rw [hd, u8_xor_nat _ _ c.toNat_lt hd1, hx]
set_option maxHeartbeats 4000000 in
set_option maxRecDepth 100000 in
theorem FrameSpoilt_walk (p : ByteArray) (at_ by_ : Int) (w : World) (hp : p.size ≤ 140737488351232) (hT : TabAny w) (hH : Handle w) :
    Calls Tryd.prog 5 #[.string p, .int .i64 at_, .int .i64 by_] w fun e w' => e = .returned (.bool true) ∧ Below w.heap.size w w' := by
  have HT := Lib.hid hT
  have HH := Lib.hid hH
  have HO := Lib.hid (Of_frame p w hp)
  clear hT hH
  by_cases hs : p.size ≤ 131072
  · have HO := Lib.hid (Of_ok p w hs)
    by_cases hz : by_ % 256 = 0
    · have h2 : (bits .and .i64 by_ 255 == 0) = true := by rw [i64_and255]; simp [hz]
      clear hz
      go_enter Tryd.func5, Tryd.ntmps5
      go_wp2_with fail
      refine HO.out.mono ?_; rintro e w1 ⟨rfl, hb1⟩
      go_wp2_with fail
      refine (alive_any _ (HT.out.below hb1) (HH.out.below hb1)).mono ?_; rintro e w3 ⟨rfl, hb3⟩
      go_wp2_with fail
      go_ret
      exact ⟨rfl, hb1.trans (hb3.mono hb1.size)⟩
    · have h2 : (bits .and .i64 by_ 255 == 0) = false := by rw [i64_and255]; simpa using hz
      obtain ⟨S, hS⟩ : ∃ S, (⟨(recL p.data.toList).toArray⟩ : ByteArray) = S := ⟨_, rfl⟩
      have hSl : S.data.toList = recL p.data.toList := by rw [← hS]
      have hSz : S.size = 12 + p.size := by rw [← hS, ba_size, recL_length, ba_len]
      rw [hS] at HO
      have HS := Lib.hid hSl
      obtain ⟨m, hm⟩ := Int.eq_ofNat_of_zero_le (show 0 ≤ at_ % 16777216 by omega)
      have ha : bits .and .i64 at_ 16777215 = (m : Int) := by rw [i64_and24, hm]
      obtain ⟨n, hn⟩ : ∃ n : Nat, n = S.size := ⟨_, rfl⟩
      have hn12 : 12 ≤ n := by omega
      have hnr : n ≤ 131084 := by omega
      obtain ⟨i, hi⟩ : ∃ i : Nat, i = m % (n - 4) := ⟨_, rfl⟩
      have hilt : i < n - 4 := by rw [hi]; exact Nat.mod_lt _ (by omega)
      have hmod : (m : Int) % ((n : Int) - 4) = (i : Int) := by
        rw [hi, show ((n : Int) - 4) = ((n - 4 : Nat) : Int) by omega]; exact (Int.natCast_emod m (n - 4)).symm
      have HZ := Lib.hid hz
      have HN := Lib.hid hn
      have hsz : S.size = n := hn.symm
      clear hS hSl hSz hm hi hz hn
      go_enter Tryd.func5, Tryd.ntmps5
      go_wp2_with fail
      refine HO.out.mono ?_; rintro e w1 ⟨rfl, hb1⟩
      obtain ⟨cap, W1, hcv, hB, hbel, hlt⟩ := bytes_made (P := Tryd.prog) w1 9 32 5 S Tryd.underlying9 Tryd.underlying32 Tryd.underlying5
      have hil : 4 + i < S.data.toList.length := by rw [ba_len, hsz]; omega
      obtain ⟨hc, hf⟩ := hB (4 + i) hil
      obtain ⟨x, hxne, hxor⟩ := turned (S.data.toList[4 + i]) by_ HZ.out
      have HX := Lib.hid hxne
      obtain ⟨c, HC⟩ : ∃ c, Hid (S.data.toList[4 + i] = c) := ⟨_, Lib.hid rfl⟩
      rw [HC.out] at hc hxor
      have HB2 := Lib.hid (hB.set (4 + i) x)
      have hback := bytes_back (P := Tryd.prog) HB2.out 32 9 5 n cap (by rw [List.length_set, ba_len, hsz]) Tryd.underlying32 Tryd.underlying5 Tryd.underlying9
      obtain ⟨S2, hS2⟩ : ∃ S2, (⟨(S.data.toList.set (4 + i) x).toArray⟩ : ByteArray) = S2 := ⟨_, rfl⟩
      rw [hS2] at hback
      have hS2l : S2.data.toList = S.data.toList.set (4 + i) x := by rw [← hS2]
      have hbad : frontC S2.data.toList = 41 := by
        rw [hS2l]
        have hlen : 4 + i < (recL p.data.toList).length := by rw [← HS.out]; exact hil
        have := front_spoilt p.data.toList (by rw [ba_len]; exact hs) (4 + i) x (by omega) hlen (by
          have : (recL p.data.toList)[4 + i]'hlen = S.data.toList[4 + i] := by congr 1; exact HS.out.symm
          intro e
          exact HX.out (this.symm.trans e))
        rw [HS.out]
        exact this
      have hS2z : S2.size ≤ 140737488351232 := by rw [← ba_len, hS2l, List.length_set, ba_len, hsz]; omega
      have HF := Lib.hid (fun W => Front_bad S2 41 W hS2z hbad (by decide))
      clear hxne hS2 hS2l hbad hS2z hB
      rw [hsz] at hcv
      go_wp2_with fail
      refine (HF.out _).mono ?_; rintro e w2 ⟨b, rfl, hFt, hb2⟩
      have HFt := Lib.hid hFt
      clear hFt
      go_wp2_with fail
      have hB1 := hb1.trans (hbel.mono hb1.size)
      have hB2 : Below w.heap.size w (W1.setCell ⟨w1.heap.size, 4 + i, none⟩ (.int .u8 x.toNat)) := hB1.setCell hb1.size _
      have hB3 := hB2.trans (hb2.mono hB2.size)
      refine (is_err b 41 0 (by decide) (by decide) (by decide) _ HFt.out (HT.out.below hB3) (HH.out.below hB3)).mono ?_; rintro e w3 ⟨rfl, hb3⟩
      have hB4 := hB3.trans (hb3.mono hB3.size)
      go_wp2_with fail
      refine (alive_any _ (HT.out.below hB4) (HH.out.below hB4)).mono ?_; rintro e w4 ⟨rfl, hb4⟩
      go_wp2_with fail
      go_ret
      exact ⟨rfl, hB4.trans (hb4.mono hB4.size)⟩
  · have hn : ¬ p.size ≤ 131072 := hs
    go_enter Tryd.func5, Tryd.ntmps5
    go_wp2_with fail
    refine HO.out.mono ?_; rintro e w1 (⟨hs, _⟩ | ⟨hs, b, rfl, hF, hb1⟩)
    · exact absurd hs hn
    · have HF := Lib.hid hF
      clear hF
      go_wp2_with fail
      refine (alive_any _ (HT.out.below hb1) (HH.out.below hb1)).mono ?_; rintro e w3 ⟨rfl, hb3⟩
      go_wp2_with fail
      go_ret
      exact ⟨rfl, hb1.trans (hb3.mono hb1.size)⟩
end Go.Proofs.YthimmdaefmbcjaaDoor
