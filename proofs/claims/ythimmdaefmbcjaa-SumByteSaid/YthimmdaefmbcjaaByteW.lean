import Derived.Test.YthimmdaefmbcjaaAliveW
namespace Go.Proofs.Ythimmdaefmbcjaa
open Go.RowKit
theorem set_split (l : List UInt8) (k : Nat) (c : UInt8) (h : k < l.length) : l = l.take k ++ l[k] :: l.drop (k + 1) ∧ l.set k c = l.take k ++ c :: l.drop (k + 1) := by
  refine ⟨?_, List.set_eq_take_append_cons_drop.trans (by rw [if_pos h])⟩
  rw [← List.drop_eq_getElem_cons h, List.take_append_drop]
set_option maxHeartbeats 400000 in
theorem SumByte_walk (s : ByteArray) (at_ by_ : Int) (w : World) (hs : s.size ≤ 140737488351232) :
    Calls Try.prog 5 #[.string s, .int .i64 at_, .int .i64 by_] w fun e w' => e = .returned (.bool true) ∧ Below w.heap.size w w' := by
  by_cases h0 : s.size = 0
  · have h1 : ((s.size : Int) == 0) = true := by simp [h0]
    clear h0
    go_enter Try.func5, Try.ntmps5
    go_wp2_with fail
    refine (alive_any _).mono ?_; rintro e w2 ⟨rfl, hb2⟩
    go_wp2_with fail
    go_ret
    exact ⟨rfl, hb2⟩
  · have h1 : ((s.size : Int) == 0) = false := beq_eq_false_iff_ne.2 (by omega)
    by_cases hz : by_ % 256 = 0
    · have h2 : (bits .and .i64 by_ 255 == 0) = true := by rw [i64_and255]; simp [hz]
      clear hz
      go_enter Try.func5, Try.ntmps5
      go_wp2_with fail
      refine (alive_any _).mono ?_; rintro e w2 ⟨rfl, hb2⟩
      go_wp2_with fail
      go_ret
      exact ⟨rfl, hb2⟩
    · have h2 : (bits .and .i64 by_ 255 == 0) = false := by rw [i64_and255]; simpa using hz
      obtain ⟨d, hd⟩ := Int.eq_ofNat_of_zero_le (show 0 ≤ by_ % 256 by omega)
      have hwb : IntKind.u8.wrap by_ = (d : Int) := by rw [IntKind.wrap_u8, hd]
      have hd1 : d < 256 := by omega
      have hd0 : d ≠ 0 := by omega
      obtain ⟨m, hm⟩ := Int.eq_ofNat_of_zero_le (show 0 ≤ at_ % 16777216 by omega)
      have ha : bits .and .i64 at_ 16777215 = (m : Int) := by rw [i64_and24, hm]
      have hm1 : m < 16777216 := by omega
      obtain ⟨cap, W1, hcv, hB, hbel, hlt⟩ := bytes_made (P := Try.prog) w 9 33 5 s Try.underlying9 Try.underlying33 Try.underlying5
      have hk : m % s.size < s.size := Nat.mod_lt _ (by omega)
      have hkl : m % s.size < s.data.toList.length := by simpa using hk
      obtain ⟨hc, hf⟩ := hB (m % s.size) hkl
      obtain ⟨c, HC⟩ : ∃ c, Hid (s.data.toList[m % s.size] = c) := ⟨_, Lib.hid rfl⟩
      rw [HC.out] at hc
      have hx : bits .xor .u8 (c.toNat : Int) (d : Int) = ((c.toNat ^^^ d : Nat) : Int) := u8_xor_nat _ _ c.toNat_lt hd1
      have hxlt : c.toNat ^^^ d < 2 ^ 8 := Nat.xor_lt_two_pow (by have := c.toNat_lt; omega) (by omega)
      obtain ⟨x, Hx⟩ : ∃ x : UInt8, Hid (x.toNat = c.toNat ^^^ d) := ⟨UInt8.ofNat (c.toNat ^^^ d), Lib.hid (by rw [UInt8.toNat_ofNat']; exact Nat.mod_eq_of_lt hxlt)⟩
      rw [← Hx.out] at hx
      have HNE : Hid (c ≠ x) := Lib.hid (by
        intro e
        have h3 := Hx.out
        rw [← e] at h3
        have h4 : c.toNat ^^^ c.toNat = c.toNat ^^^ (c.toNat ^^^ d) := by rw [← h3]
        rw [Nat.xor_self, ← Nat.xor_assoc, Nat.xor_self, Nat.zero_xor] at h4
        exact hd0 h4.symm)
      have HB2 := Lib.hid (hB.set (m % s.size) x)
      have hback := bytes_back (P := Try.prog) HB2.out 33 9 5 s.size cap (by simp) Try.underlying33 Try.underlying5 Try.underlying9
      have HB1 := Lib.hid hB
      have HS : Hid (s.size ≤ maxLen) := Lib.hid (by unfold maxLen; omega)
      have HS2 : Hid ((⟨(s.data.toList.set (m % s.size) x).toArray⟩ : ByteArray).size ≤ maxLen) := Lib.hid (by rw [ba_size]; unfold maxLen; simp; omega)
      have hne : (((more begin_ (s.data.toList.set (m % s.size) x) : Nat) : Int) != ((more begin_ s.data.toList : Nat) : Int)) = true := by
        obtain ⟨e1, e2⟩ := set_split s.data.toList (m % s.size) x hkl
        have h5 := more_other begin_ begin_lt (s.data.toList.take (m % s.size)) (s.data.toList.drop (m % s.size + 1)) _ _ HNE.out
        rw [HC.out] at e1
        rw [← e1, ← e2] at h5
        rw [bne_iff_ne]
        intro h6
        exact h5 (by omega)
      have hi0 : 0 ≤ (m : Int) % (s.size : Int) := by omega
      have hi1 : (m : Int) % (s.size : Int) < (s.size : Int) := by omega
      clear hB hd hz hm hxlt hd0 hd1 hm1 h0
      go_enter Try.func5, Try.ntmps5
      go_wp2_with fail
      refine (Of_any _ _ HS2.out).mono ?_; rintro e w' ⟨rfl, rfl⟩
      go_wp2_with fail
      refine (Of_any _ _ HS.out).mono ?_; rintro e w' ⟨rfl, rfl⟩
      go_wp2_with fail
      refine (alive_any _).mono ?_; rintro e w2 ⟨rfl, hb2⟩
      go_wp2_with fail
      go_ret
      exact ⟨rfl, (hbel.setCell (Nat.le_refl _) _).trans (hb2.mono (by simp; omega))⟩
end Go.Proofs.Ythimmdaefmbcjaa
