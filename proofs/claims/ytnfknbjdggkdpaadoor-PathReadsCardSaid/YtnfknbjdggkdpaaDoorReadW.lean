import Derived.Test.YtnfknbjdggkdpaaDoorKit
import Derived.Test.YtnfknbjdggkdpaaDoorSumPlain
namespace Go.Proofs.YtnfknbjdggkdpaaDoor
open Go.RowKit
theorem ret_pair {j k : IntKind} {a b c d : Int} (h : a = b) (h' : c = d) : Ending.returned (.tuple #[.int j a, .int k c]) = .returned (.tuple #[.int j b, .int k d]) := by rw [h, h']
set_option maxHeartbeats 400000 in
theorem Read_any (s : ByteArray) (w : World) (hs : s.size ≤ maxLen) :
    Calls Tryd.prog 60 #[.string s] w fun e w' => e = .returned (.tuple #[.int .u64 (hexVal s.data.toList), .int .i64 (hexErr s.data.toList)]) ∧ w = w' := by
  unfold maxLen at hs
  by_cases h16 : s.size = 16
  · have H16 := Lib.hid h16
    have hb : ((s.size : Int) != 16) = false := by simp [h16]
    have hlo : s.size ≤ 16 := by omega
    have hhi : 16 ≤ s.size := by omega
    clear h16
    go_enter Tryd.func60, Tryd.ntmps60
    go_wp2
    go_loop [4, 12] (fun t i => ∃ k n : Nat, k ≤ s.size ∧ i = .int .i64 k ∧ t = .int .u64 n ∧ Hid (n < 16 ^ k) ∧ Hid (rdf 0 s.data.toList = rdf n (s.data.toList.drop k))) (fun _ i => s.size - (intOf i).toNat)
    case atStart => exact ⟨0, 0, Nat.zero_le _, rfl, rfl, Lib.hid (by decide), Lib.hid rfl⟩
    case round =>
      obtain ⟨k, n, hk, rfl, rfl, HN, HR⟩ := hrel
      by_cases hlt : k < s.size
      · have HC := Lib.hid (drop_cons s k hlt)
        by_cases h1 : 48 ≤ s[k].toNat ∧ s[k].toNat ≤ 57
        · have HD : Hid (dig s[k] = some (s[k].toNat - 48)) := Lib.hid (by unfold dig; rw [if_pos h1])
          obtain ⟨h1, h2⟩ := h1
          go_wp2
          go_round
          case rel =>
            have hd := dig_lt _ _ HD.out
            exact ⟨k + 1, n * 16 + (s[k].toNat - 48), by omega, by go_num, by rw [or_step n (s[k].toNat - 48) _ (by omega) (lt_15 n k (by omega) HN.out) hd], Lib.hid (pow_step _ _ _ hd HN.out), Lib.hid (by rw [HR.out, HC.out, rdf_some _ _ _ _ HD.out])⟩
          case measure => simp [intOf]; omega
        · by_cases h2 : 97 ≤ s[k].toNat ∧ s[k].toNat ≤ 102
          · have HD : Hid (dig s[k] = some (s[k].toNat - 87)) := Lib.hid (by unfold dig; rw [if_neg h1, if_pos h2])
            obtain ⟨h2, h3⟩ := h2
            have h1 : 57 < s[k].toNat := by omega
            go_wp2
            go_round
            case rel =>
              have hd := dig_lt _ _ HD.out
              exact ⟨k + 1, n * 16 + (s[k].toNat - 87), by omega, by go_num, by rw [or_step n (s[k].toNat - 87) _ (by omega) (lt_15 n k (by omega) HN.out) hd], Lib.hid (pow_step _ _ _ hd HN.out), Lib.hid (by rw [HR.out, HC.out, rdf_some _ _ _ _ HD.out])⟩
            case measure => simp [intOf]; omega
          · have HD : Hid (dig s[k] = none) := Lib.hid (by unfold dig; rw [if_neg h1, if_neg h2])
            have hz := Lib.hid (hex_of_none s.data.toList (.inr (by rw [HR.out, HC.out, rdf_none _ _ _ HD.out])))
            rcases (show s[k].toNat < 48 ∨ (57 < s[k].toNat ∧ s[k].toNat < 97) ∨ 102 < s[k].toNat by omega) with h3 | ⟨h3, h4⟩ | h3
            all_goals
              clear h1 h2
              go_wp2
              go_ret2
              exact ⟨ret_pair (by rw [hz.out.1]; rfl) (by rw [hz.out.2]), rfl⟩
      · go_wp2
        go_ret2
        have hr := HR.out
        rw [List.drop_of_length_le (by simp; omega)] at hr
        have hz := hex_of_some s.data.toList n (by simpa using H16.out) hr
        exact ⟨ret_pair (by rw [hz.1]) (by rw [hz.2]), rfl⟩
  · have hb : ((s.size : Int) != 16) = true := by simp; omega
    have hz := Lib.hid (hex_of_none s.data.toList (.inl (by simpa using h16)))
    go_enter Tryd.func60, Tryd.ntmps60
    go_wp2
    go_ret2
    exact ⟨ret_pair (by rw [hz.out.1]; rfl) (by rw [hz.out.2]), rfl⟩

def digI (c : UInt8) : Int := match dig c with | some d => d | none => -1
theorem digI_some (c : UInt8) (d : Nat) (h : dig c = some d) : digI c = d := by simp [digI, h]
theorem digI_none (c : UInt8) (h : dig c = none) : digI c = -1 := by simp [digI, h]
set_option maxHeartbeats 400000 in
theorem Digit_any (c : UInt8) (w : World) :
    Calls Tryd.prog 82 #[.int .u8 c.toNat] w fun e w' => e = .returned (.int .i64 (digI c)) ∧ w = w' := by
  have hc := c.toNat_lt
  by_cases h1 : 48 ≤ c.toNat ∧ c.toNat ≤ 57
  · have HD : Hid (dig c = some (c.toNat - 48)) := Lib.hid (by unfold dig; rw [if_pos h1])
    obtain ⟨h1, h2⟩ := h1
    go_enter Tryd.func82, Tryd.ntmps82
    go_wp2
    go_ret
    exact ⟨ret_int (by rw [digI_some _ _ HD.out]; omega), rfl⟩
  · by_cases h2 : 97 ≤ c.toNat ∧ c.toNat ≤ 102
    · have HD : Hid (dig c = some (c.toNat - 87)) := Lib.hid (by unfold dig; rw [if_neg h1, if_pos h2])
      obtain ⟨h2, h3⟩ := h2
      have h1 : 57 < c.toNat := by omega
      go_enter Tryd.func82, Tryd.ntmps82
      go_wp2
      go_ret
      exact ⟨ret_int (by rw [digI_some _ _ HD.out]; omega), rfl⟩
    · have HD : Hid (dig c = none) := Lib.hid (by unfold dig; rw [if_neg h1, if_neg h2])
      rcases (show c.toNat < 48 ∨ (57 < c.toNat ∧ c.toNat < 97) ∨ 102 < c.toNat by omega) with h3 | ⟨h3, h4⟩ | h3
      all_goals
        clear h1 h2
        go_enter Tryd.func82, Tryd.ntmps82
        go_wp2
        go_ret
        exact ⟨ret_int (by rw [digI_none _ HD.out]), rfl⟩

set_option maxHeartbeats 400000 in
theorem refRead_any (s : ByteArray) (w : World) (hs : s.size ≤ maxLen) :
    Calls Tryd.prog 63 #[.string s] w fun e w' => e = .returned (.tuple #[.int .u64 (hexVal s.data.toList), .int .i64 (hexErr s.data.toList)]) ∧ w = w' := by
  unfold maxLen at hs
  by_cases h16 : s.size = 16
  · have H16 := Lib.hid h16
    have hb : ((s.size : Int) != 16) = false := by simp [h16]
    have hlo : s.size ≤ 16 := by omega
    have hhi : 16 ≤ s.size := by omega
    clear h16
    go_enter Tryd.func63, Tryd.ntmps63
    go_wp2
    go_loop [4, 5] (fun t i => ∃ k n : Nat, k ≤ s.size ∧ i = .int .i64 k ∧ t = .int .u64 n ∧ Hid (n < 16 ^ k) ∧ Hid (rdf 0 s.data.toList = rdf n (s.data.toList.drop k))) (fun _ i => s.size - (intOf i).toNat)
    case atStart => exact ⟨0, 0, Nat.zero_le _, rfl, rfl, Lib.hid (by decide), Lib.hid rfl⟩
    case round =>
      obtain ⟨k, n, hk, rfl, rfl, HN, HR⟩ := hrel
      by_cases hlt : k < s.size
      · have HC := Lib.hid (drop_cons s k hlt)
        cases hd : dig s[k] with
        | some d =>
          have hd16 := dig_lt _ _ hd
          have hI := digI_some _ _ hd
          have HD := Lib.hid hd
          clear hd
          go_wp2_with (go_at_call 82; refine (Digit_any _ _).mono ?_; rintro e w' ⟨rfl, rfl⟩)
          go_round
          case rel =>
            exact ⟨k + 1, n * 16 + d, by omega, by go_num, by rw [or_step n d _ (by simp) (lt_15 n k (by omega) HN.out) hd16], Lib.hid (pow_step _ _ _ hd16 HN.out), Lib.hid (by rw [HR.out, HC.out, rdf_some _ _ _ _ HD.out])⟩
          case measure => simp [intOf]; omega
        | none =>
          have hI := digI_none _ hd
          have hz := Lib.hid (hex_of_none s.data.toList (.inr (by rw [HR.out, HC.out, rdf_none _ _ _ hd])))
          clear hd
          go_wp2_with (go_at_call 82; refine (Digit_any _ _).mono ?_; rintro e w' ⟨rfl, rfl⟩)
          go_ret2
          exact ⟨ret_pair (by rw [hz.out.1]; rfl) (by rw [hz.out.2]), rfl⟩
      · go_wp2
        go_ret2
        have hr := HR.out
        rw [List.drop_of_length_le (by simp; omega)] at hr
        have hz := hex_of_some s.data.toList n (by simpa using H16.out) hr
        exact ⟨ret_pair (by rw [hz.1]) (by rw [hz.2]), rfl⟩
  · have hb : ((s.size : Int) != 16) = true := by simp; omega
    have hz := Lib.hid (hex_of_none s.data.toList (.inl (by simpa using h16)))
    go_enter Tryd.func63, Tryd.ntmps63
    go_wp2
    go_ret2
    exact ⟨ret_pair (by rw [hz.out.1]; rfl) (by rw [hz.out.2]), rfl⟩
end Go.Proofs.YtnfknbjdggkdpaaDoor
