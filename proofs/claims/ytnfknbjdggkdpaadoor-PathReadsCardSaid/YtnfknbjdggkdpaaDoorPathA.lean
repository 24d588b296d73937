/-
  path: numbers, the names made. No statement is proved here.
-/
import Derived.Test.YtnfknbjdggkdpaaDoorDecPlain
import Derived.Test.YtnfknbjdggkdpaaDoorIsW
import Derived.Test.YtnfknbjdggkdpaaDoorTextW
import Derived.Test.YtnfknbjdggkdpaaDoorHexW
namespace Go.Proofs.YtnfknbjdggkdpaaDoor
open Go.RowKit
theorem isD_iff (c : UInt8) : isD c = true ↔ 48 ≤ c.toNat ∧ c.toNat ≤ 57 := by unfold isD; rw [decide_eq_true_iff]
set_option maxHeartbeats 1000000 in
set_option maxRecDepth 100000 in
theorem number_any (s : ByteArray) (w : World) (hs : s.size ≤ 140737488355328) : Calls Tryd.prog 59 #[.string s] w fun e w' => e = .returned (.int .i64 (numP 0 s.data.toList)) ∧ w = w' := by
  go_enter Tryd.func59, Tryd.ntmps59
  go_wp2_with fail
  go_loop [3, 7] (fun n i => ∃ k m : Nat, n = .int .i64 m ∧ i = .int .i64 k ∧ k ≤ s.size ∧ m ≤ 10995116277769 ∧ Hid (numP m (s.data.toList.drop k) = numP 0 s.data.toList)) (fun _ i => s.size - (intOf i).toNat)
  case atStart => exact ⟨0, 0, rfl, rfl, by omega, by omega, Lib.hid rfl⟩
  case round =>
    obtain ⟨k, m, rfl, rfl, hk, hm, HG⟩ := hrel
    by_cases hlt : k < s.size
    · obtain ⟨c, hc⟩ : ∃ c, s[k] = c := ⟨_, rfl⟩
      have hd := drop_ba s k hlt
      rw [hc] at hd
      rw [hd, numP] at HG
      clear hd
      by_cases hD : isD c = true ∧ m ≤ 1099511627776
      · rw [if_pos hD] at HG
        obtain ⟨h1, h2⟩ := hD
        rw [isD_iff] at h1
        obtain ⟨h3, h4⟩ := h1
        go_wp2_with fail
        go_round
        case rel => exact ⟨k + 1, 10 * m + (c.toNat - 48), by go_num, by go_num, by omega, by omega, HG⟩
        case measure => simp [intOf]; omega
      · rw [if_neg hD] at HG
        have h3 : c.toNat < 48 ∨ (48 ≤ c.toNat ∧ 57 < c.toNat) ∨ (48 ≤ c.toNat ∧ c.toNat ≤ 57 ∧ 1099511627776 < m) := by
          have h := isD_iff c
          by_cases h1 : isD c = true
          · have := h.1 h1
            have : ¬ m ≤ 1099511627776 := fun x => hD ⟨h1, x⟩
            omega
          · have : ¬ (48 ≤ c.toNat ∧ c.toNat ≤ 57) := fun x => h1 (h.2 x)
            omega
        clear hD
        rcases h3 with h | ⟨h, g⟩ | ⟨h, g, f⟩
        all_goals
          go_wp2_with fail
          go_ret
          rw [← HG.out]
          exact ⟨rfl, rfl⟩
    · obtain rfl : k = s.size := by omega
      go_wp2_with fail
      go_ret
      have := HG.out
      rw [List.drop_of_length_le (by rw [ba_len]; omega), numP] at this
      rw [← this]
      exact ⟨rfl, rfl⟩
set_option maxHeartbeats 1000000 in
set_option maxRecDepth 100000 in
theorem refnumber_any (s : ByteArray) (w : World) (hs : s.size ≤ 140737488355328) : Calls Tryd.prog 62 #[.string s] w fun e w' => e = .returned (.int .i64 (numR' s.data.toList)) ∧ w = w' := by
  by_cases h0 : s.size = 0
  · obtain rfl : s = ⟨#[]⟩ := by
      apply ba_inj
      exact List.eq_nil_of_length_eq_zero (by rw [ba_len]; omega)
    go_enter Tryd.func62, Tryd.ntmps62
    go_wp2_with fail
    go_ret
    exact ⟨rfl, rfl⟩
  · have hne : s.toList.isEmpty = false := by
      rw [ByteArray.toList_eq]
      cases hl : s.data.toList with
      | nil =>
        have := ba_len s
        rw [hl] at this
        simp at this
        omega
      | cons _ _ => rfl
    have hnl : ¬ s.data.toList = [] := fun h => by have := ba_len s; rw [h] at this; simp at this; omega
    by_cases h10 : 10 < s.size
    · have HR : Hid (numR' s.data.toList = -1) := Lib.hid (by rw [numR', if_pos (.inr (by rw [ba_len]; exact h10))])
      clear h0 hnl
      go_enter Tryd.func62, Tryd.ntmps62
      go_wp2_with fail
      go_ret
      rw [HR.out]
      exact ⟨rfl, rfl⟩
    · have HR0 : Hid (dval 0 s.data.toList = none → numR' s.data.toList = -1) := Lib.hid (fun h => by rw [numR', if_neg (by rw [ba_len]; exact fun x => x.elim hnl h10), h])
      have HR1 : Hid (∀ v : Nat, dval 0 s.data.toList = some v → numR' s.data.toList = (v : Int)) := Lib.hid (fun v h => by rw [numR', if_neg (by rw [ba_len]; exact fun x => x.elim hnl h10), h])
      have hle : s.size ≤ 10 := by omega
      clear h0 hnl h10
      go_enter Tryd.func62, Tryd.ntmps62
      go_wp2_with fail
      go_loop [3, 4] (fun n i => ∃ k m : Nat, n = .int .i64 m ∧ i = .int .i64 k ∧ k ≤ s.size ∧ Hid (m < 10 ^ k) ∧ m < 10000000000 ∧ Hid (dval m (s.data.toList.drop k) = dval 0 s.data.toList)) (fun _ i => s.size - (intOf i).toNat)
      case atStart => exact ⟨0, 0, rfl, rfl, by omega, Lib.hid (by decide), by omega, Lib.hid rfl⟩
      case round =>
        obtain ⟨k, m, rfl, rfl, hk, HM, hm, HG⟩ := hrel
        by_cases hlt : k < s.size
        · obtain ⟨c, hc⟩ : ∃ c, s[k] = c := ⟨_, rfl⟩
          have hd := drop_ba s k hlt
          rw [hc] at hd
          rw [hd, dval] at HG
          clear hd
          by_cases hD : isD c = true
          · rw [if_pos hD] at HG
            rw [isD_iff] at hD
            obtain ⟨h3, h4⟩ := hD
            have hst : 10 * m + (c.toNat - 48) < 10 ^ (k + 1) := by
              have := HM.out
              rw [Nat.pow_succ]
              omega
            have hst2 : 10 * m + (c.toNat - 48) < 10000000000 := by
              have h5 : (10 : Nat) ^ (k + 1) ≤ 10 ^ 10 := Nat.pow_le_pow_right (by decide) (by omega)
              have h6 : (10 : Nat) ^ 10 = 10000000000 := by decide
              omega
            have HST := Lib.hid hst
            clear hst
            go_wp2_with fail
            go_round
            case rel => exact ⟨k + 1, 10 * m + (c.toNat - 48), by go_num, by go_num, by omega, HST, hst2, HG⟩
            case measure => simp [intOf]; omega
          · rw [if_neg hD] at HG
            have h3 : c.toNat < 48 ∨ (48 ≤ c.toNat ∧ 57 < c.toNat) := by
              have h := isD_iff c
              have : ¬ (48 ≤ c.toNat ∧ c.toNat ≤ 57) := fun x => hD (h.2 x)
              omega
            clear hD
            rcases h3 with h | ⟨h, g⟩
            all_goals
              go_wp2_with fail
              go_ret
              rw [HR0.out HG.out.symm]
              exact ⟨rfl, rfl⟩
        · obtain rfl : k = s.size := by omega
          go_wp2_with fail
          go_ret
          have := HG.out
          rw [List.drop_of_length_le (by rw [ba_len]; omega), dval] at this
          rw [HR1.out m this.symm]
          exact ⟨rfl, rfl⟩
end Go.Proofs.YtnfknbjdggkdpaaDoor
