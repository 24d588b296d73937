/-
  The reference's Front. No statement is proved here.
-/
import Derived.Test.YthimmdaefmbcjaaDoorFrontW
import Derived.Test.YthimmdaefmbcjaaDoorRefW
namespace Go.Proofs.YthimmdaefmbcjaaDoor
open Go.RowKit
theorem front_fits (t : List UInt8) (h : frontC t = 0) : 12 + (payL t).length ≤ t.length := by
  unfold frontC at h
  split at h
  · cases h
  · split at h
    · cases h
    · split at h
      · cases h
      · rw [payL_length t (by omega)]; omega
def RFrontIs (t : List UInt8) (w : World) (e : Ending) (w' : World) : Prop :=
  (frontC t = 0 ∧ e = .returned (.tuple #[.string ⟨(payL t).toArray⟩, .string ⟨(t.drop (12 + (payL t).length)).toArray⟩, .int .i64 0]) ∧ Below w.heap.size w w') ∨
  (frontC t ≠ 0 ∧ e = .returned (.tuple #[.string ⟨#[]⟩, .string ⟨#[]⟩, .int .i64 (frontC t)]) ∧ Below w.heap.size w w')
set_option maxHeartbeats 4000000 in
set_option maxRecDepth 100000 in
theorem refFront_any (t : ByteArray) (w : World) (hs : t.size ≤ 140737488351232) :
    Calls Tryd.prog 15 #[.string t] w (RFrontIs t.data.toList w) := by
  by_cases h12 : t.size < 12
  · have HC := Lib.hid (front_short t.data.toList (by rw [ba_len]; exact h12))
    go_enter Tryd.func15, Tryd.ntmps15
    go_wp2_with fail
    go_ret3
    refine .inr ⟨by rw [HC.out]; decide, by rw [HC.out]; rfl, Below.refl _ _⟩
  · have hge : 12 ≤ t.size := by omega
    clear h12
    go_enter Tryd.func15, Tryd.ntmps15
    go_wp2_with fail
    go_loop [5, 6] (fun n i => ∃ k m : Nat, k ≤ 4 ∧ i = .int .i64 k ∧ n = .int .i64 m ∧ Hid (m = beV (t.data.toList.take k))) (fun _ i => 4 - (intOf i).toNat)
    case atStart => exact ⟨0, 0, Nat.zero_le _, rfl, rfl, Lib.hid rfl⟩
    case round =>
      obtain ⟨k, m, hk, rfl, rfl, HM⟩ := hrel
      by_cases hlt : k < 4
      · have hkt : k < t.size := by omega
        have hm : m < 16777216 := by
          have h1 := beV_lt (t.data.toList.take k)
          have h2 : (t.data.toList.take k).length ≤ 3 := Nat.le_trans (List.length_take_le _ _) (by omega)
          have h3 : 256 ^ (t.data.toList.take k).length ≤ 256 ^ 3 := Nat.pow_le_pow_right (by decide) h2
          have h4 : (256 : Nat) ^ 3 = 16777216 := by decide
          have := HM.out
          omega
        have hc := t[k].toNat_lt
        have ho := or_i64 m t[k].toNat hm hc
        have HS := Lib.hid (take_snoc t k hkt)
        go_wp2_with fail
        go_round
        case rel => exact ⟨k + 1, m * 256 + t[k].toNat, by omega, by go_num, by go_num, Lib.hid (by rw [HS.out, beV_snoc, HM.out])⟩
        case measure => simp [intOf]; omega
      · obtain rfl : k = 4 := by omega
        have hm : m = len4 t.data.toList := HM.out
        have hm4 := len4_lt t.data.toList
        rw [← hm] at hm4
        have HM4 := Lib.hid hm
        clear hm HM
        by_cases h1 : 131072 < m
        · have HC : Hid (frontC t.data.toList = 4) := Lib.hid (by rw [frontC, if_neg (by rw [ba_len]; omega), if_pos (by rw [← HM4.out]; exact h1)])
          go_wp2_with fail
          go_ret3
          exact .inr ⟨by rw [HC.out]; decide, by rw [HC.out]; rfl, Below.refl _ _⟩
        · have h1' : m ≤ 131072 := by omega
          clear h1
          by_cases h2 : t.size - 12 < m
          · have h2' : t.size < m + 12 := by omega
            have HC : Hid (frontC t.data.toList = 40) := Lib.hid (by rw [frontC, if_neg (by rw [ba_len]; omega), if_neg (by rw [← HM4.out]; omega), if_pos (by rw [← HM4.out, ba_len]; omega)])
            clear h2
            go_wp2_with fail
            go_ret3
            exact .inr ⟨by rw [HC.out]; decide, by rw [HC.out]; rfl, Below.refl _ _⟩
          · have h2' : m + 12 ≤ t.size := by omega
            clear h2
            obtain ⟨q, hq⟩ : ∃ q, t.extract 12 (12 + m) = q := ⟨_, rfl⟩
            have hql : q.data.toList = payL t.data.toList := by rw [← hq, Lib.extract_data, payL, ← HM4.out]; congr 1; omega
            have hqz : q.size = m := by rw [← ba_len q, hql, payL_length _ (by rw [← HM4.out, ba_len]; omega), ← HM4.out]
            obtain ⟨u, hu⟩ : ∃ u, t.extract 0 4 = u := ⟨_, rfl⟩
            have hul : u.data.toList = t.data.toList.take 4 := by rw [← hu, Lib.extract_data]; simp
            have hu4 : (t.data.toList.take 4) = be q.data.toList.length 4 := by
              have h4 : (t.data.toList.take 4).length = 4 := by rw [List.length_take, ba_len]; omega
              rw [ba_len, hqz, HM4.out, len4]
              have := be_beV (t.data.toList.take 4) 0
              rw [h4, Nat.zero_mul, Nat.zero_add] at this
              exact this.symm
            have hsum : more begin_ (u ++ q).data.toList = rsum q.data.toList := by
              rw [ByteArray.data_append, Array.toList_append, hul, hu4, more_append, rsum]
            have huz : u.size = 4 := by rw [← ba_len, hul, List.length_take, ba_len]; omega
            have hOf := fun W => refOf_any (u ++ q) W (by rw [ByteArray.size_append]; unfold maxLen; omega)
            rw [hsum] at hOf
            have hW := fun W => refWord_any (rsum q.data.toList) W (by unfold rsum; exact more_lt _ _ (more_lt _ _ begin_lt))
            obtain ⟨V, hV⟩ : ∃ V, (⟨(be (rsum q.data.toList) 8).toArray⟩ : ByteArray) = V := ⟨_, rfl⟩
            rw [hV] at hW
            obtain ⟨R, hR⟩ : ∃ R, t.extract 4 12 = R := ⟨_, rfl⟩
            have hrl : R.data.toList = (t.data.toList.drop 4).take 8 := by rw [← hR, Lib.extract_data]
            have HOf := Lib.hid hOf
            have HW := Lib.hid hW
            have HL : Hid (headL q.data.toList = t.data.toList.take 12 ↔ V = R) := Lib.hid (by
              have e12 : t.data.toList.take 12 = t.data.toList.take 4 ++ (t.data.toList.drop 4).take 8 := by
                rw [show 12 = 4 + 8 by rfl, List.take_add]
              rw [headL, e12, hu4, ← hrl]
              constructor
              · intro h
                have := List.append_cancel_left h
                exact ba_inj _ _ (by rw [← hV, ← this])
              · intro h
                rw [← h, ← hV])
            clear hql hul hu4 hsum hOf hW hV hrl
            go_upto_region 13 with fail
            go_cut [0, 5, 6, 7, 11, 32, 41] from 33 to 40 (fun a1 a2 _a5 a3 _a6 _a7 a4 wc => a1 = .string t ∧ a2 = .int .i64 m ∧ a3 = .string q ∧ (∃ B : Bool, a4 = .bool B ∧ Hid (B = false ↔ V = R)) ∧ Below w.heap.size w wc)
            case first =>
              go_region_with (first
                | (go_at_call 22; refine (HOf.out _).mono ?_; rintro e w' ⟨rfl, rfl⟩)
                | (go_at_call 21; refine (HW.out _).mono ?_; rintro e w2 ⟨rfl, hb2⟩))
              all_goals (go_wp2_with fail; go_meet)
              all_goals exact ⟨rfl, rfl, rfl, ⟨_, rfl, Lib.hid (by rw [Bool.not_eq_false', ByteArray.toList_eq, ByteArray.toList_eq, beq_iff_eq]; exact ⟨ba_inj _ _, fun h => by rw [h]⟩)⟩, ⟨hb2.os, hb2.tape, hb2.output, hb2.size, hb2.block⟩⟩
            case rest =>
              obtain ⟨rfl, rfl, rfl, ⟨B, rfl, HB⟩, hb⟩ := hcut
              have hql : q.data.toList = payL t.data.toList := by rw [← hq, Lib.extract_data, payL, ← HM4.out]; congr 1; omega
              have hfc : frontC t.data.toList = if V = R then 0 else 41 := by
                rw [frontC, if_neg (by rw [ba_len]; omega), if_neg (by rw [← HM4.out]; omega), if_neg (by rw [← HM4.out, ba_len]; omega), ← hql]
                by_cases h : V = R
                · rw [if_pos h, if_pos (HL.out.2 h)]
                · rw [if_neg h, if_neg (fun e => h (HL.out.1 e))]
              have HP : Hid ((⟨(payL t.data.toList).toArray⟩ : ByteArray) = q) := Lib.hid (by rw [← hql, ba_data])
              have HE : Hid ((⟨(t.data.toList.drop (12 + (payL t.data.toList).length)).toArray⟩ : ByteArray) = t.extract (12 + m) t.size) := Lib.hid (by
                rw [← hql, ba_len, hqz, ← Lib.extract_to_end, ba_data])
              clear hql
              cases B with
              | false =>
                have hC : frontC t.data.toList = 0 := by rw [hfc, if_pos (HB.out.1 rfl)]
                have HC := Lib.hid hC
                clear hfc hC
                go_wp2_with fail
                go_quiet (fail)
                go_wp2_with fail
                go_ret3
                refine .inl ⟨HC.out, ret_val ?_, ?_⟩
                · rw [HP.out, HE.out]
                  rfl
                · exact below_drewN hb _
              | true =>
                have hC : frontC t.data.toList = 41 := by rw [hfc, if_neg (fun h => by have := HB.out.2 h; simp at this)]
                have HC := Lib.hid hC
                clear hfc hC
                go_wp2_with fail
                go_ret3
                exact .inr ⟨by rw [HC.out]; decide, by rw [HC.out]; rfl, hb⟩
end Go.Proofs.YthimmdaefmbcjaaDoor
