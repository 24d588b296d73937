/-
  frame.front and Front. No statement is proved here.
-/
import Derived.Test.YthimmdaefmbcjaaDoorFrameW
import Derived.Test.YthimmdaefmbcjaaDoorFramePlain
import Derived.Lib.IndexBytes
namespace Go.Proofs.YthimmdaefmbcjaaDoor
open Go.RowKit
theorem or_i64 (n d : Nat) (hn : n < 16777216) (hd : d < 256) : bits .or .i64 ((n : Int) * 256) (d : Int) = ((n * 256 + d : Nat) : Int) := by
  have h1 : (BitVec.ofInt 64 ((n : Int) * 256)).toNat = n * 256 := by
    rw [show ((n : Int) * 256) = ((n * 256 : Nat) : Int) by omega, BitVec.ofInt_natCast, BitVec.toNat_ofNat]; exact Nat.mod_eq_of_lt (by omega)
  have h2 : (BitVec.ofInt 64 (d : Int)).toNat = d := by
    rw [BitVec.ofInt_natCast, BitVec.toNat_ofNat]; exact Nat.mod_eq_of_lt (by omega)
  show IntKind.i64.wrap ((BitVec.ofInt 64 ((n : Int) * 256) ||| BitVec.ofInt 64 (d : Int)).toNat : Int) = _
  rw [BitVec.toNat_or, h1, h2, IntKind.wrap_i64, Nat.mul_comm n 256]
  have h3 := Nat.two_pow_add_eq_or_of_lt (i := 8) (b := d) hd n
  rw [show (2 ^ 8 : Nat) = 256 from rfl] at h3
  rw [← h3]
  omega
def FrontIs (t : List UInt8) (at_ : Int) (w : World) (e : Ending) (w' : World) : Prop :=
  (frontC t = 0 ∧ e = .returned (.tuple #[.string ⟨(payL t).toArray⟩, .nilIface]) ∧ Below w.heap.size w w') ∨
  (frontC t ≠ 0 ∧ ∃ b, e = .returned (.tuple #[.string ⟨#[]⟩, .iface 58 (.pointer (some ⟨b, 0, none⟩))]) ∧ FaultAt w' b (frontC t) at_ ∧ Below w.heap.size w w')
set_option maxHeartbeats 4000000 in
set_option maxRecDepth 100000 in
theorem front_any (s : ByteArray) (at_ : Nat) (w : World) (hs : s.size ≤ 140737488351232) (ha : at_ ≤ s.size) :
    Calls Tryd.prog 24 #[.string s, .int .i64 at_] w (FrontIs (s.data.toList.drop at_) at_ w) := by
  obtain ⟨t, ht⟩ : ∃ t, s.extract at_ s.size = t := ⟨_, rfl⟩
  have htl : t.data.toList = s.data.toList.drop at_ := by rw [← ht]; exact Lib.extract_to_end s at_
  have hts : t.size ≤ 140737488351232 := by rw [← ba_len t, htl, List.length_drop, ba_len]; omega
  have HT := Lib.hid htl
  rw [← htl]
  clear htl
  by_cases h12 : t.size < 12
  · have HC := Lib.hid (front_short t.data.toList (by rw [ba_len]; exact h12))
    go_enter Tryd.func24, Tryd.ntmps24
    go_wp2_with fail
    refine (fault_any _ _ _).mono ?_; rintro e w1 ⟨b, rfl, hF, hb⟩
    have HF := Lib.hid hF
    clear hF
    go_wp2_with fail
    go_ret2
    refine .inr ⟨by rw [HC.out]; decide, b, rfl, ?_, hb⟩
    rw [HC.out]
    exact HF.out
  · have hge : 12 ≤ t.size := by omega
    clear h12
    go_enter Tryd.func24, Tryd.ntmps24
    go_wp2_with fail
    go_loop [6, 18] (fun n i => ∃ k m : Nat, k ≤ 4 ∧ i = .int .i64 k ∧ n = .int .i64 m ∧ Hid (m = beV (t.data.toList.take k))) (fun _ i => 4 - (intOf i).toNat)
    case atStart => exact ⟨0, 0, Nat.zero_le _, rfl, rfl, Lib.hid rfl⟩
    case round =>
      obtain ⟨k, m, hk, rfl, rfl, HM⟩ := hrel
      by_cases hlt : k < 4
      · have hkt : k < t.size := by omega
        have hm : m < 16777216 := by
          have h1 := beV_lt (t.data.toList.take k)
          have h2 : (t.data.toList.take k).length ≤ 3 := Nat.le_trans (List.length_take_le _ _) (by omega)
          have h3 : 256 ^ (t.data.toList.take k).length ≤ 256 ^ 3 := Nat.pow_le_pow_right (by decide) h2
          have h4 : (256 : Nat) ^ 3 = 16777216 := by decide
          have := HM.out
          omega
        have hc := t[k].toNat_lt
        have ho := or_i64 m t[k].toNat hm hc
        have HS := Lib.hid (take_snoc t k hkt)
        go_wp2_with fail
        go_round
        case rel => exact ⟨k + 1, m * 256 + t[k].toNat, by omega, by go_num, by go_num, Lib.hid (by rw [HS.out, beV_snoc, HM.out])⟩
        case measure => simp [intOf]; omega
      · obtain rfl : k = 4 := by omega
        have hm : m = len4 t.data.toList := HM.out
        have hm4 := len4_lt t.data.toList
        rw [← hm] at hm4
        have HM4 := Lib.hid hm
        clear hm HM
        by_cases h1 : 131072 < m
        · have HC : Hid (frontC t.data.toList = 4) := Lib.hid (by rw [frontC, if_neg (by rw [ba_len]; omega), if_pos (by rw [← HM4.out]; exact h1)])
          go_wp2_with fail
          refine (fault_any _ _ _).mono ?_; rintro e w1 ⟨b, rfl, hF, hb⟩
          have HF := Lib.hid hF
          clear hF
          go_wp2_with fail
          go_ret2
          refine .inr ⟨by rw [HC.out]; decide, b, rfl, ?_, hb⟩
          rw [HC.out]
          exact HF.out
        · have h1' : m ≤ 131072 := by omega
          clear h1
          by_cases h2 : t.size - 12 < m
          · have h2' : t.size < m + 12 := by omega
            have HC : Hid (frontC t.data.toList = 40) := Lib.hid (by rw [frontC, if_neg (by rw [ba_len]; omega), if_neg (by rw [← HM4.out]; omega), if_pos (by rw [← HM4.out, ba_len]; omega)])
            clear h2
            go_wp2_with fail
            refine (fault_any _ _ _).mono ?_; rintro e w1 ⟨b, rfl, hF, hb⟩
            have HF := Lib.hid hF
            clear hF
            go_wp2_with fail
            go_ret2
            refine .inr ⟨by rw [HC.out]; decide, b, rfl, ?_, hb⟩
            rw [HC.out]
            exact HF.out
          · have h2' : m + 12 ≤ t.size := by omega
            clear h2
            obtain ⟨q, hq⟩ : ∃ q, t.extract 12 (12 + m) = q := ⟨_, rfl⟩
            have hql : q.data.toList = payL t.data.toList := by rw [← hq, Lib.extract_data, payL, ← HM4.out]; congr 1; omega
            have hqs : q.size ≤ 131072 := by rw [← ba_len q, hql, payL_length _ (by rw [← HM4.out, ba_len]; omega), ← HM4.out]; exact h1'
            have HH := head_any q
            obtain ⟨x0, x1, x2, x3, x4, x5, x6, x7, x8, x9, x10, x11, hx⟩ := list12 (headL q.data.toList) (headL_length _)
            have HX := Lib.hid hx
            rw [hx] at HH
            simp only [u8s, List.map_cons, List.map_nil] at HH
            have HC := Lib.hid HH
            have HQ := Lib.hid hql
            obtain ⟨v, hv⟩ : ∃ v, t.extract 0 12 = v := ⟨_, rfl⟩
            have hvl : v.data.toList = t.data.toList.take 12 := by rw [← hv, Lib.extract_data]; simp
            have HV := Lib.hid hvl
            clear hx HH hql hvl
            by_cases hE : headL q.data.toList = t.data.toList.take 12
            · have hve : v = ⟨#[x0, x1, x2, x3, x4, x5, x6, x7, x8, x9, x10, x11]⟩ := ba_inj _ _ (by rw [HV.out, ← hE, HX.out])
              subst hve
              have HZ : Hid (frontC t.data.toList = 0) := Lib.hid (by rw [frontC, if_neg (by rw [ba_len]; omega), if_neg (by rw [← HM4.out]; omega), if_neg (by rw [← HM4.out, ba_len]; omega), ← HQ.out, if_pos hE])
              clear hE
              go_wp2_with fail
              refine (HC.out _ hqs).mono ?_; rintro e w1 ⟨rfl, hb⟩
              have hcv := fun C => conv_newN w1 C 48 w1.heap.size 12 12 [x0, x1, x2, x3, x4, x5, x6, x7, x8, x9, x10, x11] rfl rfl
              have hcv2 := hcv _ (cells_u8s _ _ [] (by simp [u8s]; rfl))
              go_wp2_with fail
              go_quiet (fail)
              go_wp2_with fail
              go_ret2
              refine .inl ⟨HZ.out, ret_val ?_, below_drewN (hb.alloc hb.size _) _⟩
              rw [← HQ.out]
              rfl
            · have HZ : Hid (frontC t.data.toList = 41) := Lib.hid (by rw [frontC, if_neg (by rw [ba_len]; omega), if_neg (by rw [← HM4.out]; omega), if_neg (by rw [← HM4.out, ba_len]; omega), ← HQ.out, if_neg hE])
              have hbq : ([x0, x1, x2, x3, x4, x5, x6, x7, x8, x9, x10, x11] == v.toList) = false := by
                rw [ByteArray.toList_eq]
                exact beq_eq_false_iff_ne.2 (fun e => hE (by rw [HX.out, ← HV.out, e]))
              clear hE
              go_wp2_with fail
              refine (HC.out _ hqs).mono ?_; rintro e w1 ⟨rfl, hb⟩
              have hcv := fun C => conv_newN w1 C 48 w1.heap.size 12 12 [x0, x1, x2, x3, x4, x5, x6, x7, x8, x9, x10, x11] rfl rfl
              have hcv2 := hcv _ (cells_u8s _ _ [] (by simp [u8s]; rfl))
              go_wp2_with fail
              go_quiet (fail)
              go_wp2_with fail
              refine (fault_any _ _ _).mono ?_; rintro e w2 ⟨b, rfl, hF, hb2⟩
              have HF := Lib.hid hF
              clear hF
              go_wp2_with fail
              go_ret2
              have hb1 := below_drewN (hb.alloc hb.size (.cells #[.int .u8 x0.toNat, .int .u8 x1.toNat, .int .u8 x2.toNat, .int .u8 x3.toNat, .int .u8 x4.toNat, .int .u8 x5.toNat, .int .u8 x6.toNat, .int .u8 x7.toNat, .int .u8 x8.toNat, .int .u8 x9.toNat, .int .u8 x10.toNat, .int .u8 x11.toNat] 48)) nq
              refine .inr ⟨by rw [HZ.out]; decide, b, rfl, ?_, hb1.trans (hb2.mono hb1.size)⟩
              rw [HZ.out]
              exact HF.out
def FrontsIs (t : List UInt8) (w : World) (e : Ending) (w' : World) : Prop :=
  (frontC t = 0 ∧ e = .returned (.tuple #[.string ⟨(payL t).toArray⟩, .string ⟨(t.drop (12 + (payL t).length)).toArray⟩, .nilIface]) ∧ Below w.heap.size w w') ∨
  (frontC t ≠ 0 ∧ ∃ b, e = .returned (.tuple #[.string ⟨#[]⟩, .string ⟨#[]⟩, .iface 58 (.pointer (some ⟨b, 0, none⟩))]) ∧ FaultAt w' b (frontC t) 0 ∧ Below w.heap.size w w')
set_option maxHeartbeats 1000000 in
theorem Front_any (s : ByteArray) (w : World) (hs : s.size ≤ 140737488351232) : Calls Tryd.prog 14 #[.string s] w (FrontsIs s.data.toList w) := by
  have hc := front_any s 0 w hs (Nat.zero_le _)
  rw [List.drop_zero, show ((0 : Nat) : Int) = 0 from rfl] at hc
  have HC := Lib.hid hc
  clear hc
  go_enter Tryd.func14, Tryd.ntmps14
  go_wp2_with fail
  refine HC.out.mono ?_; rintro e w1 (⟨h0, rfl, hb⟩ | ⟨hne, b, rfl, hF, hb⟩)
  · have hl : (payL s.data.toList).length + 12 ≤ s.size := by
      have hz := h0
      rw [frontC] at hz
      split at hz
      · cases hz
      · split at hz
        · cases hz
        · split at hz
          · cases hz
          · rw [payL_length _ (by omega)]
            rw [ba_len] at *
            omega
    obtain ⟨q, hq⟩ : ∃ q, (⟨(payL s.data.toList).toArray⟩ : ByteArray) = q := ⟨_, rfl⟩
    have hql : (payL s.data.toList).length = q.size := by rw [← hq, ba_size]
    rw [hq]
    rw [hql] at hl
    have HQ := Lib.hid hq
    have HQL := Lib.hid hql
    have H0 := Lib.hid h0
    clear hq hql h0
    go_wp2_with fail
    go_quiet ((go_at_call 11; exact Calls.quiet_of_same ((Size_any _ _ (by omega)).mono fun e w' h => ⟨h.1, h.2.symm⟩)))
    go_wp2_with fail
    go_ret3
    have e1 : (⟨(s.data.toList.drop (12 + (payL s.data.toList).length)).toArray⟩ : ByteArray) = s.extract (12 + q.size) s.size := ba_inj _ _ (by rw [HQL.out, Lib.extract_to_end])
    refine .inl ⟨H0.out, ret_val ?_, below_drewN hb _⟩
    rw [HQ.out, e1]
    rfl
  · have H0 := Lib.hid hne
    have HF := Lib.hid hF
    clear hne hF
    go_wp2_with fail
    go_ret3
    exact .inr ⟨H0.out, b, rfl, HF.out, hb⟩
end Go.Proofs.YthimmdaefmbcjaaDoor
