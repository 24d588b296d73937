/-
  'yanklinelaw24.NetMany': the walk. No statement is proved here.
-/
import Derived.Test.YtbmlgnmilolamaaDoorLoseW
import Derived.Test.YtbmlgnmilolamaaDoorCodeN
import Derived.Test.YtbmlgnmilolamaaDoorBytesW
namespace Go.Proofs.YtbmlgnmilolamaaDoor
open Go.RowKit
def manP (i : Nat) (s : ByteArray) : Un := (0, i, 0, 0, s)
def manL : Nat → List Un
  | 0 => []
  | i + 1 => manP i ⟨#[]⟩ :: manL i
theorem manL_mem : ∀ {i : Nat} {y : Un}, y ∈ manL i → y.1 = 0 ∧ y.2.1 < i ∧ y.2.2.2.1 = 0
  | 0, _, h => by cases h
  | i + 1, y, h => by
    rcases List.mem_cons.1 h with rfl | h
    · exact ⟨rfl, Nat.lt_succ_self _, rfl⟩
    · have := manL_mem h
      exact ⟨this.1, by omega, this.2.2⟩
theorem manL_len : ∀ i, (manL i).length = i
  | 0 => rfl
  | i + 1 => by rw [manL, List.length_cons, manL_len i]
theorem man_ins (i k : Nat) (s : ByteArray) (h : k ≤ i) : ins (manP i s) (manL k) = manP i s :: manL k := by
  rw [ins]
  cases k with
  | zero => rfl
  | succ k =>
    have : ahead (manP k ⟨#[]⟩) (manP i s) = false := by
      cases h2 : ahead (manP k ⟨#[]⟩) (manP i s) with
      | false => rfl
      | true => rw [ahead_iff] at h2; simp only [manP] at h2; omega
    rw [manL, List.takeWhile_cons, List.dropWhile_cons, this]
    rfl
/-- So many were sent, so many are under way. -/
def manT (n k : Nat) : NetS := ⟨1, 0, n, [], manL k⟩
def manU (n k : Nat) (s : ByteArray) : NetS := ⟨1, 0, n + 1, [], manP n s :: manL k⟩
theorem man_fate (n : Nat) (l : List Un) : (⟨1, 0, n, [], l⟩ : NetS).fate = (false, 0, 0) := by simp [NetS.fate]
theorem man_send (n k : Nat) (s : ByteArray) (h : k ≤ n) (hk : k < 4096) (hs : s.size ≤ 1048576) : (manT n k).send 0 0 s = (0, manU n k s) := by
  have hf : (manT n k).fate = (false, 0, 0) := man_fate n _
  have hw : (manT n k).way.length = k := manL_len k
  rw [NetS.send, if_neg (by simp [NetS.isEnd, manT]), if_neg (by omega), hf, if_neg (by show ¬ (false = true); decide), if_neg (by rw [hw]; simp only; omega)]
  simp only [NetS.lay, manT, Nat.add_zero]
  rw [show ((0, n, (0 : Int), (0 : Int), s) : Un) = manP n s from rfl, man_ins n k s h]
  rfl
theorem man_full (n k : Nat) (s : ByteArray) (hk : k = 4096) (hs : s.size ≤ 1048576) : (manT n k).send 0 0 s = (4, manT n k) := by
  have hf : (manT n k).fate = (false, 0, 0) := man_fate n _
  have hw : (manT n k).way.length = k := manL_len k
  rw [NetS.send, if_neg (by simp [NetS.isEnd, manT]), if_neg (by omega), hf, if_neg (by show ¬ (false = true); decide), if_pos (by rw [hw]; simp only; omega)]
theorem man_long (σ : NetS) (s : ByteArray) (h : σ.ends = 1) (hs : 1048576 < s.size) : σ.send 0 0 s = (4, σ) := by
  rw [NetS.send, if_neg (by simp [NetS.isEnd, h]), if_pos hs]
theorem man_next (n k : Nat) : (manT n (k + 1)).next = (some (0, 0, ⟨#[]⟩), manT n k) := by
  simp [NetS.next, manT, manL, manP]
theorem man_keep (n k : Nat) (s : ByteArray) : keep 0 (manU n k s).way = [] := by
  unfold keep
  rw [List.filter_eq_nil_iff]
  intro x hx
  have h0 : x.2.2.2.1 = 0 := by
    rcases List.mem_cons.1 hx with rfl | hx
    · rfl
    · exact (manL_mem hx).2.2
  simp [toE, h0]
theorem man_lose (n k : Nat) (s : ByteArray) : (manU n k s).lose 0 = manT (n + 1) 0 := by
  have h := keep_lose (manU n k s) 0
  rw [man_keep] at h
  show (⟨1, 0, n + 1, [], ((manU n k s).lose 0).way⟩ : NetS) = _
  rw [h]
  rfl
theorem make_text (w : World) (n : Nat) (hn : n ≤ 140737488351232) : ∃ (W1 : World) (S : ByteArray), S.size = n ∧ Below w.heap.size w W1 ∧
    (Instr.makeSlice 35 (.int .i64 n) (.int .i64 n)).run Tryd.prog w = .ok (.slice (some ⟨w.heap.size, 0, none⟩) n n) W1 ∧
    (convert 35 9 (.slice (some ⟨w.heap.size, 0, none⟩) n n)).run Tryd.prog W1 = .ok (.string S) W1 := by
  obtain ⟨W1, h1, h2, h3, _⟩ := make_bytes w n hn
  refine ⟨W1, ⟨(List.replicate n 0).toArray⟩, by rw [ba_size, List.length_replicate], h3, h1, ?_⟩
  exact bytes_back h2 35 9 5 n n (List.length_replicate ..) Tryd.underlying35 Tryd.underlying5 Tryd.underlying9
set_option maxHeartbeats 4000000 in
set_option maxRecDepth 100000 in
theorem NetMany_walk (w : World) (hH : Handle w) :
    Calls Tryd.prog 3 #[] w fun e w' => e = .returned (.bool true) ∧ Below w.heap.size w w' := by
  have HH := Lib.hid hH
  clear hH
  have HNEW := Lib.hid (mine_new (w0 := w) (w := w) 1 none 0 0 [] (Below.refl _ _) ⟨rfl, fun h => by omega⟩ (by omega) (by decide) (by simp))
  go_enter Tryd.func3, Tryd.ntmps3
  go_wp2_with fail
  refine HNEW.out.mono ?_; rintro e w1 ⟨p, rfl, hm⟩
  have HM1 : Hid (Mine w w1 p (manT 0 0)) := Lib.hid hm
  clear hm HNEW
  go_wp2_with fail
  go_loopw [3] (fun i wr => ∃ j : Nat, j ≤ 4096 ∧ i = .int .i64 j ∧ Hid (Mine w wr p (manT j j))) (fun i _ => 4096 - (intOf i).toNat)
  case atStart => exact ⟨0, Nat.zero_le _, rfl, HM1⟩
  case round =>
    obtain ⟨j, hj, rfl, HM⟩ := hrel
    clear HM1
    by_cases hlt : j < 4096
    · have HS := Lib.hid (mine_send 0 0 ⟨#[]⟩ (by decide) (man_send j j ⟨#[]⟩ (Nat.le_refl _) hlt (by decide)) ⟨by show 0 < _; decide, by show j < _; omega⟩ HM.out)
      go_wp2_with fail
      refine HS.out.mono ?_; rintro e w2 ⟨rfl, hm, _⟩
      have HM2 : Hid (Mine w w2 p (manT (j + 1) (j + 1))) := Lib.hid hm
      clear hm HS
      go_wp2_with fail
      go_roundw
      case rel => exact ⟨j + 1, by omega, by go_num, HM2⟩
      case measure => simp [intOf]; omega
    · have hj2 : j = 4096 := by omega
      have HJ := Lib.hid hj2
      obtain ⟨k, hk⟩ : ∃ k, j = k + 1 := ⟨j - 1, by omega⟩
      have HK := Lib.hid hk
      have HS := Lib.hid (mine_send_no 0 0 ⟨#[]⟩ (by decide) 4 (by decide) (man_full j j ⟨#[]⟩ hj2 (by decide)) ⟨by show 0 < _; decide, by show j < _; omega⟩ HM.out)
      clear hj2 hk
      go_wp2_with fail
      refine HS.out.mono ?_; rintro e w2 ⟨hm, _, b, rfl, hF⟩
      have HM2 := Lib.hid hm
      have HC := Lib.hid (code_fault b 4 (-1) w2 hF (HH.out.below hm.1))
      clear hm hF HS
      go_wp2_with fail
      refine HC.out.mono ?_; rintro e w3 ⟨rfl, hb⟩
      have HM3 : Hid (Mine w w3 p (manT j (k + 1))) := Lib.hid (by have := HM2.out.below hb; rw [HK.out] at this ⊢; exact this)
      clear hb HC
      go_wp2_with fail
      refine (mine_next (man_next j k) HM3.out).mono ?_; rintro e w4 ⟨rfl, hm, _⟩
      have HM4 := Lib.hid (hm.below ((Below.refl _ _).alloc (Nat.le_refl _) (.cells #[.int .i64 0, .int .i64 0, .string ⟨#[]⟩] 31)))
      clear hm
      simp only [nextV, pkV, Option.isSome]
      have HS := Lib.hid (mine_send 0 0 ⟨#[]⟩ (by decide) (man_send j k ⟨#[]⟩ (by have := HK.out; omega) (by have := HK.out; omega) (by decide)) ⟨by show 0 < _; decide, by show j < _; omega⟩ HM4.out)
      go_wp2_with fail
      refine HS.out.mono ?_; rintro e w5 ⟨rfl, hm, _⟩
      have HM5 := Lib.hid hm
      clear hm HS
      go_wp2_with fail
      have HL := Lib.hid (mine_lose 0 HM5.out)
      rw [man_lose] at HL
      refine HL.out.mono ?_; rintro e w6 ⟨rfl, hm, _⟩
      have HM6 := Lib.hid hm
      clear hm HL
      obtain ⟨W7, S7, hs7, hb7, hmk, hcv⟩ := make_text w6 1048576 (by decide)
      have HM7 := Lib.hid (HM6.out.below hb7)
      have HS7 := Lib.hid hs7
      have hmk' : (Instr.makeSlice 35 (.int .i64 1048576) (.int .i64 1048576)).run Tryd.prog w6 = .ok (.slice (some ⟨w6.heap.size, 0, none⟩) 1048576 1048576) W7 := hmk
      clear hs7 hb7 hmk
      go_wp2_with fail
      have HS := Lib.hid (mine_send 0 0 S7 (by have := HS7.out; omega) (man_send (j + 1) 0 S7 (Nat.zero_le _) (by decide) (by have := HS7.out; omega)) ⟨by show 0 < _; decide, by show j + 1 < _; have := HJ.out; omega⟩ HM7.out)
      refine HS.out.mono ?_; rintro e w8 ⟨rfl, hm, _⟩
      have HM8 := Lib.hid hm
      clear hm HS hcv hmk'
      obtain ⟨W9, S9, hs9, hb9, hmk, hcv⟩ := make_text w8 1048577 (by decide)
      have HM9 := Lib.hid (HM8.out.below hb9)
      have HS9 := Lib.hid hs9
      have hmk' : (Instr.makeSlice 35 (.int .i64 1048577) (.int .i64 1048577)).run Tryd.prog w8 = .ok (.slice (some ⟨w8.heap.size, 0, none⟩) 1048577 1048577) W9 := hmk
      clear hs9 hb9 hmk
      have HS := Lib.hid (mine_send_no 0 0 S9 (by have := HS9.out; omega) 4 (by decide) (man_long (manU (j + 1) 0 S7) S9 rfl (by have := HS9.out; omega)) ⟨by show 0 < _; decide, by show j + 1 + 1 < _; have := HJ.out; omega⟩ HM9.out)
      go_wp2_with fail
      refine HS.out.mono ?_; rintro e w10 ⟨hm, _, b2, rfl, hF⟩
      have HM10 := Lib.hid hm
      have HC := Lib.hid (code_fault b2 4 (-1) w10 hF (HH.out.below hm.1))
      clear hm hF HS hcv hmk'
      go_wp2_with fail
      refine HC.out.mono ?_; rintro e w11 ⟨rfl, hb⟩
      have HM11 := Lib.hid (HM10.out.below hb)
      clear hb HC
      go_wp2_with fail
      refine (mine_sent HM11.out).mono ?_; rintro e w' ⟨rfl, rfl⟩
      have hsn : ((manU (j + 1) 0 S7).sent : Int) = 4098 := by show ((j + 1 + 1 : Nat) : Int) = _; have := HJ.out; omega
      have HLV := Lib.hid (fun W => lives_any W)
      go_wp2_with fail
      refine (HLV.out _).mono ?_; rintro e w12 ⟨rfl, hb⟩
      have HB := Lib.hid (HM11.out.1.trans (hb.mono HM11.out.1.size))
      clear hb
      go_wp2_with fail
      go_ret
      exact ⟨rfl, HB.out⟩
end Go.Proofs.YtbmlgnmilolamaaDoor
