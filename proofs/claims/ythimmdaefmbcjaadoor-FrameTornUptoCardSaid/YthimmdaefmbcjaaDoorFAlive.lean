/-
  The frame laws' 'alive'. No statement is proved here.
-/
import Derived.Test.YthimmdaefmbcjaaDoorFrontW
namespace Go.Proofs.YthimmdaefmbcjaaDoor
open Go.RowKit
theorem Of_ok (p : ByteArray) (w : World) (hp : p.size ≤ 131072) : Calls Tryd.prog 8 #[.string p] w fun e w' => e = .returned (.tuple #[.string ⟨(recL p.data.toList).toArray⟩, .nilIface]) ∧ Below w.heap.size w w' := by
  refine (Of_frame p w (by omega)).mono ?_
  rintro e w' (⟨_, rfl, hb⟩ | ⟨h, _⟩)
  · exact ⟨rfl, hb⟩
  · omega
theorem Front_ok (s p r : ByteArray) (w : World) (hs : s.size ≤ 140737488351232) (hp : p.size ≤ 131072) (hr : s.data.toList = recL p.data.toList ++ r.data.toList) :
    Calls Tryd.prog 14 #[.string s] w fun e w' => e = .returned (.tuple #[.string p, .string r, .nilIface]) ∧ Below w.heap.size w w' := by
  have hf := front_rec p.data.toList r.data.toList (by rw [ba_len]; exact hp)
  rw [show headL p.data.toList ++ p.data.toList ++ r.data.toList = s.data.toList from hr.symm] at hf
  refine (Front_any s w hs).mono ?_
  rintro e w' (⟨_, rfl, hb⟩ | ⟨h, _⟩)
  · rw [hf.2]
    have hd : s.data.toList.drop (12 + p.data.toList.length) = r.data.toList := by
      rw [hr, ← recL_length, List.drop_left]
    rw [hd, ba_data, ba_data]
    exact ⟨rfl, hb⟩
  · exact absurd hf.1 h
def FrontBad (c : Nat) (w : World) (e : Ending) (w' : World) : Prop := ∃ b, e = .returned (.tuple #[.string ⟨#[]⟩, .string ⟨#[]⟩, .iface 58 (.pointer (some ⟨b, 0, none⟩))]) ∧ FaultAt w' b c 0 ∧ Below w.heap.size w w'
theorem Front_bad (s : ByteArray) (c : Nat) (w : World) (hs : s.size ≤ 140737488351232) (hc : frontC s.data.toList = c) (h0 : c ≠ 0) :
    Calls Tryd.prog 14 #[.string s] w (FrontBad c w) := by
  refine (Front_any s w hs).mono ?_
  rintro e w' (⟨h, _⟩ | ⟨_, b, rfl, hF, hb⟩)
  · exact absurd (hc.symm.trans h) h0
  · exact ⟨b, rfl, by rw [← hc]; exact hF, hb⟩
set_option maxHeartbeats 1000000 in
set_option maxRecDepth 100000 in
theorem alive_any (w : World) (hT : TabAny w) (hH : Handle w) : Calls Tryd.prog 13 #[] w fun e w' => e = .returned (.bool true) ∧ Below w.heap.size w w' := by
  obtain ⟨S, hS⟩ : ∃ S, S = (⟨(recL (⟨#[97, 98, 99]⟩ : ByteArray).data.toList).toArray⟩ : ByteArray) := ⟨_, rfl⟩
  have hOf := Of_ok ⟨#[97, 98, 99]⟩ w (by simp [ByteArray.size])
  rw [← hS] at hOf
  have hz : S.size = 15 := by rw [hS, ba_size, recL_length]; rfl
  have hSl : S.data.toList = recL (⟨#[97, 98, 99]⟩ : ByteArray).data.toList := by rw [hS]
  have hx : (S ++ ⟨#[120]⟩).data.toList = recL (⟨#[97, 98, 99]⟩ : ByteArray).data.toList ++ (⟨#[120]⟩ : ByteArray).data.toList := by rw [ByteArray.data_append, Array.toList_append, hSl]
  have hF := fun W => Front_ok (S ++ ⟨#[120]⟩) ⟨#[97, 98, 99]⟩ ⟨#[120]⟩ W (by rw [ByteArray.size_append, hz]; decide) (by simp [ByteArray.size]) hx
  have h7 : (S.extract 0 7).data.toList.length = 7 := by rw [Lib.extract_data, List.length_take, List.length_drop, ba_len, hz]; rfl
  have hB := fun W => Front_bad (S.extract 0 7) 40 W (by rw [← ba_len, h7]; decide) (front_short _ (by rw [h7]; decide)) (by decide)
  have hsz := fun W => Size_any ⟨#[97, 98, 99]⟩ W (by simp [ByteArray.size])
  have HO := Lib.hid hOf
  have HF := Lib.hid hF
  have HB := Lib.hid hB
  have HS := Lib.hid hsz
  have HT := Lib.hid hT
  have HH := Lib.hid hH
  clear hOf hF hB hS hSl hx h7 hT hH hsz
  go_enter Tryd.func13, Tryd.ntmps13
  go_wp2_with fail
  refine HO.out.mono ?_; rintro e w1 ⟨rfl, hb1⟩
  go_wp2_with fail
  refine (HF.out _).mono ?_; rintro e w2 ⟨rfl, hb2⟩
  go_wp2_with fail
  refine (HB.out _).mono ?_; rintro e w3 ⟨b, rfl, hFt, hb3⟩
  have HFt := Lib.hid hFt
  clear hFt
  go_wp2_with fail
  refine (HS.out _).mono ?_; rintro e w' ⟨rfl, rfl⟩
  have hB3 : Below w.heap.size w w3 := (hb1.trans (hb2.mono hb1.size)).trans (hb3.mono (Nat.le_trans hb1.size hb2.size))
  go_wp2_with fail
  refine (is_err b 40 0 (by decide) (by decide) (by decide) _ HFt.out (HT.out.below hB3) (HH.out.below hB3)).mono ?_; rintro e w4 ⟨rfl, hb4⟩
  go_wp2_with fail
  go_ret
  exact ⟨rfl, hB3.trans (hb4.mono hB3.size)⟩
end Go.Proofs.YthimmdaefmbcjaaDoor
