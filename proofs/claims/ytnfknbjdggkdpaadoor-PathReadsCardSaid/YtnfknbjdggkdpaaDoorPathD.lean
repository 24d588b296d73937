/-
  strings.Cut at one byte, the reference's 'starts', the law's 'made'. No statement is proved here.
-/
import Derived.Test.YtnfknbjdggkdpaaDoorPathC
import Derived.Lib.IndexLaws
namespace Go.Proofs.YtnfknbjdggkdpaaDoor
open Go.RowKit
/-- What stands ahead of a byte and behind it. -/
def IsCut (s : ByteArray) (c : UInt8) (h r : ByteArray) (f : Bool) : Prop :=
  (f = true ∧ s.data.toList = h.data.toList ++ c :: r.data.toList ∧ c ∉ h.data.toList) ∨ (f = false ∧ h = s ∧ r = ⟨#[]⟩ ∧ c ∉ s.data.toList)
theorem isCut_some (s : ByteArray) (c : UInt8) (o : Nat) (h : Lib.indexByte s.data.toList c = o) : o < s.size ∧ IsCut s c (s.extract 0 o) (s.extract (o + 1) s.size) true := by
  obtain ⟨h1, h2⟩ := Lib.indexByte_some h
  have hlt : o < s.data.toList.length := (List.getElem?_eq_some_iff.1 h1).1
  have hlt' : o < s.size := by rw [ba_len] at hlt; exact hlt
  refine ⟨hlt', .inl ⟨rfl, ?_, ?_⟩⟩
  · rw [Lib.extract_data, Lib.extract_data]
    have hc : s.data.toList[o] = c := (List.getElem?_eq_some_iff.1 h1).2
    have e : (s.data.toList.drop (o + 1)).take (s.size - (o + 1)) = s.data.toList.drop (o + 1) := List.take_of_length_le (by rw [List.length_drop, ba_len]; omega)
    rw [e, List.drop_zero, Nat.sub_zero, ← hc, List.getElem_cons_drop, List.take_append_drop]
  · rw [Lib.extract_data, List.drop_zero, Nat.sub_zero]
    intro hm
    obtain ⟨k, hk, hkc⟩ := List.mem_iff_getElem.1 hm
    rw [List.length_take] at hk
    rw [List.getElem_take] at hkc
    exact h2 k (by omega) (by rw [List.getElem?_eq_getElem (by omega), hkc])
theorem isCut_none (s : ByteArray) (c : UInt8) (h : Lib.indexByte s.data.toList c = -1) : IsCut s c s ⟨#[]⟩ false := by
  refine .inr ⟨rfl, rfl, rfl, fun hm => ?_⟩
  obtain ⟨k, hk, hkc⟩ := List.mem_iff_getElem.1 hm
  exact Lib.indexByte_none h k (by rw [List.getElem?_eq_getElem hk, hkc])
def CutIs (s : ByteArray) (c : UInt8) (w : World) (e : Ending) (w' : World) : Prop := ∃ h r f, e = .returned (.tuple #[.string h, .string r, .bool f]) ∧ IsCut s c h r f ∧ ∃ n, w' = w.drewN n
set_option maxHeartbeats 1000000 in
set_option maxRecDepth 100000 in
theorem iCut_any (s : ByteArray) (c : UInt8) (w : World) (hs : s.size ≤ 140737488355328) : Calls Tryd.prog 81 #[.string s, .string ⟨#[c]⟩] w (CutIs s c w) := by
  have HI := Lib.hid (Tryd.stringslite_Index_one s c w)
  have hge := Lib.indexByte_ge s.data.toList c
  have hs1 : (⟨#[c]⟩ : ByteArray).size = 1 := rfl
  obtain ⟨z, hz⟩ : ∃ z, Lib.indexByte s.data.toList c = z := ⟨_, rfl⟩
  rw [hz] at HI hge
  by_cases h0 : 0 ≤ z
  · obtain ⟨o, rfl⟩ := Int.eq_ofNat_of_zero_le h0
    obtain ⟨hlt, hcut⟩ := isCut_some s c o hz
    have HC := Lib.hid hcut
    have hsum : IntKind.i64.wrap ((o : Int) + 1) = ((o + 1 : Nat) : Int) := by rw [IntKind.wrap_i64]; omega
    clear hz hge hcut
    go_enter Tryd.func81, Tryd.ntmps81
    go_wp2_with fail
    refine HI.out.mono ?_; rintro e w' ⟨rfl, rfl⟩
    go_wp2_with fail
    go_quiet (fail)
    go_wp2_with fail
    go_ret3
    exact ⟨_, _, _, rfl, HC.out, _, rfl⟩
  · obtain rfl : z = -1 := by omega
    have HC := Lib.hid (isCut_none s c hz)
    clear hz hge h0
    go_enter Tryd.func81, Tryd.ntmps81
    go_wp2_with fail
    refine HI.out.mono ?_; rintro e w' ⟨rfl, rfl⟩
    go_wp2_with fail
    go_ret3
    exact ⟨_, _, _, rfl, HC.out, 0, rfl⟩
theorem Cut_any (s : ByteArray) (c : UInt8) (w : World) (hs : s.size ≤ 140737488355328) : Calls Tryd.prog 58 #[.string s, .string ⟨#[c]⟩] w (CutIs s c w) := by
  have H := Lib.hid (iCut_any s c w hs)
  go_enter Tryd.func58, Tryd.ntmps58
  go_wp2_with fail
  refine H.out.mono ?_; rintro e w' ⟨h, r, f, rfl, hC, n, rfl⟩
  have HC := Lib.hid hC
  clear hC
  go_wp2_with fail
  go_ret3
  exact ⟨h, r, f, rfl, HC.out, n, rfl⟩
/-- Does a text begin so? -/
def startsP (s h : ByteArray) : Prop := h.size ≤ s.size ∧ s.extract 0 h.size = h
def StartsIs (s h : ByteArray) (w : World) (e : Ending) (w' : World) : Prop := (e = .returned (.tuple #[.string (s.extract h.size s.size), .bool true]) ∧ startsP s h ∨ e = .returned (.tuple #[.string ⟨#[]⟩, .bool false]) ∧ ¬ startsP s h) ∧ w = w'
set_option maxRecDepth 100000 in
theorem starts_any (s h : ByteArray) (w : World) (_hs : s.size ≤ 140737488355328) (hh : h.size ≤ 100) : Calls Tryd.prog 61 #[.string s, .string h] w (StartsIs s h w) := by
  by_cases h1 : h.size ≤ s.size
  · obtain ⟨x, hx⟩ : ∃ x, s.extract 0 h.size = x := ⟨_, rfl⟩
    by_cases h2 : x = h
    · have HP : Hid (startsP s h) := Lib.hid ⟨h1, hx.trans h2⟩
      subst h2
      have hd : decide ((s.size : Int) < (x.size : Int)) = false := decide_eq_false (by omega)
      go_enter Tryd.func61, Tryd.ntmps61
      go_wp2_with fail
      go_ret2
      exact ⟨.inl ⟨rfl, HP.out⟩, rfl⟩
    · have HP : Hid (¬ startsP s h) := Lib.hid (fun p => h2 (hx.symm.trans p.2))
      have hne : (x.toList == h.toList) = false := by
        rw [beq_eq_false_iff_ne, ByteArray.toList_eq, ByteArray.toList_eq]
        exact fun e => h2 (ba_inj _ _ e)
      have hne2 : (x.toList != h.toList) = true := by rw [bne, hne]; rfl
      clear h2
      go_enter Tryd.func61, Tryd.ntmps61
      go_wp2_with fail
      go_ret2
      exact ⟨.inr ⟨rfl, HP.out⟩, rfl⟩
  · have HP : Hid (¬ startsP s h) := Lib.hid (fun p => h1 p.1)
    have hlt : s.size < h.size := by omega
    clear h1
    go_enter Tryd.func61, Tryd.ntmps61
    go_wp2_with fail
    go_ret2
    exact ⟨.inr ⟨rfl, HP.out⟩, rfl⟩
end Go.Proofs.YtnfknbjdggkdpaaDoor
