/-
  strings.Cut at one byte: what it answers is fixed; path.Read at any text. No statement is proved here.
-/
import Derived.Test.YtnfknbjdggkdpaaDoorPathRB
import Derived.Test.YtnfknbjdggkdpaaDoorPathRE
namespace Go.Proofs.YtnfknbjdggkdpaaDoor
open Go.RowKit
def CutAns (s : ByteArray) (c : UInt8) (F : FuncId) (h r : ByteArray) (f : Bool) : Prop := ∀ W, Calls Tryd.prog F #[.string s, .string ⟨#[c]⟩] W fun e w' => e = .returned (.tuple #[.string h, .string r, .bool f]) ∧ ∃ n, w' = W.drewN n
set_option maxHeartbeats 1000000 in
set_option maxRecDepth 100000 in
theorem iCut_det (s : ByteArray) (c : UInt8) (hs : s.size ≤ 140737488355328) : ∃ h r f, IsCut s c h r f ∧ h.size ≤ s.size ∧ r.size ≤ s.size ∧ CutAns s c 81 h r f := by
  have hge := Lib.indexByte_ge s.data.toList c
  have hs1 : (⟨#[c]⟩ : ByteArray).size = 1 := rfl
  obtain ⟨z, hz⟩ : ∃ z, Lib.indexByte s.data.toList c = z := ⟨_, rfl⟩
  have hI := fun W => Tryd.stringslite_Index_one s c W
  rw [hz] at hge hI
  by_cases h0 : 0 ≤ z
  · obtain ⟨o, rfl⟩ := Int.eq_ofNat_of_zero_le h0
    obtain ⟨hlt, hcut⟩ := isCut_some s c o hz
    refine ⟨_, _, _, hcut, by rw [ByteArray.size_extract]; omega, by rw [ByteArray.size_extract]; omega, fun W => ?_⟩
    have HI := Lib.hid (hI W)
    have hsum : IntKind.i64.wrap ((o : Int) + 1) = ((o + 1 : Nat) : Int) := by rw [IntKind.wrap_i64]; omega
    clear hz hge hcut hI
    go_enter Tryd.func81, Tryd.ntmps81
    go_wp2_with fail
    refine HI.out.mono ?_; rintro e w' ⟨rfl, rfl⟩
    go_wp2_with fail
    go_quiet (fail)
    go_wp2_with fail
    go_ret3
    exact ⟨rfl, _, rfl⟩
  · obtain rfl : z = -1 := by omega
    refine ⟨_, _, _, isCut_none s c hz, Nat.le_refl _, Nat.zero_le _, fun W => ?_⟩
    have HI := Lib.hid (hI W)
    clear hz hge h0 hI
    go_enter Tryd.func81, Tryd.ntmps81
    go_wp2_with fail
    refine HI.out.mono ?_; rintro e w' ⟨rfl, rfl⟩
    go_wp2_with fail
    go_ret3
    exact ⟨rfl, 0, rfl⟩
theorem Cut_det (s : ByteArray) (c : UInt8) (hs : s.size ≤ 140737488355328) : ∃ h r f, IsCut s c h r f ∧ h.size ≤ s.size ∧ r.size ≤ s.size ∧ CutAns s c 58 h r f := by
  obtain ⟨h, r, f, hc, h1, h2, hA⟩ := iCut_det s c hs
  refine ⟨h, r, f, hc, h1, h2, fun W => ?_⟩
  have H := Lib.hid (hA W)
  clear hA
  go_enter Tryd.func58, Tryd.ntmps58
  go_wp2_with fail
  refine H.out.mono ?_; rintro e w' ⟨rfl, n, rfl⟩
  go_wp2_with fail
  go_ret3
  exact ⟨rfl, n, rfl⟩
theorem pRead_any (s : ByteArray) (w : World) (hs : s.size ≤ 140737488355328) (hT : TabH w) : Calls Tryd.prog 37 #[.string s] w (ReadIs (readR s.data.toList) w) := by
  obtain ⟨h, r, f, hc, h1, h2, hA⟩ := Cut_det s 47 hs
  by_cases k1 : h.data.toList = logK
  · obtain rfl : h = ⟨#[108, 111, 103]⟩ := ba_inj _ _ k1
    exact Read_log s r f w hs hT hc (by omega) hA
  by_cases k2 : h.data.toList = stageK
  · obtain rfl : h = ⟨#[115, 116, 97, 103, 101]⟩ := ba_inj _ _ k2
    exact Read_stage s r f w hs hT hc (by omega) hA
  by_cases k3 : h.data.toList = pageK
  · obtain rfl : h = ⟨#[112, 97, 103, 101]⟩ := ba_inj _ _ k3
    exact Read_page s r f w hs hT hc (by omega) hA
  by_cases k4 : h.data.toList = blobK
  · obtain rfl : h = ⟨#[98, 108, 111, 98]⟩ := ba_inj _ _ k4
    obtain ⟨x, nn, f2, hc2, g1, g2, hB⟩ := Cut_det r 45 (by omega)
    exact Read_blob s r x nn f f2 w hs hT hc hc2 (by omega) (by omega) hA hB
  exact Read_else s h r f w hc k1 k2 k3 k4 hA
end Go.Proofs.YtnfknbjdggkdpaaDoor
