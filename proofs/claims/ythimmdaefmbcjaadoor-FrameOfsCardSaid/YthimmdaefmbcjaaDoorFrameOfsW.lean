import Derived.Test.YthimmdaefmbcjaaDoorFAlive
import Derived.Test.YthimmdaefmbcjaaDoorRefW
namespace Go.Proofs.YthimmdaefmbcjaaDoor
open Go.RowKit
set_option maxHeartbeats 2000000 in
set_option maxRecDepth 100000 in
theorem FrameOfs_walk (p : ByteArray) (w : World) (hp : p.size ≤ 140737488351232) (hT : TabAny w) (hH : Handle w) :
    Calls Tryd.prog 3 #[.string p] w fun e w' => e = .returned (.bool true) ∧ Below w.heap.size w w' := by
  have HR := Lib.hid (fun W => refOf4_any p W hp)
  have HO := Lib.hid (Of_frame p w hp)
  have HT := Lib.hid hT
  have HH := Lib.hid hH
  have HS := Lib.hid (fun W => Size_any p W hp)
  have HS2 := Lib.hid (fun W => refSize_any p W hp)
  clear hT hH hp
  go_enter Tryd.func3, Tryd.ntmps3
  go_wp2_with fail
  refine HO.out.mono ?_; rintro e w1 (⟨hs, rfl, hb1⟩ | ⟨hs, b, rfl, hF, hb1⟩)
  · have hr := HR.out
    simp only [if_pos hs] at hr
    have HR := Lib.hid hr
    clear hr hs
    go_wp2_with fail
    refine (HR.out _).mono ?_; rintro e w2 ⟨rfl, hb2⟩
    go_wp2_with fail
    refine (is_nil _ _ _).mono ?_; rintro e w' ⟨rfl, rfl⟩
    go_wp2_with fail
    refine (HS.out _).mono ?_; rintro e w' ⟨rfl, rfl⟩
    go_wp2_with fail
    refine (HS2.out _).mono ?_; rintro e w' ⟨rfl, rfl⟩
    have hB := hb1.trans (hb2.mono hb1.size)
    go_wp2_with fail
    refine (alive_any _ (HT.out.below hB) (HH.out.below hB)).mono ?_; rintro e w3 ⟨rfl, hb3⟩
    go_wp2_with fail
    go_ret
    exact ⟨rfl, hB.trans (hb3.mono hB.size)⟩
  · have hr := HR.out
    have hn : ¬ p.size ≤ 131072 := by omega
    simp only [if_neg hn] at hr
    have HR := Lib.hid hr
    have HF := Lib.hid hF
    clear hr hs hn hF
    go_wp2_with fail
    refine (HR.out _).mono ?_; rintro e w2 ⟨rfl, hb2⟩
    have hB := hb1.trans (hb2.mono hb1.size)
    go_wp2_with fail
    refine (is_err b 4 (-1) (by decide) (by decide) (by decide) _ (HF.out.below hb2) (HT.out.below hB) (HH.out.below hB)).mono ?_; rintro e w3 ⟨rfl, hb3⟩
    go_wp2_with fail
    refine (HS.out _).mono ?_; rintro e w' ⟨rfl, rfl⟩
    go_wp2_with fail
    refine (HS2.out _).mono ?_; rintro e w' ⟨rfl, rfl⟩
    have hB3 := hB.trans (hb3.mono hB.size)
    go_wp2_with fail
    refine (alive_any _ (HT.out.below hB3) (HH.out.below hB3)).mono ?_; rintro e w4 ⟨rfl, hb4⟩
    go_wp2_with fail
    go_ret
    exact ⟨rfl, hB3.trans (hb4.mono hB3.size)⟩
end Go.Proofs.YthimmdaefmbcjaaDoor
