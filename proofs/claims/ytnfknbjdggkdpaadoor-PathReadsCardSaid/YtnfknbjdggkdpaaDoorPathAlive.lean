/-
  The path law's 'alive' and 'made'. No statement is proved here.
-/
import Derived.Test.YtnfknbjdggkdpaaDoorCutDet
namespace Go.Proofs.YtnfknbjdggkdpaaDoor
open Go.RowKit
theorem dec1 : Lib.decDigits 1 = [49] := Lib.decDigits_one (by decide)
theorem dec2 : Lib.decDigits 2 = [50] := Lib.decDigits_one (by decide)
theorem log1 : logO 1 = some [108, 111, 103, 47, 48, 48, 48, 48, 48, 48, 48, 49] := by
  rw [logO, if_pos (by decide)]
  show some (logT 1) = _
  rw [logT, pad8, dec1]
  rfl
def blobS : List UInt8 := [98, 108, 111, 98, 47, 48, 48, 48, 48, 48, 48, 48, 48, 48, 48, 48, 48, 48, 48, 102, 102, 45, 50]
theorem read_blobS : readR blobS = some (2, 0, 255, 2, []) := by
  refine readR_blob ⟨by decide, by decide, by decide, ?_⟩
  rw [blobT, dec2]
  decide
theorem read_log1 : readR [108, 111, 103, 47, 49] = none := by
  refine readR_none (fun n x => ?_) (fun n x => ?_) (fun m x => ?_) (fun a n x => ?_)
  · have h := congrArg List.length x.2.2
    rw [logT, List.length_append, pad8_len n x.2.1] at h
    exact absurd h (by decide)
  · exact clash (head_stage x) rfl (by decide)
  · exact clash (head_page x) rfl (by decide)
  · exact clash (head_blob x) rfl (by decide)
theorem eq_alive (w : World) : (binOp .eql 59 (.agg #[.int .u8 2, .int .i64 0, .int .u64 255, .int .u32 2, .string ⟨#[]⟩]) (.agg #[.int .u8 2, .int .i64 0, .int .u64 255, .int .u32 2, .string ⟨#[]⟩])).run Tryd.prog w = .ok (.bool true) w := by kernel_rfl
set_option maxHeartbeats 1000000 in
set_option maxRecDepth 100000 in
theorem palive_any (w : World) (hT : TabH w) : Calls Tryd.prog 36 #[] w fun e w' => e = .returned (.bool true) ∧ Below w.heap.size w w' := by
  have h1 := fun W hT => Log_any 1 W hT
  rw [log1] at h1
  have h2 := fun W hT => pRead_any ⟨#[98, 108, 111, 98, 47, 48, 48, 48, 48, 48, 48, 48, 48, 48, 48, 48, 48, 48, 48, 102, 102, 45, 50]⟩ W (by decide) hT
  rw [show (⟨#[98, 108, 111, 98, 47, 48, 48, 48, 48, 48, 48, 48, 48, 48, 48, 48, 48, 48, 48, 102, 102, 45, 50]⟩ : ByteArray).data.toList = blobS from rfl, read_blobS] at h2
  have h3 := fun W hT => pRead_any ⟨#[108, 111, 103, 47, 49]⟩ W (by decide) hT
  rw [show (⟨#[108, 111, 103, 47, 49]⟩ : ByteArray).data.toList = [108, 111, 103, 47, 49] from rfl, read_log1] at h3
  have H1 := Lib.hid h1
  have H2 := Lib.hid h2
  have H3 := Lib.hid h3
  have HT := Lib.hid hT
  have heq := eq_alive
  clear h1 h2 h3 hT
  go_enter Tryd.func36, Tryd.ntmps36
  go_wp2_with fail
  refine (H1.out _ HT.out).mono ?_; rintro e w1 ⟨rfl, hb1⟩
  have HB1 := Lib.hid hb1
  clear hb1
  go_wp2_with fail
  refine (H2.out _ (HT.out.below HB1.out)).mono ?_; rintro e w2 ⟨rfl, hb2⟩
  have HB2 := Lib.hid (HB1.out.trans (hb2.mono HB1.out.size))
  clear hb2
  simp only [Option.getD_some, pathV]
  go_wp2_with fail
  obtain ⟨W, hW⟩ : ∃ W, w2.alloc (.cells #[.int .u8 2, .int .i64 0, .int .u64 255, .int .u32 2, .string ⟨#[]⟩] 59) = W := ⟨_, rfl⟩
  have hc := CellsP.new w2 59 2 0 255 2 ⟨#[]⟩
  have hBW : Below w.heap.size w W := by rw [← hW]; exact HB2.out.alloc HB2.out.size _
  rw [hW] at hc ⊢
  have HBW := Lib.hid hBW
  have HC := Lib.hid hc
  clear hBW hc hW
  refine (H3.out _ (HT.out.below HBW.out)).mono ?_; rintro e w3 ⟨rfl, hb3⟩
  have HB3 := Lib.hid (HBW.out.trans (hb3.mono HBW.out.size))
  obtain ⟨c0, c1, c2, c3, c4, _, _, _, _, _⟩ := HC.out.below hb3
  clear hb3
  simp only [Option.getD_none, pathV, noP]
  have hlt : w2.heap.size < w3.heap.size := World.block_lt_of_cell? w3 _ c0
  go_wp2_with fail
  go_ret
  exact ⟨rfl, HB3.out.alloc HB3.out.size _⟩
theorem made_some (l : List UInt8) (hl : l ≠ []) (w : World) : Calls Tryd.prog 31 #[.string ⟨l.toArray⟩, .int .i64 0, .string ⟨l.toArray⟩] w fun e w' => e = .returned (.bool true) ∧ w = w' := by
  obtain ⟨s, hs⟩ : ∃ s : ByteArray, (⟨l.toArray⟩ : ByteArray) = s := ⟨_, rfl⟩
  rw [hs]
  have hne : s.toList.isEmpty = false := by
    rw [ByteArray.toList_eq, ← hs]
    cases l with
    | nil => exact absurd rfl hl
    | cons _ _ => rfl
  clear hs hl
  go_enter Tryd.func31, Tryd.ntmps31
  go_wp2_with fail
  go_ret
  exact ⟨rfl, rfl⟩
theorem made_none (w : World) : Calls Tryd.prog 31 #[.string ⟨#[]⟩, .int .i64 110, .string ⟨#[]⟩] w fun e w' => e = .returned (.bool true) ∧ w = w' := by
  go_enter Tryd.func31, Tryd.ntmps31
  go_wp2_with fail
  go_ret
  exact ⟨rfl, rfl⟩
theorem made_any (o : Option (List UInt8)) (hl : o ≠ some []) (w : World) : Calls Tryd.prog 31 #[.string ⟨(o.getD []).toArray⟩, .int .i64 (match o with | none => 110 | some _ => 0), .string ⟨(o.getD []).toArray⟩] w fun e w' => e = .returned (.bool true) ∧ w = w' := by
  cases o with
  | none => exact made_none w
  | some l => exact made_some l (fun h => hl (by rw [h])) w
theorem logO_ne (n : Int) : logO n ≠ some [] := by unfold logO; split <;> simp [logT, logH]
theorem stageO_ne (n : Int) : stageO n ≠ some [] := by unfold stageO; split <;> simp [stageT, stageH]
theorem blobO_ne (s n : Nat) : blobO s n ≠ some [] := by unfold blobO; split <;> simp [blobT, blobH]
theorem pageO_ne (l : List UInt8) : pageO l ≠ some [] := by unfold pageO; split <;> simp [pageT, pageH]
end Go.Proofs.YtnfknbjdggkdpaaDoor
