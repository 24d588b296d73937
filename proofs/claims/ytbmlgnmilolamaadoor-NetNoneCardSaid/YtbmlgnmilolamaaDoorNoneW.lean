/-
  'yanklinelaw24.NetNone': the calls of a net that is not there, and the walk. No statement is proved here.
-/
import Derived.Test.YtbmlgnmilolamaaDoorCodeN
namespace Go.Proofs.YtbmlgnmilolamaaDoor
open Go.RowKit
/-- No net: nil, or a struct that no call made. -/
def NoNet (w : World) (v : Value) : Prop := v = .pointer none ∨ ∃ b, v = .pointer (some ⟨b, 0, none⟩) ∧ w.cell? ⟨b, 0, none⟩ = some (.int .i64 0)
theorem NoNet.below {w w' : World} {v : Value} (h : NoNet w v) (hb : Below w.heap.size w w') : NoNet w' v := by
  rcases h with h | ⟨b, h1, h2⟩
  · exact .inl h
  · exact .inr ⟨b, h1, (hb.cell (p := ⟨b, 0, none⟩) (World.block_lt_of_cell? w _ h2)).trans h2⟩
theorem none_no {w : World} {v : Value} (h : NoNet w v) : Calls Tryd.prog 26 #[v] w fun e w' => e = .returned (.bool true) ∧ w = w' := by
  rcases h with rfl | ⟨b, rfl, h⟩
  · exact (none_nil w).mono fun _ _ h => h
  · go_enter Tryd.func26, Tryd.ntmps26
    go_wp2_with fail
    go_ret
    exact ⟨rfl, rfl⟩
section
variable {w : World} {v : Value}
theorem Send_no (h : NoNet w v) (a b : Int) (s : ByteArray) : Calls Tryd.prog 7 #[v, .int .i64 a, .int .i64 b, .string s] w (SomeFlt 1 (-1) w) := by
  have H := Lib.hid (none_no h)
  clear h
  go_enter Tryd.func7, Tryd.ntmps7
  go_wp2_with fail
  refine H.out.mono ?_; rintro e w' ⟨rfl, rfl⟩
  go_wp2_with fail
  refine (nfault_any _ _ _).mono ?_; rintro e w1 ⟨b, rfl, hF, hb⟩
  have HF := Lib.hid hF
  clear hF
  go_wp2_with fail
  go_ret
  exact ⟨b, rfl, HF.out, hb⟩
theorem Tick_no (h : NoNet w v) : Calls Tryd.prog 16 #[v] w fun e w' => e = .returned (.int .i64 0) ∧ w = w' := by
  have H := Lib.hid (none_no h)
  clear h
  go_enter Tryd.func16, Tryd.ntmps16
  go_wp2_with fail
  refine H.out.mono ?_; rintro e w' ⟨rfl, rfl⟩
  go_wp2_with fail
  go_ret
  exact ⟨rfl, rfl⟩
theorem Time_no (h : NoNet w v) : Calls Tryd.prog 20 #[v] w fun e w' => e = .returned (.int .i64 0) ∧ w = w' := by
  have H := Lib.hid (none_no h)
  clear h
  go_enter Tryd.func20, Tryd.ntmps20
  go_wp2_with fail
  refine H.out.mono ?_; rintro e w' ⟨rfl, rfl⟩
  go_wp2_with fail
  go_ret
  exact ⟨rfl, rfl⟩
theorem Ends_no (h : NoNet w v) : Calls Tryd.prog 21 #[v] w fun e w' => e = .returned (.int .i64 0) ∧ w = w' := by
  have H := Lib.hid (none_no h)
  clear h
  go_enter Tryd.func21, Tryd.ntmps21
  go_wp2_with fail
  refine H.out.mono ?_; rintro e w' ⟨rfl, rfl⟩
  go_wp2_with fail
  go_ret
  exact ⟨rfl, rfl⟩
theorem Sent_no (h : NoNet w v) : Calls Tryd.prog 11 #[v] w fun e w' => e = .returned (.int .i64 0) ∧ w = w' := by
  have H := Lib.hid (none_no h)
  clear h
  go_enter Tryd.func11, Tryd.ntmps11
  go_wp2_with fail
  refine H.out.mono ?_; rintro e w' ⟨rfl, rfl⟩
  go_wp2_with fail
  go_ret
  exact ⟨rfl, rfl⟩
theorem Flying_no (h : NoNet w v) : Calls Tryd.prog 22 #[v] w fun e w' => e = .returned (.slice none 0 0) ∧ w = w' := by
  have H := Lib.hid (none_no h)
  clear h
  go_enter Tryd.func22, Tryd.ntmps22
  go_wp2_with fail
  refine H.out.mono ?_; rintro e w' ⟨rfl, rfl⟩
  go_wp2_with fail
  go_ret
  exact ⟨rfl, rfl⟩
theorem Lose_no (h : NoNet w v) (k : Int) : Calls Tryd.prog 10 #[v, .int .i64 k] w fun e w' => e = .returned (.int .i64 0) ∧ Below w.heap.size w w' := by
  have hB : Below w.heap.size w (w.alloc (.cells #[.int .i64 k] 3)) := (Below.refl _ _).alloc (Nat.le_refl _) _
  have H := Lib.hid (none_no (h.below hB))
  have HB := Lib.hid hB
  clear h hB
  go_enter Tryd.func10, Tryd.ntmps10
  go_wp2_with fail
  refine H.out.mono ?_; rintro e w' ⟨rfl, rfl⟩
  go_wp2_with fail
  go_ret
  exact ⟨rfl, HB.out⟩
theorem Copy_no (h : NoNet w v) : Calls Tryd.prog 18 #[v] w fun e w' => e = .returned (.pointer none) ∧ w = w' := by
  have H := Lib.hid (none_no h)
  clear h
  go_enter Tryd.func18, Tryd.ntmps18
  go_wp2_with fail
  refine H.out.mono ?_; rintro e w' ⟨rfl, rfl⟩
  go_wp2_with fail
  go_ret
  exact ⟨rfl, rfl⟩
set_option maxHeartbeats 1000000 in
theorem NextN_no (h : NoNet w v) : Calls Tryd.prog 9 #[v] w fun e w' => e = .returned (.tuple #[.agg #[.int .i64 0, .int .i64 0, .string ⟨#[]⟩], .bool false]) ∧ Below w.heap.size w w' := by
  have HV := Lib.hid h
  clear h
  go_enter Tryd.func9, Tryd.ntmps9
  go_upto_region 1 with fail
  obtain ⟨W1, hW⟩ : ∃ W, w.alloc (.cells #[.int .i64 0, .int .i64 0, .string ⟨#[]⟩] 31) = W := ⟨_, rfl⟩
  have hz := PkZ.new w
  rw [hW] at hz
  rw [hW]
  have HZ := Lib.hid hz
  have HH : Hid (∀ q : BOf W1, Calls Tryd.prog 26 #[v] q.W fun e w' => e = .returned (.bool true) ∧ ∃ r : BOf W1, w' = r.W) := Lib.hid (fun q => bof_call ((none_no ((HV.out.below hz.b).below q.h)).mono fun _ _ ⟨he, hw⟩ => ⟨he, by rw [← hw]; exact Below.refl _ _⟩))
  clear hz hW
  refine wp_region_bof (by kernel_rfl) (by kernel_rfl) ?_
  repeat (go_big_quiet_step (first | (go_at_call 26; exact HH.out _)))
  refine wpQuiet_nil ?_
  intro W3 hw'
  have hb3 := bof_below hw'
  have HZ3 := Lib.hid (HZ.out.below hb3)
  clear hw' hb3
  obtain ⟨c0, c1, c2, f0, f1, f2, _, _⟩ := HZ3.out
  go_wp2_with fail
  refine bodyPost_ret (v := .tuple #[.agg #[.int .i64 0, .int .i64 0, .string ⟨#[]⟩], .bool false]) (by simp [results, Tryd.results9, go_sem, asAddr, c0, c1, c2]) rfl ?_
  exact ⟨rfl, ((HZ3.out.b.setCell (Nat.le_refl _) _).setCell (Nat.le_refl _) _).setCell (Nat.le_refl _) _⟩
end
set_option maxHeartbeats 4000000 in
set_option maxRecDepth 100000 in
theorem NetNone_walk (k : Int) (s : ByteArray) (w : World) (_hs : s.size ≤ 140737488351232) (hH : Handle w) :
    Calls Tryd.prog 5 #[.int .i64 k, .string s] w fun e w' => e = .returned (.bool true) ∧ Below w.heap.size w w' := by
  have HH := Lib.hid hH
  clear hH
  go_enter Tryd.func5, Tryd.ntmps5
  go_upto_region 3 with fail
  obtain ⟨W0, hW0⟩ : ∃ W, (w.alloc (.cells #[.int .i64 0, .int .i64 0, .int .i64 0, .slice none 0 0, .slice none 0 0] 56)).alloc (.cells #[.pointer none, .pointer (some ⟨w.heap.size, 0, none⟩)] 57) = W := ⟨_, rfl⟩
  have hB0 : Below w.heap.size w W0 := by rw [← hW0]; exact ((Below.refl _ _).alloc (Nat.le_refl _) _).alloc (by simp) _
  have hs : (w.alloc (.cells #[.int .i64 0, .int .i64 0, .int .i64 0, .slice none 0 0, .slice none 0 0] 56)).heap.size = w.heap.size + 1 := by simp
  have ha : ∀ i v, (#[.pointer none, .pointer (some ⟨w.heap.size, 0, none⟩)] : Array Value)[i]? = some v → W0.cell? ⟨w.heap.size + 1, i, none⟩ = some v := fun i v h => by
    have e := World.cell?_alloc_mark (w.alloc (.cells #[.int .i64 0, .int .i64 0, .int .i64 0, .slice none 0 0, .slice none 0 0] 56)) #[.pointer none, .pointer (some ⟨w.heap.size, 0, none⟩)] 57 (0, 0) i
    rw [hW0, hs] at e
    rw [e]
    exact h
  have hz : W0.cell? ⟨w.heap.size, 0, none⟩ = some (.int .i64 0) := by
    rw [← hW0, World.cell?_alloc_lt _ _ ⟨w.heap.size, 0, none⟩ (by simp), World.cell?_alloc_mark]
    rfl
  have HHB := Lib.hid hB0
  have HA0 : Hid (W0.cell? ⟨w.heap.size + 1, 0, none⟩ = some (.pointer none)) := Lib.hid (ha 0 _ rfl)
  have HA1 : Hid (W0.cell? ⟨w.heap.size + 1, 1, none⟩ = some (.pointer (some ⟨w.heap.size, 0, none⟩))) := Lib.hid (ha 1 _ rfl)
  have HZ0 := Lib.hid hz
  rw [hW0]
  obtain ⟨zb, hzb⟩ : ∃ b, w.heap.size = b := ⟨_, rfl⟩
  rw [hzb] at HA0 HA1 HZ0
  simp only [hzb]
  clear hW0 hB0 hs ha hz hzb
  have HX := Lib.hid HH.out
  clear HH
  have HH := Lib.hid (HX.out.below HHB.out)
  clear HX
  go_wp2_with fail
  go_loopw [7] (fun i wr => ∃ j : Nat, j ≤ 2 ∧ i = .int .i64 j ∧ Hid (Below W0.heap.size W0 wr)) (fun i _ => 2 - (intOf i).toNat)
  case atStart => exact ⟨0, Nat.zero_le _, rfl, Lib.hid (Below.refl _ _)⟩
  case round =>
    obtain ⟨j, hj, rfl, HB⟩ := hrel
    by_cases h0 : j = 0
    · subst h0
      · have c0 := (HB.out.cell (p := ⟨zb + 1, 0, none⟩) (World.block_lt_of_cell? W0 _ HA0.out)).trans HA0.out
        have HV : Hid (NoNet wr (.pointer none)) := Lib.hid (.inl rfl)
        go_wp2_with fail
        refine (Send_no HV.out k k s).mono ?_; rintro e w1 ⟨b, rfl, hF, hb⟩
        have HF := Lib.hid hF
        have HB1 := Lib.hid (HB.out.trans (hb.mono HB.out.size))
        have HV1 := Lib.hid (HV.out.below hb)
        clear hF hb
        go_wp2_with fail
        refine (code_fault b 1 (-1) w1 HF.out (HH.out.below HB1.out)).mono ?_; rintro e w2 ⟨rfl, hb⟩
        have HB2 := Lib.hid (HB1.out.trans (hb.mono HB1.out.size))
        have HV2 := Lib.hid (HV1.out.below hb)
        clear hb
        go_wp2_with fail
        refine (NextN_no HV2.out).mono ?_; rintro e w3 ⟨rfl, hb⟩
        have hb' : Below w2.heap.size w2 (w3.alloc (.cells #[.int .i64 0, .int .i64 0, .string ⟨#[]⟩] 31)) := hb.trans ((Below.refl _ _).alloc hb.size _)
        have HB3 := Lib.hid (HB2.out.trans (hb'.mono HB2.out.size))
        have HV3 := Lib.hid (HV2.out.below hb')
        clear hb hb'
        go_upto_region 9 with fail
        obtain ⟨W3, hW3⟩ : ∃ W, w3.alloc (.cells #[.int .i64 0, .int .i64 0, .string ⟨#[]⟩] 31) = W := ⟨_, rfl⟩
        have hq : ∀ i v, (#[.int .i64 0, .int .i64 0, .string ⟨#[]⟩] : Array Value)[i]? = some v → W3.cell? ⟨w3.heap.size, i, none⟩ = some v := fun i v h => by rw [← hW3, World.cell?_alloc_mark]; exact h
        obtain ⟨pb, hpb⟩ : ∃ b, w3.heap.size = b := ⟨_, rfl⟩
        rw [hpb] at hq
        rw [hW3] at HB3 HV3
        rw [hW3]
        try simp only [hpb]
        have q0 := hq 0 _ rfl
        have q1 := hq 1 _ rfl
        have q2 := hq 2 _ rfl
        clear hW3 hq hpb
        go_wp2_with fail
        refine (Tick_no HV3.out).mono ?_; rintro e w' ⟨rfl, rfl⟩
        go_wp2_with fail
        refine (Time_no HV3.out).mono ?_; rintro e w' ⟨rfl, rfl⟩
        go_wp2_with fail
        refine (Ends_no HV3.out).mono ?_; rintro e w' ⟨rfl, rfl⟩
        go_wp2_with fail
        refine (Sent_no HV3.out).mono ?_; rintro e w' ⟨rfl, rfl⟩
        go_wp2_with fail
        refine (Flying_no HV3.out).mono ?_; rintro e w' ⟨rfl, rfl⟩
        go_wp2_with fail
        refine (Lose_no HV3.out k).mono ?_; rintro e w5 ⟨rfl, hb⟩
        have HB5 := Lib.hid (HB3.out.trans (hb.mono HB3.out.size))
        have HV5 := Lib.hid (HV3.out.below hb)
        clear hb
        go_wp2_with fail
        refine (Copy_no HV5.out).mono ?_; rintro e w' ⟨rfl, rfl⟩
        go_wp2_with fail
        go_roundw
        case rel => exact ⟨1, by omega, by go_num, HB5⟩
        case measure => simp [intOf]
    · by_cases h1 : j = 1
      · subst h1
        have c1 := (HB.out.cell (p := ⟨zb + 1, 1, none⟩) (World.block_lt_of_cell? W0 _ HA1.out)).trans HA1.out
        have HV : Hid (NoNet wr (.pointer (some ⟨zb, 0, none⟩))) := Lib.hid (.inr ⟨zb, rfl, (HB.out.cell (p := ⟨zb, 0, none⟩) (World.block_lt_of_cell? W0 _ HZ0.out)).trans HZ0.out⟩)
        go_wp2_with fail
        refine (Send_no HV.out k k s).mono ?_; rintro e w1 ⟨b, rfl, hF, hb⟩
        have HF := Lib.hid hF
        have HB1 := Lib.hid (HB.out.trans (hb.mono HB.out.size))
        have HV1 := Lib.hid (HV.out.below hb)
        clear hF hb
        go_wp2_with fail
        refine (code_fault b 1 (-1) w1 HF.out (HH.out.below HB1.out)).mono ?_; rintro e w2 ⟨rfl, hb⟩
        have HB2 := Lib.hid (HB1.out.trans (hb.mono HB1.out.size))
        have HV2 := Lib.hid (HV1.out.below hb)
        clear hb
        go_wp2_with fail
        refine (NextN_no HV2.out).mono ?_; rintro e w3 ⟨rfl, hb⟩
        have hb' : Below w2.heap.size w2 (w3.alloc (.cells #[.int .i64 0, .int .i64 0, .string ⟨#[]⟩] 31)) := hb.trans ((Below.refl _ _).alloc hb.size _)
        have HB3 := Lib.hid (HB2.out.trans (hb'.mono HB2.out.size))
        have HV3 := Lib.hid (HV2.out.below hb')
        clear hb hb'
        go_upto_region 9 with fail
        obtain ⟨W3, hW3⟩ : ∃ W, w3.alloc (.cells #[.int .i64 0, .int .i64 0, .string ⟨#[]⟩] 31) = W := ⟨_, rfl⟩
        have hq : ∀ i v, (#[.int .i64 0, .int .i64 0, .string ⟨#[]⟩] : Array Value)[i]? = some v → W3.cell? ⟨w3.heap.size, i, none⟩ = some v := fun i v h => by rw [← hW3, World.cell?_alloc_mark]; exact h
        obtain ⟨pb, hpb⟩ : ∃ b, w3.heap.size = b := ⟨_, rfl⟩
        rw [hpb] at hq
        rw [hW3] at HB3 HV3
        rw [hW3]
        try simp only [hpb]
        have q0 := hq 0 _ rfl
        have q1 := hq 1 _ rfl
        have q2 := hq 2 _ rfl
        clear hW3 hq hpb
        go_wp2_with fail
        refine (Tick_no HV3.out).mono ?_; rintro e w' ⟨rfl, rfl⟩
        go_wp2_with fail
        refine (Time_no HV3.out).mono ?_; rintro e w' ⟨rfl, rfl⟩
        go_wp2_with fail
        refine (Ends_no HV3.out).mono ?_; rintro e w' ⟨rfl, rfl⟩
        go_wp2_with fail
        refine (Sent_no HV3.out).mono ?_; rintro e w' ⟨rfl, rfl⟩
        go_wp2_with fail
        refine (Flying_no HV3.out).mono ?_; rintro e w' ⟨rfl, rfl⟩
        go_wp2_with fail
        refine (Lose_no HV3.out k).mono ?_; rintro e w5 ⟨rfl, hb⟩
        have HB5 := Lib.hid (HB3.out.trans (hb.mono HB3.out.size))
        have HV5 := Lib.hid (HV3.out.below hb)
        clear hb
        go_wp2_with fail
        refine (Copy_no HV5.out).mono ?_; rintro e w' ⟨rfl, rfl⟩
        go_wp2_with fail
        go_roundw
        case rel => exact ⟨2, by omega, by go_num, HB5⟩
        case measure => simp [intOf]
      · obtain rfl : j = 2 := by omega
        have HLV := Lib.hid (fun W => lives_any W)
        go_wp2_with fail
        refine (HLV.out _).mono ?_; rintro e w9 ⟨rfl, hb⟩
        have HB9 := Lib.hid (HHB.out.trans ((HB.out.trans (hb.mono HB.out.size)).mono HHB.out.size))
        clear hb
        go_wp2_with fail
        go_ret
        exact ⟨rfl, HB9.out⟩
end Go.Proofs.YtbmlgnmilolamaaDoor
