/-
  'yanklinelaw02.CodeReads': the walk. No statement is proved here.
-/
import Derived.Test.YtnfknbjdggkdpaaDoorStepW
import Derived.Test.YtnfknbjdggkdpaaDoorQuietRest
namespace Go.Proofs.YtnfknbjdggkdpaaDoor
open Go.RowKit
/-- A slice of steps that is read. -/
def StepRow (w : World) (a : Option Addr) (len : Nat) : Prop :=
  len ≤ maxLen ∧ (0 < len → ∃ b off, a = some ⟨b, off, none⟩ ∧ ∀ i, i < len → ∃ (d : Int) (m : Nat) (tx ea : Int), m < 18446744073709551616 ∧ tx ≤ 9223372036854775807 ∧ ea ≤ 9223372036854775807 ∧
    w.cell? ⟨b, off + i * 4, none⟩ = some (.int .i64 d) ∧ w.cell? ⟨b, off + i * 4 + 1, none⟩ = some (.int .u64 m) ∧ w.cell? ⟨b, off + i * 4 + 2, none⟩ = some (.int .i64 tx) ∧ w.cell? ⟨b, off + i * 4 + 3, none⟩ = some (.int .i64 ea))
theorem StepRow.below {w w' : World} {a : Option Addr} {len : Nat} (h : StepRow w a len) (hb : Below w.heap.size w w') : StepRow w' a len := by
  obtain ⟨h1, h2⟩ := h
  refine ⟨h1, fun hl => ?_⟩
  obtain ⟨b, off, e, hc⟩ := h2 hl
  refine ⟨b, off, e, fun i hi => ?_⟩
  obtain ⟨d, m, tx, ea, b1, b2, b3, c0, c1, c2, c3⟩ := hc i hi
  have hlt := World.block_lt_of_cell? w _ c0
  have key : ∀ o, w'.cell? ⟨b, o, none⟩ = w.cell? ⟨b, o, none⟩ := fun o => hb.cell (p := ⟨b, o, none⟩) hlt
  exact ⟨d, m, tx, ea, b1, b2, b3, (key _).trans c0, (key _).trans c1, (key _).trans c2, (key _).trans c3⟩
set_option maxHeartbeats 4000000 in
set_option maxRecDepth 100000 in
theorem CodeReads_walk (s : ByteArray) (a : Option Addr) (len cap : Nat) (w : World) (hs : s.size ≤ 140737488351232) (hl : StepRow w a len) (hT : TabAny w) (hH : Handle w) :
    Calls Tryd.prog 10 #[.string s, .slice a len cap] w fun e w' => e = .returned (.bool true) ∧ Below w.heap.size w w' := by
  have HT := Lib.hid hT
  have HH := Lib.hid hH
  have HL := Lib.hid hl
  have hlm := hl.1
  unfold maxLen at hlm
  clear hT hH hl
  go_enter Tryd.func10, Tryd.ntmps10
  go_wp2_with fail
  refine (New_any _ _).mono ?_; rintro e w1 ⟨rfl, hr, hb⟩
  have HR := Lib.hid hr
  have HB := Lib.hid hb
  clear hr hb
  go_wp2_with fail
  have hB0 : Both w w.heap.size w1.heap.size s 0 (w1.alloc (.cells #[.string s, .int .i64 0] 76)) := by
    have hlt := HR.out.lt
    have hba : Below w1.heap.size w1 (w1.alloc (.cells #[.string s, .int .i64 0] 76)) := (Below.refl _ _).alloc (Nat.le_refl _) _
    refine ⟨Nat.zero_le _, HR.out.below hba, ⟨?_, ?_, ?_⟩, HB.out.trans (hba.mono HB.out.size)⟩
    · rw [World.cell?_alloc_mark]; rfl
    · rw [World.cell?_alloc_mark]; rfl
    · rw [World.frozen?_alloc_mark]; rfl
  have hgh : w.heap.size ≠ w1.heap.size := by have := HR.out.lt; omega
  have hh0 : w.heap.size ≤ w1.heap.size := HB.out.size
  obtain ⟨g, hg⟩ : ∃ g, w.heap.size = g := ⟨_, rfl⟩
  obtain ⟨h, hh⟩ : ∃ h, w1.heap.size = h := ⟨_, rfl⟩
  have HB0 := Lib.hid hB0
  have hg0 : w.heap.size ≤ g := Nat.le_of_eq hg
  rw [hg, hh] at HB0 hgh
  rw [hh] at hh0
  simp only [hg, hh]
  have HGH : Hid (g ≠ h ∧ w.heap.size ≤ g ∧ w.heap.size ≤ h) := Lib.hid ⟨hgh, hg0, hh0⟩
  clear hB0 hgh hg0 hh0 hg hh
  go_loopw [7] (fun i wr => ∃ j : Nat, i = .int .i64 j ∧ j ≤ len ∧ Hid (∃ k, Both w g h s k wr)) (fun i _ => len - (intOf i).toNat)
  case atStart => exact ⟨0, rfl, by omega, Lib.hid ⟨0, HB0.out⟩⟩
  case round =>
    obtain ⟨j, rfl, hj, HK⟩ := hrel
    obtain ⟨k, hB⟩ := HK.out
    have HBk := Lib.hid hB
    clear hB HK
    by_cases hjn : j < len
    · by_cases h200 : j < 200
      · obtain ⟨b, off, rfl, hc⟩ := (HL.out.below HBk.out.2.2.2).2 (by omega)
        obtain ⟨d, m, tx, ea, b1, b2, b3, c0, c1, c2, c3⟩ := hc j hjn
        clear hc
        have hd2 : decide ((j : Int) < 200) = true := decide_eq_true (by omega)
        go_wp2_with fail
        have HC : Hid (∀ w1, Both w g h s k w1 → Calls Tryd.prog 43 #[.pointer (some ⟨g, 0, none⟩), .pointer (some ⟨h, 0, none⟩), stepV d m tx ea] w1 (StepIs w g h s)) := Lib.hid (fun w1 h1 => step_any w g h s k w1 m tx ea hs h1 HGH.out.1 HGH.out.2.1 HGH.out.2.2 HT.out HH.out d b1 b2 b3)
        go_upto_region 8 with fail
        go_cut [52] from 25 to 51 (fun x wx => x = .bool false ∧ Hid (∃ k, Both w g h s k wx))
        case first =>
          refine wp_region_any (by kernel_rfl) ?_
          change wpAny _ _ _ _ _ _ _ (World.drew _)
          refine wpAny_take (i := 0) (v := ?_) rfl (by kernel_rfl) (by kernel_rfl) (by kernel_rfl) (fun _ _ _ h => h) (Or.inl ⟨by rfl, ?_⟩) ?_
          rotate_left
          · intro W; go_simp; all_goals with_reducible rfl
          refine wpAny_take (i := 1) (v := ?_) rfl (by kernel_rfl) (by kernel_rfl) (by kernel_rfl) (fun _ _ _ h => h) (Or.inl ⟨by rfl, ?_⟩) ?_
          rotate_left
          · intro W; go_simp; all_goals with_reducible rfl
          refine wpAny_take (i := 2) (v := ?_) rfl (by kernel_rfl) (by kernel_rfl) (by kernel_rfl) (fun _ _ _ h => h) (Or.inl ⟨by rfl, ?_⟩) ?_
          rotate_left
          · intro W; go_simp; all_goals with_reducible rfl
          refine wpAny_take (i := 3) (v := ?_) rfl (by kernel_rfl) (by kernel_rfl) (by kernel_rfl) (fun _ _ _ h => h) (Or.inl ⟨by rfl, ?_⟩) ?_
          rotate_left
          · intro W; go_simp; all_goals with_reducible rfl
          refine wpAny_ready (rs := [4]) (by kernel_rfl) (by simp) ?_
          refine AllReady.cons rfl (fun K hK => ?_) AllReady.nil
          go_simp
          refine hK _ _ ?_
          clear hK K
          refine wpAny_ready (rs := [5]) (by kernel_rfl) (by simp) ?_
          refine AllReady.cons rfl (fun K hK => ?_) AllReady.nil
          go_simp
          refine hK _ _ ?_
          clear hK K
          refine wpAny_ready (rs := [6]) (by kernel_rfl) (by simp) ?_
          refine AllReady.cons rfl (fun K hK => ?_) AllReady.nil
          go_simp
          refine (HC.out _ (by first | exact HBk.out | exact HBk.out.below (below_drewN (Below.refl _ _) _) | exact HBk.out.below (below_drewN (Below.refl _ _) 1))).mono ?_
          rintro e w2 ⟨rfl, k2, hB2⟩
          have HB2 := Lib.hid hB2
          obtain ⟨h0, ⟨x0, x1, x2⟩, ⟨y0, y1, y2⟩, _⟩ := hB2
          refine hK _ _ ?_
          clear hK K
          refine wpAny_quiet_rest 7 (by kernel_rfl) (by kernel_rfl) (by kernel_rfl) ?_
          simp only [List.drop_succ_cons, List.drop_zero]
          repeat (first | go_big_quiet_step ((first | (go_at_call 23; exact Calls.quiet_of_same ((At_any _ s k2 _ (HB2.out.2.1.drewN _)).mono fun _ _ h => ⟨h.1, h.2.symm⟩)) | (go_at_call 24; exact Calls.quiet_of (Rest_any _ s k2 _ HB2.out.1 (by omega) (HB2.out.2.1.drewN _))))))
          refine wpQuiet_nil ?_
          intro _ hw'
          obtain ⟨nq, hw''⟩ := hw'
          subst hw''
          go_wp2_with fail
          go_meet
          exact ⟨rfl, Lib.hid ⟨k2, HB2.out.below (below_drewN (Below.refl _ _) _)⟩⟩
        case rest =>
          obtain ⟨rfl, HKK⟩ := hcut
          clear c0 c1 c2 c3
          go_wp2_with fail
          go_roundw
          case rel => exact ⟨j + 1, by go_num, by omega, HKK⟩
          case measure => simp [intOf]; omega
      · go_wp2_with fail
        refine (alive_any _ (HT.out.below HBk.out.2.2.2) (HH.out.below HBk.out.2.2.2)).mono ?_; rintro e w9 ⟨rfl, hb9⟩
        go_wp2_with fail
        go_ret
        exact ⟨rfl, HBk.out.2.2.2.trans (hb9.mono HBk.out.2.2.2.size)⟩
    · obtain rfl : j = len := by omega
      go_wp2_with fail
      refine (alive_any _ (HT.out.below HBk.out.2.2.2) (HH.out.below HBk.out.2.2.2)).mono ?_; rintro e w9 ⟨rfl, hb9⟩
      go_wp2_with fail
      go_ret
      exact ⟨rfl, HBk.out.2.2.2.trans (hb9.mono HBk.out.2.2.2.size)⟩
end Go.Proofs.YtnfknbjdggkdpaaDoor
