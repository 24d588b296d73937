import Derived.Test.YthimmdaefmbcjaaDoorFrAllW
import Derived.Test.YthimmdaefmbcjaaDoorFAlive
namespace Go.Proofs.YthimmdaefmbcjaaDoor
open Go.RowKit
def ErrIs (w : World) (E : Value) (c : Nat) (at_ : Int) : Prop :=
  (c = 0 ∧ E = .nilIface) ∨ (c ≠ 0 ∧ c < 100 ∧ ∃ b, E = .iface 58 (.pointer (some ⟨b, 0, none⟩)) ∧ FaultAt w b c at_)
theorem ErrIs.below {w w' : World} {E : Value} {c : Nat} {at_ : Int} (h : ErrIs w E c at_) (hb : Below w.heap.size w w') : ErrIs w' E c at_ := by
  rcases h with h | ⟨h1, h2, b, h3, h4⟩
  · exact .inl h
  · exact .inr ⟨h1, h2, b, h3, h4.below hb⟩
theorem is_errIs (E : Value) (c : Nat) (at_ : Int) (w : World) (h : ErrIs w E c at_) (ha : at_ ≤ 9223372036854775807) (hT : TabAny w) (hH : Handle w) :
    Calls Tryd.prog 10 #[E, .int .i64 c, .string ⟨#[]⟩, .int .i64 at_] w fun e w' => e = .returned (.bool true) ∧ Below w.heap.size w w' := by
  rcases h with ⟨rfl, rfl⟩ | ⟨h1, h2, b, rfl, h4⟩
  · refine (is_nil ⟨#[]⟩ at_ w).mono ?_
    rintro e w' ⟨rfl, rfl⟩
    exact ⟨rfl, Below.refl _ _⟩
  · exact is_err b c at_ h1 h2 ha w h4 hT hH
noncomputable def frontP (t : List UInt8) : ByteArray := if frontC t = 0 then ⟨(payL t).toArray⟩ else ⟨#[]⟩
noncomputable def frontR (t : List UInt8) : ByteArray := if frontC t = 0 then ⟨(t.drop (12 + (payL t).length)).toArray⟩ else ⟨#[]⟩
theorem Front_u (s : ByteArray) (w : World) (hs : s.size ≤ 140737488351232) :
    Calls Tryd.prog 14 #[.string s] w fun e w' => ∃ E, e = .returned (.tuple #[.string (frontP s.data.toList), .string (frontR s.data.toList), E]) ∧ ErrIs w' E (frontC s.data.toList) 0 ∧ Below w.heap.size w w' := by
  refine (Front_any s w hs).mono ?_
  rintro e w' (⟨h, rfl, hb⟩ | ⟨h, b, rfl, hF, hb⟩)
  · exact ⟨_, by rw [frontP, frontR, if_pos h, if_pos h], .inl ⟨h, rfl⟩, hb⟩
  · exact ⟨_, by rw [frontP, frontR, if_neg h, if_neg h], .inr ⟨h, frontC_lt _, b, rfl, hF⟩, hb⟩
theorem refFront_u (s : ByteArray) (w : World) (hs : s.size ≤ 140737488351232) :
    Calls Tryd.prog 15 #[.string s] w fun e w' => e = .returned (.tuple #[.string (frontP s.data.toList), .string (frontR s.data.toList), .int .i64 (frontC s.data.toList)]) ∧ Below w.heap.size w w' := by
  refine (refFront_any s w hs).mono ?_
  rintro e w' (⟨h, rfl, hb⟩ | ⟨h, rfl, hb⟩)
  · exact ⟨by rw [frontP, frontR, if_pos h, if_pos h, h]; rfl, hb⟩
  · exact ⟨by rw [frontP, frontR, if_neg h, if_neg h], hb⟩
theorem All_u (s : ByteArray) (w : World) (hs : s.size ≤ 140737488351232) :
    Calls Tryd.prog 16 #[.string s] w fun e w' => ∃ E a cap, e = .returned (.tuple #[.slice a (baL (allL s.data.toList).1).length cap, .int .i64 (allL s.data.toList).2.1, E]) ∧ ErrIs w' E (allL s.data.toList).2.2 (allL s.data.toList).2.1 ∧ Below w.heap.size w w' ∧ StrRow w' a (baL (allL s.data.toList).1).length (baL (allL s.data.toList).1) ∧ (allL s.data.toList).2.1 ≤ s.size ∧ (baL (allL s.data.toList).1).length ≤ s.size := by
  refine (All_any s w hs).mono ?_
  rintro e w' ⟨ps, u, v, hS, hV, hb, h⟩
  have hl := hS.le
  rw [ba_len] at hl
  have hl2 : (baL ps).length ≤ s.size := by simp [baL]; omega
  obtain ⟨a, cap, rfl, hr⟩ := hV.row (by unfold maxLen; omega) (by
    intro x hx
    simp only [baL, List.mem_map] at hx
    obtain ⟨p, hp, rfl⟩ := hx
    have := hS.mem p hp
    rw [ba_len] at this
    rw [ba_size]
    unfold maxLen
    omega)
  rcases h with ⟨rfl, hA⟩ | ⟨b, c, rfl, hF, hA, h0, hc⟩
  · rw [hA]
    exact ⟨_, a, cap, rfl, .inl ⟨rfl, rfl⟩, hb, hr, hl.2, hl2⟩
  · rw [hA]
    exact ⟨_, a, cap, rfl, .inr ⟨h0, hc, b, rfl, hF⟩, hb, hr, hl.2, hl2⟩
theorem refAll_u (s : ByteArray) (w : World) (hs : s.size ≤ 140737488351232) :
    Calls Tryd.prog 17 #[.string s] w fun e w' => ∃ a cap, e = .returned (.tuple #[.slice a (baL (allL s.data.toList).1).length cap, .int .i64 (allL s.data.toList).2.1, .int .i64 (allL s.data.toList).2.2]) ∧ Below w.heap.size w w' ∧ StrRow w' a (baL (allL s.data.toList).1).length (baL (allL s.data.toList).1) := by
  refine (refAll_any4 s w hs).mono ?_
  rintro e w' ⟨ps, u, v, c, hS, hV, hb, rfl, hA⟩
  have hl := hS.le
  rw [ba_len] at hl
  have hl2 : (baL ps).length ≤ s.size := by simp [baL]; omega
  obtain ⟨a, cap, rfl, hr⟩ := hV.row (by unfold maxLen; omega) (by
    intro x hx
    simp only [baL, List.mem_map] at hx
    obtain ⟨p, hp, rfl⟩ := hx
    have := hS.mem p hp
    rw [ba_len] at this
    rw [ba_size]
    unfold maxLen
    omega)
  rw [hA]
  exact ⟨a, cap, rfl, hb, hr⟩
set_option maxHeartbeats 4000000 in
set_option maxRecDepth 100000 in
theorem FrameFronts_walk (s : ByteArray) (w : World) (hs : s.size ≤ 140737488351232) (hT : TabAny w) (hH : Handle w) :
    Calls Tryd.prog 6 #[.string s] w fun e w' => e = .returned (.bool true) ∧ Below w.heap.size w w' := by
  have hF := fun W => Front_u s W hs
  have hRF := fun W => refFront_u s W hs
  have hA := fun W => All_u s W hs
  have hRA := fun W => refAll_u s W hs
  obtain ⟨P, hP⟩ : ∃ P, frontP s.data.toList = P := ⟨_, rfl⟩
  obtain ⟨R, hR⟩ : ∃ R, frontR s.data.toList = R := ⟨_, rfl⟩
  obtain ⟨C, hC⟩ : ∃ C, frontC s.data.toList = C := ⟨_, rfl⟩
  obtain ⟨L, hL⟩ : ∃ L, baL (allL s.data.toList).1 = L := ⟨_, rfl⟩
  obtain ⟨u, hu⟩ : ∃ u, (allL s.data.toList).2.1 = u := ⟨_, rfl⟩
  obtain ⟨c, hc⟩ : ∃ c, (allL s.data.toList).2.2 = c := ⟨_, rfl⟩
  simp only [hP, hR, hC, hL, hu, hc] at hF hRF hA hRA
  have HF := Lib.hid hF
  have HRF := Lib.hid hRF
  have HA := Lib.hid hA
  have HRA := Lib.hid hRA
  have HT := Lib.hid hT
  have HH := Lib.hid hH
  clear hF hRF hA hRA hP hR hC hL hu hc hT hH
  obtain ⟨n, hn⟩ : ∃ n, L.length = n := ⟨_, rfl⟩
  rw [hn] at HA HRA
  clear hn
  go_enter Tryd.func6, Tryd.ntmps6
  go_wp2_with fail
  refine (HF.out _).mono ?_; rintro e w1 ⟨E, rfl, hE, hb1⟩
  have HE := Lib.hid hE
  clear hE
  go_wp2_with fail
  refine (HRF.out _).mono ?_; rintro e w2 ⟨rfl, hb2⟩
  have hB2 := hb1.trans (hb2.mono hb1.size)
  go_wp2_with fail
  refine (is_errIs E C 0 _ (HE.out.below hb2) (by decide) (HT.out.below hB2) (HH.out.below hB2)).mono ?_; rintro e w3 ⟨rfl, hb3⟩
  have hB3 := hB2.trans (hb3.mono hB2.size)
  go_wp2_with fail
  refine (HA.out _).mono ?_; rintro e w4 ⟨F, a, cap, rfl, hE2, hb4, hr, hus, hns⟩
  have hB4 := hB3.trans (hb4.mono hB3.size)
  have HE2 := Lib.hid hE2
  have HR1 := Lib.hid hr
  clear hE2 hr
  go_wp2_with fail
  refine (HRA.out _).mono ?_; rintro e w5 ⟨a2, cap2, rfl, hb5, hr2⟩
  have hB5 := hB4.trans (hb5.mono hB4.size)
  have HR2 := Lib.hid hr2
  have HR1 := Lib.hid (HR1.out.below hb5)
  clear hr2
  go_wp2_with fail
  refine (is_errIs F c u _ (HE2.out.below hb5) (by omega) (HT.out.below hB5) (HH.out.below hB5)).mono ?_; rintro e w6 ⟨rfl, hb6⟩
  have hB6 := hB5.trans (hb6.mono hB5.size)
  have HR1 := Lib.hid (HR1.out.below hb6)
  have HR2 := Lib.hid (HR2.out.below hb6)
  go_wp2_with fail
  go_loopw [15] (fun i wr => ∃ k nd : Nat, k ≤ n ∧ i = .int .i64 k ∧ wr = w6.drewN nd) (fun i _ => n - (intOf i).toNat)
  case atStart => exact ⟨0, 0, Nat.zero_le _, rfl, rfl⟩
  case round =>
    obtain ⟨k, nd, hk, rfl, rfl⟩ := hrel
    by_cases hlt : k < n
    · obtain ⟨b, off, x, rfl, hc, Hx, Hs⟩ := HR1.out.item k hlt
      obtain ⟨b2, off2, x2, rfl, hc2, Hx2, Hs2⟩ := HR2.out.item k hlt
      obtain rfl : x = x2 := Option.some.inj (Hx.out.symm.trans Hx2.out)
      go_wp2_with fail
      go_quiet (fail)
      go_wp2_with fail
      go_roundw
      case rel => exact ⟨k + 1, _, by omega, by go_num, rfl⟩
      case measure => simp [intOf]; omega
    · have hB7 := below_drewN hB6 nd
      go_wp2_with fail
      refine (alive_any _ (HT.out.below hB7) (HH.out.below hB7)).mono ?_; rintro e w7 ⟨rfl, hb7⟩
      go_wp2_with fail
      go_ret
      exact ⟨rfl, hB7.trans (hb7.mono hB7.size)⟩
end Go.Proofs.YthimmdaefmbcjaaDoor
