/-
  frame.All and the reference's. No statement is proved here.
-/
import Derived.Test.YthimmdaefmbcjaaDoorRFrontW
import Derived.Test.YthimmdaefmbcjaaDoorOwnW
namespace Go.Proofs.YthimmdaefmbcjaaDoor
open Go.RowKit
/-- The payloads, how many bytes, why it goes no further. -/
noncomputable def allF (s : List UInt8) : Nat → Nat → List (List UInt8) × Nat × Nat
  | 0, u => ([], u, 0)
  | f + 1, u => if u < s.length then (if frontC (s.drop u) = 0 then (payL (s.drop u) :: (allF s f (u + (12 + (payL (s.drop u)).length))).1, (allF s f (u + (12 + (payL (s.drop u)).length))).2) else ([], u, frontC (s.drop u))) else ([], u, 0)
theorem allF_end (s : List UInt8) (f u : Nat) (h : ¬ u < s.length) : allF s f u = ([], u, 0) := by
  cases f with
  | zero => rfl
  | succ f => rw [allF, if_neg h]
theorem allF_bad (s : List UInt8) (f u : Nat) (h : u < s.length) (h2 : frontC (s.drop u) ≠ 0) : allF s (f + 1) u = ([], u, frontC (s.drop u)) := by rw [allF, if_pos h, if_neg h2]
theorem allF_step (s : List UInt8) (f u : Nat) (h : u < s.length) (h2 : frontC (s.drop u) = 0) :
    allF s (f + 1) u = (payL (s.drop u) :: (allF s f (u + (12 + (payL (s.drop u)).length))).1, (allF s f (u + (12 + (payL (s.drop u)).length))).2) := by rw [allF, if_pos h, if_pos h2]
noncomputable def allL (s : List UInt8) : List (List UInt8) × Nat × Nat := allF s (s.length + 1) 0
def Sofar (s : List UInt8) (ps : List (List UInt8)) (u : Nat) : Prop :=
  ∃ f, s.length < u + f ∧ allL s = (ps ++ (allF s f u).1, (allF s f u).2) ∧ ps.length * 12 ≤ u ∧ u ≤ s.length ∧ ∀ p ∈ ps, p.length ≤ s.length
theorem Sofar.start (s : List UInt8) : Sofar s [] 0 := ⟨s.length + 1, by omega, by rw [allL, List.nil_append], by simp, Nat.zero_le _, by simp⟩
theorem Sofar.le {s : List UInt8} {ps : List (List UInt8)} {u : Nat} (h : Sofar s ps u) : ps.length * 12 ≤ u ∧ u ≤ s.length := by
  obtain ⟨f, _, _, h3, h4, _⟩ := h
  exact ⟨h3, h4⟩
theorem Sofar.next {s : List UInt8} {ps : List (List UInt8)} {u : Nat} (h : Sofar s ps u) (hu : u < s.length) (hc : frontC (s.drop u) = 0) :
    Sofar s (ps ++ [payL (s.drop u)]) (u + (12 + (payL (s.drop u)).length)) := by
  obtain ⟨f, h1, h2, h3, h4, h5⟩ := h
  have hf := front_fits _ hc
  rw [List.length_drop] at hf
  cases f with
  | zero => omega
  | succ f =>
    refine ⟨f, by omega, ?_, by simp; omega, by omega, ?_⟩
    · rw [h2, allF_step s f u hu hc]
      simp
    · intro p hp
      rcases List.mem_append.1 hp with hp | hp
      · exact h5 p hp
      · simp at hp
        subst hp
        omega
theorem Sofar.end_ {s : List UInt8} {ps : List (List UInt8)} {u : Nat} (h : Sofar s ps u) (hu : ¬ u < s.length) : allL s = (ps, u, 0) := by
  obtain ⟨f, h1, h2, h3, h4, h5⟩ := h
  rw [h2, allF_end s f u hu, List.append_nil]
theorem Sofar.bad {s : List UInt8} {ps : List (List UInt8)} {u : Nat} (h : Sofar s ps u) (hu : u < s.length) (hc : frontC (s.drop u) ≠ 0) : allL s = (ps, u, frontC (s.drop u)) := by
  obtain ⟨f, h1, h2, h3, h4, h5⟩ := h
  cases f with
  | zero => omega
  | succ f => rw [h2, allF_bad s f u hu hc, List.append_nil]
theorem Sofar.mem {s : List UInt8} {ps : List (List UInt8)} {u : Nat} (h : Sofar s ps u) : ∀ p ∈ ps, p.length ≤ s.length := by
  obtain ⟨f, h1, h2, h3, h4, h5⟩ := h
  exact h5
def baL (ps : List (List UInt8)) : List ByteArray := ps.map fun p => ⟨p.toArray⟩
theorem baL_snoc (ps : List (List UInt8)) (p : List UInt8) : baL (ps ++ [p]) = baL ps ++ [⟨p.toArray⟩] := by simp [baL]
def AllIs (t : List UInt8) (w : World) (e : Ending) (w' : World) : Prop :=
  ∃ ps u v, Sofar t ps u ∧ Strs w' w.heap.size v (baL ps) ∧ Below w.heap.size w w' ∧
    ((e = .returned (.tuple #[v, .int .i64 u, .nilIface]) ∧ allL t = (ps, u, 0)) ∨
     (∃ b c : Nat, e = .returned (.tuple #[v, .int .i64 u, .iface 58 (.pointer (some ⟨b, 0, none⟩))]) ∧ FaultAt w' b c u ∧ allL t = (ps, u, c) ∧ c ≠ 0 ∧ c < 100))
theorem frontC_lt (t : List UInt8) : frontC t < 100 := by
  unfold frontC
  repeat' split
  all_goals decide
set_option maxHeartbeats 2000000 in
set_option maxRecDepth 100000 in
theorem All_any (s : ByteArray) (w : World) (hs : s.size ≤ 140737488351232) : Calls Tryd.prog 16 #[.string s] w (AllIs s.data.toList w) := by
  have HL : Hid (s.data.toList.length = s.size) := Lib.hid (ba_len s)
  go_enter Tryd.func16, Tryd.ntmps16
  go_wp2_with fail
  go_loopw [2, 3] (fun v u wr => ∃ (V : Value) (ps : List (List UInt8)) (k : Nat), V = v ∧ k ≤ s.size ∧ u = .int .i64 k ∧ Hid (Sofar s.data.toList ps k) ∧ Hid (Strs wr w.heap.size v (baL ps)) ∧ Below w.heap.size w wr) (fun _ u _ => s.size - (intOf u).toNat)
  case atStart => exact ⟨_, [], 0, rfl, Nat.zero_le _, rfl, Lib.hid (Sofar.start _), Lib.hid (Strs.nil _ _), Below.refl _ _⟩
  case round =>
    obtain ⟨V, ps, k, rfl, hk, rfl, HS, HV, hb⟩ := hrel
    by_cases hlt : k < s.size
    · have HF := Lib.hid (front_any s k wr hs hk)
      have HK : Hid (k < s.data.toList.length) := Lib.hid (by rw [HL.out]; exact hlt)
      go_wp2_with fail
      refine HF.out.mono ?_; rintro e w1 (⟨h0, rfl, hb1⟩ | ⟨h0, b, rfl, hFt, hb1⟩)
      · have HN := Lib.hid (HS.out.next HK.out h0)
        obtain ⟨p, hp⟩ : ∃ p, (⟨(payL (s.data.toList.drop k)).toArray⟩ : ByteArray) = p := ⟨_, rfl⟩
        have hpl : payL (s.data.toList.drop k) = p.data.toList := by rw [← hp]
        have hz := HN.out.le
        rw [HL.out] at hz
        rw [hpl, ba_len] at hz
        have hps : p.size ≤ 140737488351232 := by omega
        have HZ := Lib.hid (Size_any p)
        have h12 := HS.out.le
        have HB1 := hb.trans (hb1.mono hb.size)
        obtain ⟨v', w2, hap, hV2, hb2⟩ := strs_append w1 w.heap.size V (baL ps) p (HV.out.below hb1) (by simp [baL]; omega) HB1.size
        have HA := Lib.hid hap
        have HV2 := Lib.hid hV2
        have hB2 := HB1.trans hb2
        have hku : k + (12 + p.size) ≤ s.size := hz.2
        have HP2 := Lib.hid hp
        rw [show (12 + (payL (s.data.toList.drop k)).length) = 12 + p.size by rw [hpl, ba_len]] at HN
        clear h0 hpl hz h12 hap hV2 hb1 hb2
        rw [hp]
        clear hp
        go_wp2_with (at_builtin; refine wpList_append_run rfl _ _ 39 39 rfl _ _ rfl rfl HA.out ?_)
        refine (HZ.out _ hps).mono ?_; rintro e w3 ⟨rfl, rfl⟩
        go_wp2_with fail
        go_roundw
        case rel =>
          refine ⟨_, ps ++ [payL (s.data.toList.drop k)], k + (12 + p.size), rfl, hku, by go_num, ?_, ?_, hB2⟩
          · exact HN
          · rw [baL_snoc, HP2.out]
            exact HV2
        case measure => simp [intOf]; omega
      · have HB1 := hb.trans (hb1.mono hb.size)
        have HB := Lib.hid (HS.out.bad HK.out h0)
        have H0 := Lib.hid h0
        have HFt := Lib.hid hFt
        have HV2 := Lib.hid (HV.out.below hb1)
        clear hFt h0
        go_wp2_with fail
        go_ret3
        exact ⟨ps, k, V, HS.out, HV2.out, HB1, .inr ⟨b, _, rfl, HFt.out, HB.out, H0.out, frontC_lt _⟩⟩
    · obtain rfl : k = s.size := by omega
      have HB := Lib.hid (HS.out.end_ (by rw [HL.out]; omega))
      go_wp2_with fail
      go_ret3
      exact ⟨ps, _, V, HS.out, HV.out, hb, .inl ⟨rfl, HB.out⟩⟩
def RAllIs (t : List UInt8) (w : World) (e : Ending) (w' : World) : Prop :=
  ∃ ps u v, ∃ c : Nat, Sofar t ps u ∧ Strs w' w.heap.size v (baL ps) ∧ Below w.heap.size w w' ∧ e = .returned (.tuple #[v, .int .i64 u, .int .i64 c]) ∧ allL t = (ps, u, c)
set_option maxHeartbeats 2000000 in
set_option maxRecDepth 100000 in
theorem refAll_any4 (s : ByteArray) (w : World) (hs : s.size ≤ 140737488351232) : Calls Tryd.prog 17 #[.string s] w (RAllIs s.data.toList w) := by
  have HL : Hid (s.data.toList.length = s.size) := Lib.hid (ba_len s)
  go_enter Tryd.func17, Tryd.ntmps17
  go_wp2_with fail
  go_loopw [5, 6] (fun v u wr => ∃ (V : Value) (ps : List (List UInt8)) (k : Nat), V = v ∧ k ≤ s.size ∧ u = .int .i64 k ∧ Hid (Sofar s.data.toList ps k) ∧ Hid (Strs wr w.heap.size v (baL ps)) ∧ Below w.heap.size w wr) (fun _ u _ => s.size - (intOf u).toNat)
  case atStart => exact ⟨_, [], 0, rfl, Nat.zero_le _, rfl, Lib.hid (Sofar.start _), Lib.hid (Strs.nil _ _), Below.refl _ _⟩
  case round =>
    obtain ⟨V, ps, k, rfl, hk, rfl, HS, HV, hb⟩ := hrel
    by_cases hlt : k < s.size
    · have HK : Hid (k < s.data.toList.length) := Lib.hid (by rw [HL.out]; exact hlt)
      obtain ⟨t, ht⟩ : ∃ t, s.extract k s.size = t := ⟨_, rfl⟩
      have htl : t.data.toList = s.data.toList.drop k := by rw [← ht]; exact Lib.extract_to_end s k
      have hts : t.size ≤ 140737488351232 := by rw [← ba_len t, htl, List.length_drop, ba_len]; omega
      have hf := refFront_any t wr hts
      rw [htl] at hf
      have HF := Lib.hid hf
      clear hf hts htl
      go_wp2_with fail
      refine HF.out.mono ?_; rintro e w1 (⟨h0, rfl, hb1⟩ | ⟨h0, rfl, hb1⟩)
      · have HN := Lib.hid (HS.out.next HK.out h0)
        obtain ⟨p, hp⟩ : ∃ p, (⟨(payL (s.data.toList.drop k)).toArray⟩ : ByteArray) = p := ⟨_, rfl⟩
        have hpl : payL (s.data.toList.drop k) = p.data.toList := by rw [← hp]
        have hz := HN.out.le
        rw [HL.out] at hz
        rw [hpl, ba_len] at hz
        have hps : p.size ≤ 140737488351232 := by omega
        have HZ := Lib.hid (refSize_any p)
        have h12 := HS.out.le
        have HB1 := hb.trans (hb1.mono hb.size)
        obtain ⟨v', w2, hap, hV2, hb2⟩ := strs_append w1 w.heap.size V (baL ps) p (HV.out.below hb1) (by simp [baL]; omega) HB1.size
        have HA := Lib.hid hap
        have HV2 := Lib.hid hV2
        have hB2 := HB1.trans hb2
        have hku : k + (12 + p.size) ≤ s.size := hz.2
        have HP2 := Lib.hid hp
        rw [show (12 + (payL (s.data.toList.drop k)).length) = 12 + p.size by rw [hpl, ba_len]] at HN
        obtain ⟨R, hR⟩ : ∃ R, (⟨(List.drop (12 + (payL (s.data.toList.drop k)).length) (s.data.toList.drop k)).toArray⟩ : ByteArray) = R := ⟨_, rfl⟩
        rw [hR, hp]
        clear h0 hpl hz h12 hap hV2 hb1 hb2 hR
        clear hp
        go_wp2_with (at_builtin; refine wpList_append_run rfl _ _ 39 39 rfl _ _ rfl rfl HA.out ?_)
        refine (HZ.out _ hps).mono ?_; rintro e w3 ⟨rfl, rfl⟩
        go_wp2_with fail
        go_roundw
        case rel =>
          refine ⟨_, ps ++ [payL (s.data.toList.drop k)], k + (12 + p.size), rfl, hku, by go_num, HN, ?_, hB2⟩
          rw [baL_snoc, HP2.out]
          exact HV2
        case measure => simp [intOf]; omega
      · have HB1 := hb.trans (hb1.mono hb.size)
        have HB := Lib.hid (HS.out.bad HK.out h0)
        have HV2 := Lib.hid (HV.out.below hb1)
        obtain ⟨c, hc⟩ : ∃ c, frontC (s.data.toList.drop k) = c := ⟨_, rfl⟩
        rw [hc] at HB
        rw [hc] at h0
        rw [hc]
        clear hc
        go_wp2_with fail
        go_ret3
        exact ⟨ps, k, V, c, HS.out, HV2.out, HB1, rfl, HB.out⟩
    · obtain rfl : k = s.size := by omega
      have HB := Lib.hid (HS.out.end_ (by rw [HL.out]; omega))
      go_wp2_with fail
      go_ret3
      exact ⟨ps, _, V, 0, HS.out, HV.out, hb, rfl, HB.out⟩
end Go.Proofs.YthimmdaefmbcjaaDoor
