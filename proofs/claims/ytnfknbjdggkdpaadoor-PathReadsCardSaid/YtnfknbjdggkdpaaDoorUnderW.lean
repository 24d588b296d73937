/-
  path.Under. No statement is proved here.
-/
import Derived.Test.YtnfknbjdggkdpaaDoorStrMakeW
namespace Go.Proofs.YtnfknbjdggkdpaaDoor
open Go.RowKit
open Classical in
/-- Is a text a name of this kind? -/
noncomputable def kindIs (k : Nat) (s : ByteArray) : Bool := match readR s.data.toList with
  | none => false
  | some p => decide (p.1 = k)
theorem filter_no {k K : Nat} {ss : List ByteArray} {x : ByteArray} (hx : ss[K]? = some x) (hn : kindIs k x = false) : (ss.take (K + 1)).filter (kindIs k) = (ss.take K).filter (kindIs k) := by
  rw [List.take_add_one, hx, Option.toList_some, List.filter_append]
  simp [hn]
theorem filter_yes {k K : Nat} {ss : List ByteArray} {x : ByteArray} (hx : ss[K]? = some x) (hn : kindIs k x = true) : (ss.take (K + 1)).filter (kindIs k) = (ss.take K).filter (kindIs k) ++ [x] := by
  rw [List.take_add_one, hx, Option.toList_some, List.filter_append]
  simp [hn]
theorem set_fill (F : List ByteArray) (m len : Nat) (x : ByteArray) (hm : m = F.length) (hl : m < len) : (F ++ List.replicate (len - m) ByteArray.empty).set m x = F ++ [x] ++ List.replicate (len - (m + 1)) ByteArray.empty := by
  obtain ⟨d, hd⟩ : ∃ d, len - m = d + 1 := ⟨len - m - 1, by omega⟩
  have hd2 : len - (m + 1) = d := by omega
  rw [hd, hd2, List.replicate_succ, hm, List.set_append_right _ _ (Nat.le_refl _), Nat.sub_self, List.set_cons_zero, List.append_assoc]
  rfl
set_option maxHeartbeats 4000000 in
set_option maxRecDepth 100000 in
theorem Under_any (k : Nat) (a : Option Addr) (len cap : Nat) (ss : List ByteArray) (w : World) (hr : StrRow w a len ss) (hl : len ≤ 300) (hss : ∀ s ∈ ss, s.size ≤ 140737488351232) (hk : k < 256) (hT : TabH w) :
    Calls Tryd.prog 40 #[.int .u8 k, .slice a len cap] w fun e w' => e = .returned (.slice (some ⟨w.heap.size, 0, none⟩) (ss.filter (kindIs k)).length (ss.filter (kindIs k)).length) ∧ (∀ j, j < (ss.filter (kindIs k)).length → w'.cell? ⟨w.heap.size, j, none⟩ = some (.string ((ss.filter (kindIs k)).getD j ByteArray.empty))) ∧ Below w.heap.size w w' := by
  obtain ⟨W1, hmk, hst, hB1, hlt1⟩ := make_strs w len (by omega)
  have HST := Lib.hid hst
  have HB1 := Lib.hid hB1
  have HR := Lib.hid (hr.below hB1)
  have HT := Lib.hid hT
  have HSS := Lib.hid hss
  clear hss
  have HR0 := Lib.hid hr
  have HLT := Lib.hid hlt1
  clear hst hB1 hr hT hlt1
  go_enter Tryd.func40, Tryd.ntmps40
  go_upto_region 3 with fail
  clear hmk
  go_wp2_with fail
  go_loopw [5, 16] (fun n i wr => ∃ K m : Nat, K ≤ len ∧ m ≤ K ∧ i = .int .i64 K ∧ n = .int .i64 m ∧ Hid (m = ((ss.take K).filter (kindIs k)).length) ∧ Hid (StrsAt wr w.heap.size ((ss.take K).filter (kindIs k) ++ List.replicate (len - m) ByteArray.empty)) ∧ Hid (Below w.heap.size w wr ∧ w.heap.size < wr.heap.size)) (fun _ i _ => len - (intOf i).toNat)
  case atStart => exact ⟨0, 0, Nat.zero_le _, Nat.le_refl _, rfl, rfl, Lib.hid rfl, Lib.hid (by simpa using HST.out), Lib.hid ⟨HB1.out, HLT.out⟩⟩
  case round =>
    obtain ⟨K, m, hK, hm, rfl, rfl, HM, HS, HB⟩ := hrel
    by_cases hlt : K < len
    · obtain ⟨b, off, x, rfl, hc, Hx, Hs⟩ := (HR0.out.below HB.out.1).item K hlt
      have HRD := Lib.hid (pRead_any x wr (by have := HSS.out x (List.mem_of_getElem? Hx.out); omega) (HT.out.below HB.out.1))
      unfold ReadIs at HRD
      go_wp2_with fail
      refine (HRD.out).mono ?_; rintro e w2 ⟨rfl, hb⟩
      have HS2 := Lib.hid (HS.out.below hb HB.out.2)
      have HB2 := Lib.hid (HB.out.1.trans (hb.mono HB.out.1.size))
      have HL2 := Lib.hid (Nat.lt_of_lt_of_le HB.out.2 hb.size)
      clear hb
      cases hrd : readR x.data.toList with
      | none =>
        have HNO : Hid (kindIs k x = false) := Lib.hid (by rw [kindIs, hrd])
        clear hrd HRD
        simp only [Option.getD_none, pathV, noP]
        go_wp2_with fail
        go_roundw
        case rel => exact ⟨K + 1, m, by omega, by omega, by go_num, rfl, Lib.hid (by rw [filter_no Hx.out HNO.out]; exact HM.out), Lib.hid (by rw [filter_no Hx.out HNO.out]; exact HS2.out.below ((Below.refl _ _).alloc (Nat.le_refl _) _) HL2.out), Lib.hid ⟨HB2.out.alloc HB2.out.size _, by have := HL2.out; simp; omega⟩⟩
        case measure => simp [intOf]; omega
      | some r =>
        obtain ⟨q1, q2, q3, q4, q5⟩ := r
        simp only [Option.getD_some, pathV]
        by_cases hq : q1 = k
        · have HYES : Hid (kindIs k x = true) := Lib.hid (by rw [kindIs, hrd]; simp [hq])
          clear hrd HRD
          subst hq
          go_upto_region 7 with fail
          obtain ⟨W, hW⟩ : ∃ W, w2.alloc (.cells #[.int .u8 q1, .int .i64 q2, .int .u64 q3, .int .u32 q4, .string ⟨q5.toArray⟩] 59) = W := ⟨_, rfl⟩
          have hc := CellsP.new w2 59 q1 q2 q3 q4 ⟨q5.toArray⟩
          have hbW : Below w2.heap.size w2 W := by rw [← hW]; exact (Below.refl _ _).alloc (Nat.le_refl _) _
          rw [hW] at hc ⊢
          have HS3 := Lib.hid (HS2.out.below hbW HL2.out)
          have HB3 := Lib.hid (HB2.out.trans (hbW.mono HB2.out.size))
          have HL3 := Lib.hid (Nat.lt_of_lt_of_le HL2.out hbW.size)
          clear hbW hW
          have hlen : m < ((ss.take K).filter (kindIs q1) ++ List.replicate (len - m) ByteArray.empty).length := by rw [List.length_append, List.length_replicate, ← HM.out]; omega
          have HLEN := Lib.hid hlen
          obtain ⟨e1, e2⟩ := HS3.out m hlen
          obtain ⟨c0, c1, c2, c3, c4, _, _, _, _, _⟩ := hc
          have hml : m < len := by omega
          clear hlen
          go_wp2_with fail
          go_roundw
          case rel => exact ⟨K + 1, m + 1, by omega, by omega, by go_num, by go_num, Lib.hid (by rw [filter_yes Hx.out HYES.out, List.length_append, ← HM.out]; rfl), Lib.hid (by
            have := HS3.out.set m x HLEN.out
            rw [filter_yes Hx.out HYES.out]
            rw [← set_fill _ _ _ _ HM.out hml]
            exact this), Lib.hid ⟨HB3.out.setCell (by simp) _, by have := HL3.out; simp; omega⟩⟩
          case measure => simp [intOf]; omega
        · have HNO : Hid (kindIs k x = false) := Lib.hid (by rw [kindIs, hrd]; simp [hq])
          clear hrd HRD
          go_wp2_with fail
          go_roundw
          case rel => exact ⟨K + 1, m, by omega, by omega, by go_num, rfl, Lib.hid (by rw [filter_no Hx.out HNO.out]; exact HM.out), Lib.hid (by rw [filter_no Hx.out HNO.out]; exact HS2.out.below ((Below.refl _ _).alloc (Nat.le_refl _) _) HL2.out), Lib.hid ⟨HB2.out.alloc HB2.out.size _, by have := HL2.out; simp; omega⟩⟩
          case measure => simp [intOf]; omega
    · obtain rfl : K = len := by omega
      have hfull : ss.take K = ss := List.take_of_length_le (by have := HR0.out.1; omega)
      have HF := Lib.hid hfull
      clear hfull
      go_wp2_with fail
      go_ret
      have e := HM.out
      rw [HF.out] at e
      refine ⟨by rw [← e]; simp, fun j hj => ?_, HB.out.1⟩
      have h := HS.out
      rw [HF.out] at h
      rw [(h j (by rw [List.length_append]; omega)).1]
      simp only [List.getD_eq_getElem?_getD, List.getElem?_append_left hj]
end Go.Proofs.YtnfknbjdggkdpaaDoor
