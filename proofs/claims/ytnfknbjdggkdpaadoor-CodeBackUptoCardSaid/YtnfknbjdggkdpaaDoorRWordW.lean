/-
  code.Reader.Word. No statement is proved here.
-/
import Derived.Test.YtnfknbjdggkdpaaDoorRByteW
namespace Go.Proofs.YtnfknbjdggkdpaaDoor
open Go.RowKit
/-- What a reading of a word comes to. -/
def wrdR (l : List UInt8) : Nat × Nat × Nat := if l.length < 8 then (0, 20, 0) else (beV (l.take 8), 0, 8)
theorem wrdR_lt (l : List UInt8) : (wrdR l).2.1 < 100 := by unfold wrdR; split <;> simp
theorem or_u64b (n d : Nat) (hn : n < 72057594037927936) (hd : d < 256) : bits .or .u64 ((n : Int) * 256) (d : Int) = ((n * 256 + d : Nat) : Int) := by
  have h := u64_or_nat (n * 256) d (by omega) (by omega)
  rw [show ((n * 256 : Nat) : Int) = (n : Int) * 256 by omega] at h
  rw [h]
  have h3 := Nat.two_pow_add_eq_or_of_lt (i := 8) (b := d) hd n
  rw [show (2 ^ 8 : Nat) = 256 from rfl] at h3
  rw [Nat.mul_comm n 256, h3]
theorem beV_take_lt (l : List UInt8) (j : Nat) (hj : j ≤ 7) : beV (l.take j) < 72057594037927936 := by
  have h1 := beV_lt (l.take j)
  have h2 : (l.take j).length ≤ 7 := Nat.le_trans (List.length_take_le _ _) hj
  have h3 : 256 ^ (l.take j).length ≤ 256 ^ 7 := Nat.pow_le_pow_right (by decide) h2
  have h4 : (256 : Nat) ^ 7 = 72057594037927936 := by decide
  omega
set_option maxHeartbeats 4000000 in
set_option maxRecDepth 100000 in
theorem Word1_any (g b0 b1 : Nat) (s : ByteArray) (at_ x c k : Nat) (w : World) (hN : wrdR (s.data.toList.drop at_) = (x, c, k)) (hs : s.size ≤ 140737488355328) (ha : at_ ≤ s.size) (hr : RAt w g s at_)
    (h0 : w.cell? ⟨b0, 0, none⟩ = some (.pointer (some ⟨g, 0, none⟩))) (h1 : w.cell? ⟨b1, 0, none⟩ = some (.int .u64 0)) (hf : w.frozen? ⟨b1, 0, none⟩ = false) (hg : g ≠ b1) (hb0 : b0 ≠ b1) (hb0g : b0 ≠ g) :
    Calls Tryd.prog 64 #[.pointer (some ⟨b0, 0, none⟩), .pointer (some ⟨b1, 0, none⟩)] w (DoIs g s (RBox (.int .u64 x) c k g b1 s at_ w)) := by
  have HR := Lib.hid hr
  have HN := Lib.hid hN
  obtain ⟨r0, r1, r2⟩ := hr
  clear hN
  have hb0l := World.block_lt_of_cell? w _ h0
  by_cases hlt : s.size - at_ < 8
  · go_enter Tryd.func64, Tryd.ntmps64
    go_wp2_with fail
    go_quiet (fail)
    go_wp2_with fail
    go_ret
    have hN := HN.out
    unfold wrdR at hN
    rw [if_pos (by rw [List.length_drop, ba_len]; exact hlt)] at hN
    injection hN with e1 e2
    injection e2 with e2 e3
    subst e1 e2 e3
    exact ⟨20, rfl, ⟨rfl, by rw [World.cell?_drewN]; exact h1, by rw [World.frozen?_drewN]; exact hf, (fun h => by cases h), ⟨_, HR.out.drewN _⟩, (But2.refl w g b1).drewN _⟩, _, HR.out.drewN _⟩
  · have h8 : at_ + 8 ≤ s.size := by omega
    go_enter Tryd.func64, Tryd.ntmps64
    go_wp2_with fail
    go_quiet (fail)
    go_wp2_with fail
    go_loopw [14] (fun i wr => ∃ j X : Nat, i = .int .i64 j ∧ j ≤ 8 ∧ Hid (X = beV ((s.data.toList.drop at_).take j)) ∧ Hid (RAt wr g s (at_ + j)) ∧ Hid (wr.cell? ⟨b1, 0, none⟩ = some (.int .u64 X)) ∧ Hid (wr.frozen? ⟨b1, 0, none⟩ = false) ∧ Hid (But2 w wr g b1)) (fun i _ => 8 - (intOf i).toNat)
    case atStart => exact ⟨0, 0, rfl, by omega, Lib.hid rfl, Lib.hid (HR.out.drewN _), Lib.hid (by rw [World.cell?_drewN]; exact h1), Lib.hid (by rw [World.frozen?_drewN]; exact hf), Lib.hid ((But2.refl w g b1).drewN _)⟩
    case round =>
      obtain ⟨j, X, rfl, hj, HX, HRj, HC, HF, HB⟩ := hrel
      by_cases hj8 : j < 8
      · obtain ⟨p, hp⟩ : ∃ p, at_ + j = p := ⟨_, rfl⟩
        rw [hp] at HRj
        have hps : p < s.size := by omega
        obtain ⟨b, hb⟩ : ∃ b, s[p] = b := ⟨_, rfl⟩
        have hb256 := b.toNat_lt
        have hX56 : X < 72057594037927936 := by rw [HX.out]; exact beV_take_lt _ j (by omega)
        have ho := or_u64b X b.toNat hX56 hb256
        obtain ⟨Z, hZ⟩ : ∃ Z, X * 256 + b.toNat = Z := ⟨_, rfl⟩
        rw [hZ] at ho
        have HZ : Hid (Z = beV ((s.data.toList.drop at_).take (j + 1))) := Lib.hid (by
          have hlt2 : j < (s.data.toList.drop at_).length := by rw [List.length_drop, ba_len]; omega
          have hgb : (s.data.toList.drop at_)[j] = b := by
            rw [List.getElem_drop, ← hb]
            simp only [hp]
            rfl
          rw [← List.take_append_getElem hlt2, beV_snoc, ← HX.out, hgb, hZ])
        have HP := Lib.hid hp
        obtain ⟨q0, q1, q2⟩ := HRj.out
        have hc1 := HC.out
        have hf1 := HF.out
        have c00 : wr.cell? ⟨b0, 0, none⟩ = some (.pointer (some ⟨g, 0, none⟩)) := (World.cell?_of_block (a := ⟨b0, 0, none⟩) (HB.out.block b0 hb0l hb0g hb0)).trans h0
        clear hp hZ
        go_wp2_with fail
        go_region
        go_wp2_with fail
        go_roundw
        case rel =>
          have hp1 : at_ + (j + 1) = p + 1 := by have := HP.out; omega
          have hRR : RAt ((wr.setCell ⟨b1, 0, none⟩ (.int .u64 (Z : Int))).setCell ⟨g, 1, none⟩ (.int .i64 ((p + 1 : Nat) : Int))) g s (p + 1) := (HRj.out.setO hg _).set (p + 1)
          refine ⟨j + 1, Z, by go_num, by omega, HZ, Lib.hid ?_, Lib.hid ?_, Lib.hid ?_, Lib.hid ((((HB.out).set _ (.inr rfl) _).set _ (.inl rfl) _).drewN 1)⟩
          · rw [hp1]
            exact hRR.drewN 1
          · rw [show ∀ W : World, W.drew.cell? ⟨b1, 0, none⟩ = W.cell? ⟨b1, 0, none⟩ from fun _ => rfl, World.cell?_setCell_other _ _ _ _ (by intro e; injection e with e1 e2; omega), World.cell?_setCell_same _ _ _ hc1]
          · rw [show ∀ W : World, W.drew.frozen? ⟨b1, 0, none⟩ = W.frozen? ⟨b1, 0, none⟩ from fun _ => rfl, World.frozen?_setCell, World.frozen?_setCell]
            exact hf1
        case measure => simp [intOf]; omega
      · obtain rfl : j = 8 := by omega
        go_wp2_with fail
        go_ret
        have hN := HN.out
        unfold wrdR at hN
        rw [if_neg (by rw [List.length_drop, ba_len]; omega), ← HX.out] at hN
        injection hN with e1 e2
        injection e2 with e2 e3
        subst e1 e2 e3
        exact ⟨0, rfl, ⟨rfl, HC.out, HF.out, fun _ => HRj.out, ⟨_, HRj.out⟩, HB.out⟩, _, HRj.out⟩
set_option maxHeartbeats 1000000 in
set_option maxRecDepth 100000 in
theorem RWord_any (g : Nat) (s : ByteArray) (at_ x c k : Nat) (w : World) (hN : wrdR (s.data.toList.drop at_) = (x, c, k)) (hs : s.size ≤ 140737488355328) (ha : at_ ≤ s.size) (hr : RAt w g s at_) :
    Calls Tryd.prog 41 #[.pointer (some ⟨g, 0, none⟩)] w (MethodIs (.int .u64 x) c k g s at_ w) := by
  have hlt := hr.lt
  have HR := Lib.hid hr
  have HNN := Lib.hid hN
  have hc100 : c < 100 := by have := wrdR_lt (s.data.toList.drop at_); rw [hN] at this; exact this
  clear hr hN
  go_enter Tryd.func41, Tryd.ntmps41
  go_wp2_with fail
  obtain ⟨W, hW⟩ : ∃ W, (w.alloc (.cells #[.pointer (some ⟨g, 0, none⟩)] 30)).alloc (.cells #[.int .u64 0] 22) = W := ⟨_, rfl⟩
  obtain ⟨c0, c2, cf, hB, hz⟩ := boxes2 w (.pointer (some ⟨g, 0, none⟩)) (.int .u64 0) 30 22
  rw [hW] at c0 c2 cf hB hz ⊢
  have hr1 := HR.out.below hB
  refine (keep_box _ _ (.int .u64 x) c k g _ s at_ w W hB (by omega) hlt hr1 (enterWord _) (Word1_any g w.heap.size (w.heap.size + 1) s at_ x c k W HNN.out hs ha hr1 c0 c2 cf (by omega) (by omega) (by omega)) hc100).mono ?_
  clear hr1 c0 c2 cf hW
  rintro e w1 ⟨E, rfl, hE, hx, hxf, hR, hO⟩
  have HE := Lib.hid hE
  have HR1 := Lib.hid hR
  have HO := Lib.hid hO
  clear hE hR hO
  go_wp2_with fail
  have hcell : (w1.setCell ⟨w.heap.size + 1, 0, none⟩ (.int .u64 (x : Int))).cell? ⟨w.heap.size + 1, 0, none⟩ = some (.int .u64 (x : Int)) := by rw [World.cell?_setCell_same _ _ _ hx]
  refine bodyPost_ret (v := .tuple #[.int .u64 x, E]) (by simp [results, Tryd.results41, go_sem, asAddr, hcell]) rfl ⟨E, rfl, HE.out.setO hx ?_, HR1.out.setO (by omega) _, but_setN HO.out _ _ (by omega)⟩
  intro z e; cases e
theorem wrdR_read (n : Nat) (r : List UInt8) (h : n < 18446744073709551616) : wrdR (be n 8 ++ r) = (n, 0, 8) := by
  have hl := be_length n 8
  have h8 : (256 : Nat) ^ 8 = 18446744073709551616 := by decide
  unfold wrdR
  rw [if_neg (by rw [List.length_append, hl]; omega), List.take_append_of_le_length (by omega), List.take_of_length_le (by omega), beV_be n 8 (by omega)]
end Go.Proofs.YtnfknbjdggkdpaaDoor
