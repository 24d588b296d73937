/-
  code.Reader.text, Text. No statement is proved here.
-/
import Derived.Test.YtnfknbjdggkdpaaDoorRUintW
namespace Go.Proofs.YtnfknbjdggkdpaaDoor
open Go.RowKit
/-- What a reading of a text comes to. -/
def txtR (most : Nat) (l : List UInt8) : List UInt8 × Nat × Nat :=
  if (numR most l).2.1 ≠ 0 then ([], (numR most l).2.1, 0) else if l.length - (numR most l).2.2 < (numR most l).1 then ([], 20, 0) else
    ((l.drop (numR most l).2.2).take (numR most l).1, 0, (numR most l).2.2 + (numR most l).1)
theorem txtR_lt (most : Nat) (l : List UInt8) : (txtR most l).2.1 < 100 := by
  unfold txtR
  split
  · exact (numR_len most l).2.2.2.1
  · split <;> simp
theorem txtR_k (most : Nat) (l : List UInt8) (h : (txtR most l).2.1 = 0) : (txtR most l).2.2 ≤ l.length ∧ 0 < (txtR most l).2.2 := by
  have hn := numR_len most l
  unfold txtR at h ⊢
  split at h
  · contradiction
  · rename_i h0
    rw [if_neg h0]
    split at h
    · cases h
    · rename_i h1
      rw [if_neg h1]
      have := hn.2.2.2.2 (by omega)
      simp only
      omega
def TextIs (t : ByteArray) (c k g : Nat) (s : ByteArray) (at_ : Nat) (w : World) (e : Ending) (w' : World) : Prop :=
  ∃ j, e = .returned (.tuple #[.string t, .int .i64 c]) ∧ (c = 0 → j = at_ + k) ∧ RAt w' g s j ∧ w.grownBy w' (some g)
set_option maxHeartbeats 1000000 in
set_option maxRecDepth 100000 in
theorem text_any (each : Int) (M g : Nat) (t s : ByteArray) (at_ c k : Nat) (w : World) (hM : max each 0 = (M : Int)) (hM2 : M ≤ 9223372036854775807) (hN : txtR M (s.data.toList.drop at_) = (t.data.toList, c, k)) (hs : s.size ≤ 140737488355328) (ha : at_ ≤ s.size) (hr : RAt w g s at_) :
    Calls Tryd.prog 48 #[.pointer (some ⟨g, 0, none⟩), .int .i64 each] w (TextIs t c k g s at_ w) := by
  obtain ⟨x, c0, k0, hx⟩ : ∃ x c0 k0, numR M (s.data.toList.drop at_) = (x, c0, k0) := ⟨_, _, _, rfl⟩
  have hn0 := number_any M g s at_ w (by omega) hs ha hr
  have hlen := numR_len M (s.data.toList.drop at_)
  unfold NumIs at hn0
  rw [hx] at hn0 hlen
  unfold txtR at hN
  rw [hx] at hN
  have HN := Lib.hid hn0
  have HT := Lib.hid hN
  rw [List.length_drop, ba_len] at hlen
  have hk0 := hlen.1
  have HL := Lib.hid hlen
  clear hr hx hn0 hN hlen
  go_enter Tryd.func48, Tryd.ntmps48
  go_wp2_with fail
  refine HN.out.mono ?_; rintro e w1 ⟨k', hk', rfl, hc, hr1, hg1⟩
  have HR1 := Lib.hid hr1
  have HG1 := Lib.hid hg1
  have HC := Lib.hid hc
  clear hr1 hg1 hc
  by_cases h0 : c0 = 0
  · subst h0
    obtain rfl : k' = k0 := HC.out rfl
    obtain ⟨q, hq⟩ : ∃ q, at_ + k' = q := ⟨_, rfl⟩
    rw [hq] at HR1 hk'
    obtain ⟨r0, r1, r2⟩ := HR1.out
    have hwx : IntKind.u64.wrap ((s.size : Int) - (q : Int)) = ((s.size - q : Nat) : Int) := by rw [IntKind.wrap_u64]; omega
    have HQ := Lib.hid hq
    by_cases h1 : s.size - q < x
    · have he : t = ⟨#[]⟩ ∧ c = 20 ∧ k = 0 := by
        have := HT.out
        rw [if_neg (by simp), if_pos (by simp only [List.length_drop, ba_len]; omega)] at this
        injection this with e1 e2
        injection e2 with e2 e3
        exact ⟨ba_inj _ _ e1.symm, e2.symm, e3.symm⟩
      obtain ⟨rfl, rfl, rfl⟩ := he
      clear hq
      go_wp2_with fail
      go_quiet (fail)
      go_wp2_with fail
      go_ret2
      exact ⟨q, rfl, (fun h => by cases h), HR1.out.drewN _, but_drewN HG1.out _⟩
    · have hxs : q + x ≤ s.size := by omega
      have he : t = s.extract q (q + x) ∧ c = 0 ∧ k = k' + x := by
        have := HT.out
        rw [if_neg (by simp), if_neg (by simp only [List.length_drop, ba_len]; omega)] at this
        injection this with e1 e2
        injection e2 with e2 e3
        refine ⟨ba_inj _ _ ?_, e2.symm, e3.symm⟩
        rw [← e1, Lib.extract_data]
        simp only [List.drop_drop]
        congr 1
        · omega
        · rw [← hq]
      obtain ⟨ht0, rfl, rfl⟩ := he
      have ht := ht0.symm
      clear ht0
      have HKX : Hid (q + x = at_ + (k' + x)) := Lib.hid (by omega)
      clear hq
      go_wp2_with fail
      go_quiet (fail)
      go_wp2_with fail
      go_quiet (fail)
      go_wp2_with fail
      go_ret2
      refine ⟨at_ + (k' + x), by first | rfl | exact ret_val (by rw [← ht]; rfl), fun _ => rfl, ?_, but_set (but_drewN HG1.out _) _ _⟩
      rw [← HKX.out]
      exact (HR1.out.drewN _).set (q + x)
  · have he : t = ⟨#[]⟩ ∧ c = c0 ∧ k = 0 := by
      have := HT.out
      rw [if_pos h0] at this
      injection this with e1 e2
      injection e2 with e2 e3
      exact ⟨ba_inj _ _ e1.symm, e2.symm, e3.symm⟩
    obtain ⟨rfl, rfl, rfl⟩ := he
    have hc0 : ((c : Int) == 0) = false := beq_eq_false_iff_ne.2 (by omega)
    go_wp2_with fail
    go_ret2
    exact ⟨_, rfl, fun h => absurd h h0, HR1.out, HG1.out⟩
theorem enterText (caps : Array Value) (w : World) : (callFunc 47 caps).run Tryd.prog w = .ok (.enter 47 caps) w := by kernel_rfl
set_option maxHeartbeats 1000000 in
theorem Text1_any (each : Int) (M g b0 b1 b2 : Nat) (t s : ByteArray) (at_ c k : Nat) (w : World) (u : Value) (hM : max each 0 = (M : Int)) (hM2 : M ≤ 9223372036854775807) (hN : txtR M (s.data.toList.drop at_) = (t.data.toList, c, k)) (hs : s.size ≤ 140737488355328) (ha : at_ ≤ s.size) (hr : RAt w g s at_)
    (h0 : w.cell? ⟨b0, 0, none⟩ = some (.pointer (some ⟨g, 0, none⟩))) (h1 : w.cell? ⟨b1, 0, none⟩ = some (.int .i64 each)) (h2 : w.cell? ⟨b2, 0, none⟩ = some u) (hf : w.frozen? ⟨b2, 0, none⟩ = false) (hg : g ≠ b2) :
    Calls Tryd.prog 47 #[.pointer (some ⟨b0, 0, none⟩), .pointer (some ⟨b1, 0, none⟩), .pointer (some ⟨b2, 0, none⟩)] w (DoIs g s (RBox (.string t) c k g b2 s at_ w)) := by
  have HN := Lib.hid (text_any each M g t s at_ c k w hM hM2 hN hs ha hr)
  clear hr hN hM
  go_enter Tryd.func47, Tryd.ntmps47
  go_wp2_with fail
  refine HN.out.mono ?_; rintro e w1 ⟨j, rfl, hc, hr1, hg1⟩
  have hblk := hg1.block b2 (World.block_lt_of_cell? w _ h2) (by simpa using fun e => hg e.symm)
  have h2' : w1.cell? ⟨b2, 0, none⟩ = some u := (World.cell?_of_block (a := ⟨b2, 0, none⟩) hblk).trans h2
  have hf' : w1.frozen? ⟨b2, 0, none⟩ = false := (World.frozen?_of_block (a := ⟨b2, 0, none⟩) hblk).trans hf
  have HC := Lib.hid hc
  have HR1 := Lib.hid hr1
  have HG1 := Lib.hid hg1
  clear hc hr1 hg1 hblk
  go_wp2_with fail
  go_ret
  refine ⟨c, rfl, ⟨rfl, by rw [World.cell?_setCell_same _ _ _ h2'], by rw [World.frozen?_setCell]; exact hf', fun h0 => ?_, ⟨_, HR1.out.setO hg _⟩, (But2.of HG1.out).set _ (.inr rfl) _⟩, _, HR1.out.setO hg _⟩
  rw [← HC.out h0]
  exact HR1.out.setO hg _
set_option maxHeartbeats 1000000 in
set_option maxRecDepth 100000 in
theorem RText_any (each : Int) (M g : Nat) (t s : ByteArray) (at_ c k : Nat) (w : World) (hM : max each 0 = (M : Int)) (hM2 : M ≤ 9223372036854775807) (hN : txtR M (s.data.toList.drop at_) = (t.data.toList, c, k)) (hs : s.size ≤ 140737488355328) (ha : at_ ≤ s.size) (hr : RAt w g s at_) :
    Calls Tryd.prog 21 #[.pointer (some ⟨g, 0, none⟩), .int .i64 each] w (MethodIs (.string t) c k g s at_ w) := by
  have hlt := hr.lt
  have HR := Lib.hid hr
  have HNN := Lib.hid hN
  have HM := Lib.hid hM
  have hc100 : c < 100 := by have := txtR_lt M (s.data.toList.drop at_); rw [hN] at this; exact this
  clear hr hN hM
  go_enter Tryd.func21, Tryd.ntmps21
  go_wp2_with fail
  obtain ⟨W, hW⟩ : ∃ W, ((w.alloc (.cells #[.pointer (some ⟨g, 0, none⟩)] 30)).alloc (.cells #[.int .i64 each] 3)).alloc (.cells #[.string ⟨#[]⟩] 9) = W := ⟨_, rfl⟩
  obtain ⟨c0, c1, c2, cf, hB, hz⟩ := boxes3 w (.pointer (some ⟨g, 0, none⟩)) (.int .i64 each) (.string ⟨#[]⟩) 30 3 9
  rw [hW] at c0 c1 c2 cf hB hz ⊢
  have hr1 := HR.out.below hB
  refine (keep_box _ _ (.string t) c k g _ s at_ w W hB (by omega) hlt hr1 (enterText _) (Text1_any each M g w.heap.size (w.heap.size + 1) (w.heap.size + 1 + 1) t s at_ c k W _ HM.out hM2 HNN.out hs ha hr1 c0 c1 c2 cf (by omega)) hc100).mono ?_
  clear hr1 c0 c1 c2 cf hW
  rintro e w1 ⟨E, rfl, hE, hx, hxf, hR, hO⟩
  have HE := Lib.hid hE
  have HR1 := Lib.hid hR
  have HO := Lib.hid hO
  clear hE hR hO
  go_wp2_with fail
  have hcell : (w1.setCell ⟨w.heap.size + 1 + 1, 0, none⟩ (.string t)).cell? ⟨w.heap.size + 1 + 1, 0, none⟩ = some (.string t) := by rw [World.cell?_setCell_same _ _ _ hx]
  refine bodyPost_ret (v := .tuple #[.string t, E]) (by simp [results, Tryd.results21, go_sem, asAddr, hcell]) rfl ⟨E, rfl, HE.out.setO hx ?_, HR1.out.setO (by omega) _, but_setN HO.out _ _ (by omega)⟩
  intro z e; cases e
theorem RText_nil (each : Int) (w : World) : Calls Tryd.prog 21 #[.pointer none, .int .i64 each] w fun e w' => ∃ E, e = .returned (.tuple #[.string ⟨#[]⟩, E]) ∧ ErrVal w' E 1 (-1) ∧ Below w.heap.size w w' := by
  go_enter Tryd.func21, Tryd.ntmps21
  go_wp2_with fail
  obtain ⟨W, hW⟩ : ∃ W, ((w.alloc (.cells #[.pointer none] 30)).alloc (.cells #[.int .i64 each] 3)).alloc (.cells #[.string ⟨#[]⟩] 9) = W := ⟨_, rfl⟩
  obtain ⟨c0, c1, c2, cf, hB, hz⟩ := boxes3 w (.pointer none) (.int .i64 each) (.string ⟨#[]⟩) 30 3 9
  rw [hW] at c0 c1 c2 cf hB hz ⊢
  refine (keep_nil _ _).mono ?_
  rintro e w1 ⟨b, rfl, hF, hb⟩
  have hlt : w.heap.size + 1 + 1 < W.heap.size := by omega
  have hx : w1.cell? ⟨w.heap.size + 1 + 1, 0, none⟩ = some (.string ⟨#[]⟩) := (hb.cell (p := ⟨w.heap.size + 1 + 1, 0, none⟩) hlt).trans c2
  have hxf : w1.frozen? ⟨w.heap.size + 1 + 1, 0, none⟩ = false := (hb.frozen (p := ⟨w.heap.size + 1 + 1, 0, none⟩) hlt).trans cf
  have hO := hB.trans (hb.mono (by omega))
  have HF := Lib.hid hF
  clear hF hb c0 c1 c2 cf hW
  go_wp2_with fail
  have hcell : (w1.setCell ⟨w.heap.size + 1 + 1, 0, none⟩ (.string ⟨#[]⟩)).cell? ⟨w.heap.size + 1 + 1, 0, none⟩ = some (.string ⟨#[]⟩) := by rw [World.cell?_setCell_same _ _ _ hx]
  refine bodyPost_ret (v := .tuple #[.string ⟨#[]⟩, .iface 115 (.pointer (some ⟨b, 0, none⟩))]) (by simp [results, Tryd.results21, go_sem, asAddr, hcell]) rfl ⟨_, rfl, .inr ⟨by decide, by decide, b, rfl, HF.out.setO hx ?_⟩, hO.setCell (by simp only; omega) _⟩
  intro z e; cases e
end Go.Proofs.YtnfknbjdggkdpaaDoor
