/-
  The reference's reader: a word, a byte, a text, the end. No statement is proved here.
-/
import Derived.Test.YtnfknbjdggkdpaaDoorRefUintW
import Derived.Test.YtnfknbjdggkdpaaDoorRWordW
namespace Go.Proofs.YtnfknbjdggkdpaaDoor
open Go.RowKit
theorem most_any (n : Int) (N : Nat) (w : World) (hN : max n 0 = (N : Int)) (hN2 : N ≤ 9223372036854775807) : Calls Tryd.prog 84 #[.int .i64 n] w fun e w' => e = .returned (.int .u64 N) ∧ w = w' := by
  by_cases h : n < 0
  · obtain rfl : N = 0 := by omega
    clear hN
    go_enter Tryd.func84, Tryd.ntmps84
    go_wp2_with fail
    go_ret
    exact ⟨rfl, rfl⟩
  · obtain rfl : n = (N : Int) := by omega
    clear hN h
    go_enter Tryd.func84, Tryd.ntmps84
    go_wp2_with fail
    go_ret
    exact ⟨rfl, rfl⟩
set_option maxHeartbeats 1000000 in
set_option maxRecDepth 100000 in
theorem rByte_any (g : Nat) (s : ByteArray) (at_ x c k : Nat) (w : World) (hN : bytR (s.data.toList.drop at_) = (x, c, k)) (hs : s.size ≤ 140737488355328) (ha : at_ ≤ s.size) (hr : RAt w g s at_) :
    Calls Tryd.prog 69 #[.pointer (some ⟨g, 0, none⟩)] w (RefIs (.int .u8 x) c k g s at_ w) := by
  have HR := Lib.hid hr
  have HN := Lib.hid hN
  obtain ⟨r0, r1, r2⟩ := hr
  clear hN
  by_cases hlt : at_ < s.size
  · obtain ⟨b, hb⟩ : ∃ b, s[at_] = b := ⟨_, rfl⟩
    have hdrop : s.data.toList.drop at_ = b :: s.data.toList.drop (at_ + 1) := by
      rw [List.drop_eq_getElem_cons (by rw [ba_len]; exact hlt)]
      congr 1
    have HE : Hid ((x, c, k) = (b.toNat, 0, 1)) := Lib.hid (by rw [← HN.out, hdrop]; rfl)
    clear hdrop
    go_enter Tryd.func69, Tryd.ntmps69
    go_wp2_with fail
    go_quiet (fail)
    go_wp2_with fail
    go_quiet (fail)
    go_wp2_with fail
    go_ret3
    injection HE.out with e1 e2
    injection e2 with e2 e3
    subst e1 e2 e3
    exact RefIs.good (by first | exact (HR.out.drewN _).set (at_ + 1) | exact ((HR.out.drewN _).drewN _).set (at_ + 1)) (by first | exact but_set (but_drewN (but_refl _ _) _) _ _ | exact but_set (but_drewN (but_drewN (but_refl _ _) _) _) _ _)
  · have he : at_ = s.size := by omega
    have HE : Hid ((x, c, k) = (0, 20, 0)) := Lib.hid (by rw [← HN.out, List.drop_of_length_le (by rw [ba_len]; omega)]; rfl)
    have hge : (s.size : Int) ≤ (at_ : Int) := by omega
    have HEE := Lib.hid he
    clear he
    go_enter Tryd.func69, Tryd.ntmps69
    go_wp2_with fail
    go_quiet (fail)
    go_wp2_with fail
    go_quiet (fail)
    go_wp2_with fail
    go_ret3
    injection HE.out with e1 e2
    injection e2 with e2 e3
    subst e1 e2 e3
    exact RefIs.bad (by decide) (by first | exact HR.out.drewN _ | exact (HR.out.drewN _).drewN _) (by first | exact but_drewN (but_refl _ _) _ | exact but_drewN (but_drewN (but_refl _ _) _) _)
def RefEndIs (g : Nat) (s : ByteArray) (at_ : Nat) (w : World) (e : Ending) (w' : World) : Prop :=
  e = .returned (.tuple #[.int .i64 (if at_ < s.size then 23 else 0 : Nat), .int .i64 (if at_ < s.size then (at_ : Int) else 0)]) ∧ RAt w' g s at_ ∧ ∃ n, w' = w.drewN n
theorem rEnd_any (g : Nat) (s : ByteArray) (at_ : Nat) (w : World) (hr : RAt w g s at_) : Calls Tryd.prog 72 #[.pointer (some ⟨g, 0, none⟩)] w (RefEndIs g s at_ w) := by
  have HR := Lib.hid hr
  obtain ⟨r0, r1, r2⟩ := hr
  unfold RefEndIs
  by_cases hlt : at_ < s.size
  · rw [if_pos hlt, if_pos hlt]
    go_enter Tryd.func72, Tryd.ntmps72
    go_wp2_with fail
    go_quiet (fail)
    go_wp2_with fail
    go_quiet (fail)
    go_wp2_with fail
    go_ret2
    exact ⟨rfl, by first | exact HR.out.drewN _ | exact (HR.out.drewN _).drewN _, by first | exact ⟨_, rfl⟩ | exact ⟨_, World.drewN_drewN _ _ _⟩⟩
  · rw [if_neg hlt, if_neg hlt]
    have hge : (s.size : Int) ≤ (at_ : Int) := by omega
    go_enter Tryd.func72, Tryd.ntmps72
    go_wp2_with fail
    go_quiet (fail)
    go_wp2_with fail
    go_ret2
    exact ⟨rfl, HR.out.drewN _, _, rfl⟩
set_option maxHeartbeats 2000000 in
set_option maxRecDepth 100000 in
theorem rWord_any (g : Nat) (s : ByteArray) (at_ x c k : Nat) (w : World) (hN : wrdR (s.data.toList.drop at_) = (x, c, k)) (hs : s.size ≤ 140737488355328) (ha : at_ ≤ s.size) (hr : RAt w g s at_) :
    Calls Tryd.prog 67 #[.pointer (some ⟨g, 0, none⟩)] w (RefIs (.int .u64 x) c k g s at_ w) := by
  have HR := Lib.hid hr
  have HN := Lib.hid hN
  obtain ⟨r0, r1, r2⟩ := hr
  clear hN
  by_cases hlt : s.size - at_ < 8
  · have HE : Hid ((x, c, k) = (0, 20, 0)) := Lib.hid (by rw [← HN.out, wrdR, if_pos (by rw [List.length_drop, ba_len]; exact hlt)])
    go_enter Tryd.func67, Tryd.ntmps67
    go_wp2_with fail
    go_quiet (fail)
    go_wp2_with fail
    go_quiet (fail)
    go_wp2_with fail
    go_ret3
    injection HE.out with e1 e2
    injection e2 with e2 e3
    subst e1 e2 e3
    exact RefIs.bad (by decide) (by first | exact HR.out.drewN _ | exact (HR.out.drewN _).drewN _) (by first | exact but_drewN (but_refl _ _) _ | exact but_drewN (but_drewN (but_refl _ _) _) _)
  · have h8 : at_ + 8 ≤ s.size := by omega
    go_enter Tryd.func67, Tryd.ntmps67
    go_wp2_with fail
    go_quiet (fail)
    go_wp2_with fail
    go_loopw [5, 6] (fun x i wr => ∃ j X : Nat, x = .int .u64 X ∧ i = .int .i64 j ∧ j ≤ 8 ∧ Hid (X = beV ((s.data.toList.drop at_).take j)) ∧ Hid (RAt wr g s at_) ∧ Hid (w.grownBy wr (some g))) (fun _ i _ => 8 - (intOf i).toNat)
    case atStart => exact ⟨0, 0, rfl, rfl, by omega, Lib.hid rfl, Lib.hid (HR.out.drewN _), Lib.hid (but_drewN (but_refl _ _) _)⟩
    case round =>
      obtain ⟨j, X, rfl, rfl, hj, HX, HRj, HB⟩ := hrel
      obtain ⟨q0, q1, q2⟩ := HRj.out
      by_cases hj8 : j < 8
      · obtain ⟨p, hp⟩ : ∃ p, at_ + j = p := ⟨_, rfl⟩
        have hpi : IntKind.i64.wrap ((at_ : Int) + (j : Int)) = (p : Int) := by rw [IntKind.wrap_i64]; omega
        have hps : p < s.size := by omega
        obtain ⟨b, hb⟩ : ∃ b, s[p] = b := ⟨_, rfl⟩
        have hb256 := b.toNat_lt
        have hX56 : X < 72057594037927936 := by rw [HX.out]; exact beV_take_lt _ j (by omega)
        have hsh : IntKind.u64.wrap ((X : Int) * 256) = (X : Int) * 256 := by rw [IntKind.wrap_u64]; omega
        have ho := or_u64b X b.toNat hX56 hb256
        obtain ⟨Z, hZ⟩ : ∃ Z, X * 256 + b.toNat = Z := ⟨_, rfl⟩
        rw [hZ] at ho
        have HZ : Hid (Z = beV ((s.data.toList.drop at_).take (j + 1))) := Lib.hid (by
          have hlt2 : j < (s.data.toList.drop at_).length := by rw [List.length_drop, ba_len]; omega
          have hgb : (s.data.toList.drop at_)[j] = b := by
            rw [List.getElem_drop, ← hb]
            simp only [hp]
            rfl
          rw [← List.take_append_getElem hlt2, beV_snoc, ← HX.out, hgb, hZ])
        have HP := Lib.hid hp
        clear hp hZ
        go_wp2_with fail
        go_quiet (fail)
        go_wp2_with fail
        go_roundw
        case rel => exact ⟨j + 1, Z, rfl, by go_num, by omega, HZ, Lib.hid (HRj.out.drewN _), Lib.hid (but_drewN HB.out _)⟩
        case measure => simp [intOf]; omega
      · obtain rfl : j = 8 := by omega
        have HE : Hid ((x, c, k) = (X, 0, 8)) := Lib.hid (by rw [← HN.out, wrdR, if_neg (by rw [List.length_drop, ba_len]; omega), HX.out])
        go_wp2_with fail
        go_ret3
        injection HE.out with e1 e2
        injection e2 with e2 e3
        subst e1 e2 e3
        exact RefIs.good (HRj.out.set (at_ + 8)) (but_set HB.out _ _)
set_option maxHeartbeats 2000000 in
set_option maxRecDepth 100000 in
theorem rText_any (each : Int) (M g : Nat) (t s : ByteArray) (at_ c k : Nat) (w : World) (hM : max each 0 = (M : Int)) (hM2 : M ≤ 9223372036854775807) (hN : txtR M (s.data.toList.drop at_) = (t.data.toList, c, k)) (hs : s.size ≤ 140737488355328) (ha : at_ ≤ s.size) (hr : RAt w g s at_) :
    Calls Tryd.prog 70 #[.pointer (some ⟨g, 0, none⟩), .int .i64 each] w (RefIs (.string t) c k g s at_ w) := by
  obtain ⟨x, c0, k0, hx⟩ : ∃ x c0 k0, numR M (s.data.toList.drop at_) = (x, c0, k0) := ⟨_, _, _, rfl⟩
  have hn0 := fun w hr => rUint_any M g s at_ x c0 k0 w hx (by omega) hs ha hr
  have hlen := numR_len M (s.data.toList.drop at_)
  rw [hx] at hlen
  unfold txtR at hN
  rw [hx] at hN
  rw [List.length_drop, ba_len] at hlen
  have HN := Lib.hid hn0
  have HT := Lib.hid hN
  have HM := Lib.hid hM
  have HR := Lib.hid hr
  have hk0 := hlen.1
  have HL := Lib.hid hlen
  obtain ⟨r0, r1, r2⟩ := hr
  clear hx hn0 hN hlen hM
  go_enter Tryd.func70, Tryd.ntmps70
  go_wp2_with fail
  refine (most_any each M _ HM.out hM2).mono ?_; rintro e w' ⟨rfl, rfl⟩
  go_wp2_with fail
  refine (HN.out _ HR.out).mono ?_; rintro e w1 ⟨rfl, hr1, hg1⟩
  have HR1 := Lib.hid hr1
  have HG1 := Lib.hid hg1
  clear hr1 hg1 r0 r1 r2
  by_cases h0 : c0 = 0
  · subst h0
    obtain ⟨q, hq⟩ : ∃ q, at_ + k0 = q := ⟨_, rfl⟩
    have hR1 := HR1.out
    rw [if_pos rfl, hq] at hR1
    have HRq := Lib.hid hR1
    clear HR1
    obtain ⟨r0, r1, r2⟩ := hR1
    have hqs : q ≤ s.size := by omega
    have hsub : IntKind.i64.wrap ((s.size : Int) - (q : Int)) = ((s.size - q : Nat) : Int) := by rw [IntKind.wrap_i64]; omega
    have hwx : IntKind.u64.wrap ((s.size : Int) - (q : Int)) = ((s.size - q : Nat) : Int) := by rw [IntKind.wrap_u64]; omega
    have HQ := Lib.hid hq
    by_cases h1 : s.size - q < x
    · have he : t = ⟨#[]⟩ ∧ c = 20 ∧ k = 0 := by
        have := HT.out
        rw [if_neg (by simp), if_pos (by simp only [List.length_drop, ba_len]; omega)] at this
        injection this with e1 e2
        injection e2 with e2 e3
        exact ⟨ba_inj _ _ e1.symm, e2.symm, e3.symm⟩
      obtain ⟨rfl, rfl, rfl⟩ := he
      clear hq
      go_wp2_with fail
      go_quiet (fail)
      go_wp2_with fail
      go_ret3
      exact RefIs.bad (by decide) ((HRq.out.drewN _).set at_) (but_set (but_drewN HG1.out _) _ _)
    · have hxs : q + x ≤ s.size := by omega
      have he : t = s.extract q (q + x) ∧ c = 0 ∧ k = k0 + x := by
        have := HT.out
        rw [if_neg (by simp), if_neg (by simp only [List.length_drop, ba_len]; omega)] at this
        injection this with e1 e2
        injection e2 with e2 e3
        refine ⟨ba_inj _ _ ?_, e2.symm, e3.symm⟩
        rw [← e1, Lib.extract_data]
        simp only [List.drop_drop]
        congr 1
        · omega
        · rw [← hq]
      obtain ⟨ht0, rfl, rfl⟩ := he
      have ht := ht0.symm
      clear ht0
      have HKX : Hid (q + x = at_ + (k0 + x)) := Lib.hid (by omega)
      have hsum : IntKind.i64.wrap ((q : Int) + (x : Int)) = ((q + x : Nat) : Int) := by rw [IntKind.wrap_i64]; omega
      clear hq
      go_wp2_with fail
      go_quiet (fail)
      go_wp2_with fail
      go_quiet (fail)
      go_wp2_with fail
      go_ret3
      have hF : ∀ W : World, RAt W g s q → w.grownBy W (some g) → RefIs (.string t) 0 (k0 + x) g s at_ w (.returned (.tuple #[.string (s.extract q (q + x)), .int .i64 0, .int .i64 0])) (W.setCell ⟨g, 1, none⟩ (.int .i64 ((q + x : Nat) : Int))) := fun W h1 h2 => by
        rw [ht]
        exact RefIs.good (by rw [← HKX.out]; exact h1.set (q + x)) (but_set h2 _ _)
      exact hF _ (HRq.out.drewN _) (but_drewN HG1.out _)
  · have he : t = ⟨#[]⟩ ∧ c = c0 ∧ k = 0 := by
      have := HT.out
      rw [if_pos h0] at this
      injection this with e1 e2
      injection e2 with e2 e3
      exact ⟨ba_inj _ _ e1.symm, e2.symm, e3.symm⟩
    obtain ⟨rfl, rfl, rfl⟩ := he
    have hc0 : ((c : Int) == 0) = false := beq_eq_false_iff_ne.2 (by omega)
    have hif : (if c = 0 then (0 : Int) else (at_ : Int)) = (at_ : Int) := if_neg h0
    have hR1 := HR1.out
    rw [if_neg h0] at hR1
    have HR1 := Lib.hid hR1
    clear hR1
    go_wp2_with fail
    go_ret3
    exact RefIs.bad h0 HR1.out HG1.out
end Go.Proofs.YtnfknbjdggkdpaaDoor
