/-
  The reference's reader: a number. No statement is proved here.
-/
import Derived.Test.YtnfknbjdggkdpaaDoorReaderW
namespace Go.Proofs.YtnfknbjdggkdpaaDoor
open Go.RowKit
/-- What a call of the reference's reader answers. -/
def RefIs (x : Value) (c k g : Nat) (s : ByteArray) (at_ : Nat) (w : World) (e : Ending) (w' : World) : Prop :=
  e = .returned (.tuple #[x, .int .i64 c, .int .i64 (if c = 0 then 0 else (at_ : Int))]) ∧ RAt w' g s (if c = 0 then at_ + k else at_) ∧ w.grownBy w' (some g)
theorem RefIs.bad {x : Value} {c k g : Nat} {s : ByteArray} {at_ : Nat} {w w' : World} (h : c ≠ 0) (h1 : RAt w' g s at_) (h2 : w.grownBy w' (some g)) : RefIs x c k g s at_ w (.returned (.tuple #[x, .int .i64 c, .int .i64 at_])) w' := by
  refine ⟨?_, ?_, h2⟩
  · rw [if_neg h]
  · rw [if_neg h]; exact h1
theorem RefIs.good {x : Value} {k g : Nat} {s : ByteArray} {at_ : Nat} {w w' : World} (h1 : RAt w' g s (at_ + k)) (h2 : w.grownBy w' (some g)) : RefIs x 0 k g s at_ w (.returned (.tuple #[x, .int .i64 0, .int .i64 0])) w' := ⟨rfl, h1, h2⟩
set_option maxHeartbeats 4000000 in
set_option maxRecDepth 100000 in
theorem rUint_any (most g : Nat) (s : ByteArray) (at_ x c k0 : Nat) (w : World) (hN : numR most (s.data.toList.drop at_) = (x, c, k0)) (_hm : most < 18446744073709551616) (hs : s.size ≤ 140737488355328) (ha : at_ ≤ s.size) (hr : RAt w g s at_) :
    Calls Tryd.prog 66 #[.pointer (some ⟨g, 0, none⟩), .int .u64 most] w (RefIs (.int .u64 x) c k0 g s at_ w) := by
  have HR0 := Lib.hid hr
  have HN := Lib.hid hN
  clear hr hN
  go_enter Tryd.func66, Tryd.ntmps66
  go_wp2_with fail
  go_loopw [7, 8] (fun x n wr => ∃ k X : Nat, k ≤ 10 ∧ at_ + k ≤ s.size ∧ x = .int .u64 X ∧ n = .int .i64 k ∧ X < 18446744073709551616 ∧ Hid (X < 128 ^ k) ∧ Hid (numG k X (s.data.toList.drop (at_ + k)) = numG 0 0 (s.data.toList.drop at_)) ∧ Hid (RAt wr g s at_) ∧ Hid (w.grownBy wr (some g))) (fun _ n _ => 11 - (intOf n).toNat)
  case atStart => exact ⟨0, 0, by omega, by omega, rfl, rfl, by omega, Lib.hid (by decide), Lib.hid rfl, HR0, Lib.hid (but_refl _ _)⟩
  case round =>
    obtain ⟨k, X, hk, hks, rfl, rfl, hX, HX, HG, HR, HW⟩ := hrel
    obtain ⟨p, hp⟩ : ∃ p, at_ + k = p := ⟨_, rfl⟩
    have hpi : IntKind.i64.wrap ((at_ : Int) + (k : Int)) = (p : Int) := by rw [IntKind.wrap_i64]; omega
    rw [hp] at hks HG
    have HP := Lib.hid hp
    clear hp
    obtain ⟨h0, h1, h2⟩ := HR.out
    by_cases h10 : k = 10
    · subst h10
      have hg : numG 0 0 (s.data.toList.drop at_) = (0, 21, 10) := by
        rw [← HG.out]
        cases s.data.toList.drop p <;> simp [numG]
      have HE : Hid ((x, c, k0) = (0, 21, 10)) := Lib.hid (by rw [← HN.out]; simp [numR, hg])
      clear hg
      go_wp2_with fail
      go_quiet (fail)
      go_wp2_with fail
      go_ret3
      injection HE.out with e1 e2
      injection e2 with e2 e3
      subst e1 e2 e3
      exact RefIs.bad (by decide) (HR.out.drewN _) (but_drewN HW.out _)
    · by_cases hend : p = s.size
      · have hg : numG 0 0 (s.data.toList.drop at_) = (0, 20, k) := by
          rw [← HG.out, hend, List.drop_of_length_le (by rw [ba_len]; omega), numG, if_neg h10]
        have HE : Hid ((x, c, k0) = (0, 20, k)) := Lib.hid (by rw [← HN.out]; simp [numR, hg])
        have hge : (s.size : Int) ≤ (p : Int) := by omega
        clear hg
        go_wp2_with fail
        go_quiet (fail)
        go_wp2_with fail
        go_quiet (fail)
        go_wp2_with fail
        go_ret3
        injection HE.out with e1 e2
        injection e2 with e2 e3
        subst e1 e2 e3
        exact RefIs.bad (by decide) ((HR.out.drewN _).drewN _) (but_drewN (but_drewN HW.out _) _)
      · have hlt : p < s.size := by omega
        obtain ⟨b, hb⟩ : ∃ b, s[p] = b := ⟨_, rfl⟩
        have hdrop : s.data.toList.drop p = b :: s.data.toList.drop (p + 1) := by
          rw [List.drop_eq_getElem_cons (by rw [ba_len]; exact hlt)]
          congr 1
        rw [hdrop, numG, if_neg h10] at HG
        have hb256 := b.toNat_lt
        clear hdrop
        by_cases h9 : k = 9 ∧ 1 < b.toNat
        · rw [if_pos h9] at HG
          have HE : Hid ((x, c, k0) = (0, 21, k + 1)) := Lib.hid (by rw [← HN.out]; simp [numR, ← HG.out])
          obtain ⟨rfl, hb1⟩ := h9
          have hpi9 : IntKind.i64.wrap ((at_ : Int) + 9) = (p : Int) := hpi
          have hld : decide (s.size ≤ p) = false := decide_eq_false (by omega)
          go_wp2_with fail
          go_quiet (fail)
          go_wp2_with fail
          go_quiet (fail)
          go_wp2_with fail
          go_quiet (fail)
          go_wp2_with fail
          go_ret3
          injection HE.out with e1 e2
          injection e2 with e2 e3
          subst e1 e2 e3
          exact RefIs.bad (by decide) ((HR.out.drewN _).drewN _) (but_drewN (but_drewN HW.out _) _)
        · rw [if_neg h9] at HG
          have hk9 : k ≤ 9 := by omega
          obtain ⟨y, hy⟩ : ∃ y, y = b.toNat % 128 := ⟨_, rfl⟩
          have hy1 : y < 128 := by omega
          have hand : bits .and .u8 (b.toNat : Int) 127 = (y : Int) := by rw [u8_and127 _ hb256, hy]
          have hk9b : k = 9 → b.toNat ≤ 1 := by intro e; have : ¬ 1 < b.toNat := fun h => h9 ⟨e, h⟩; omega
          have hst := num_step k y X HX.out hy1 (by intro e; have := hk9b e; omega) hk9
          have ho := or_shift X k y HX.out hst.2
          obtain ⟨Z, hZ⟩ : ∃ Z, X + y * 128 ^ k = Z := ⟨_, rfl⟩
          rw [hZ] at hst ho
          have hz1 := hst.2
          have HZ1 := Lib.hid hst.1
          have HZ := Lib.hid hZ
          have HY := Lib.hid hy
          have hld : decide (s.size ≤ p) = false := decide_eq_false (by omega)
          clear hst h9 hZ hy
          go_wp2_with fail
          go_quiet (fail)
          go_wp2_with fail
          go_quiet (fail)
          go_upto_region 8 with fail
          go_cut [48] from 43 to 47 (fun c wc => c = .bool false ∧ Hid (RAt wc g s at_) ∧ Hid (w.grownBy wc (some g)))
          case first =>
            by_cases e9 : k = 9
            · have hb1 := hk9b e9
              subst e9
              go_wp2_with fail
              go_meet
              exact ⟨congrArg Value.bool (decide_eq_false (by omega)), Lib.hid (HR.out.drewN _), Lib.hid (but_drewN HW.out _)⟩
            · have hk8 : ((k : Int) == 9) = false := beq_eq_false_iff_ne.2 (by omega)
              go_wp2_with fail
              go_meet
              exact ⟨rfl, Lib.hid (HR.out.drewN _), Lib.hid (but_drewN HW.out _)⟩
          case rest =>
            obtain ⟨rfl, HRc, HWc⟩ := hcut
            have hP := HP.out
            have hp1 : at_ + (k + 1) = p + 1 := by omega
            have hat : at_ + (k + 1) ≤ s.size := by omega
            rw [← hp1] at HG
            clear hP hp1 HR h0 h1 h2 hpi
            obtain ⟨h0, h1, h2⟩ := HRc.out
            by_cases h128 : 128 ≤ b.toNat
            · rw [if_pos h128, show b.toNat - 128 = y by have := HY.out; omega, HZ.out] at HG
              go_wp2_with fail
              go_roundw
              case rel => exact ⟨k + 1, Z, by omega, hat, rfl, by go_num, hz1, HZ1, HG, HRc, HWc⟩
              case measure => simp [intOf]; omega
            · rw [if_neg h128] at HG
              by_cases hz : b.toNat = 0 ∧ 0 < k
              · rw [if_pos hz] at HG
                have HE : Hid ((x, c, k0) = (0, 21, k + 1)) := Lib.hid (by rw [← HN.out]; simp [numR, ← HG.out])
                obtain ⟨hb0, hk0⟩ := hz
                go_wp2_with fail
                go_quiet (fail)
                go_wp2_with fail
                go_ret3
                injection HE.out with e1 e2
                injection e2 with e2 e3
                subst e1 e2 e3
                exact RefIs.bad (by decide) (HRc.out.drewN _) (but_drewN HWc.out _)
              · rw [if_neg hz, show b.toNat = y by have := HY.out; omega, HZ.out] at HG
                have hzd : b.toNat = 0 → k = 0 := by omega
                have hpk : IntKind.i64.wrap ((at_ : Int) + ((k + 1 : Nat) : Int)) = ((at_ + (k + 1) : Nat) : Int) := by rw [IntKind.wrap_i64]; omega
                by_cases hmost : most < Z
                · have HE : Hid ((x, c, k0) = (0, 22, k + 1)) := Lib.hid (by rw [← HN.out]; simp [numR, ← HG.out, hmost])
                  clear hz
                  go_wp2_with fail
                  all_goals
                    go_quiet (fail)
                    go_wp2_with fail
                    go_ret3
                    injection HE.out with e1 e2
                    injection e2 with e2 e3
                    subst e1 e2 e3
                    exact RefIs.bad (by decide) (HRc.out.drewN _) (but_drewN HWc.out _)
                · have HE : Hid ((x, c, k0) = (Z, 0, k + 1)) := Lib.hid (by rw [← HN.out]; simp [numR, ← HG.out, hmost])
                  clear hz
                  go_wp2_with fail
                  all_goals
                    go_ret3
                    injection HE.out with e1 e2
                    injection e2 with e2 e3
                    subst e1 e2 e3
                    first
                    | exact RefIs.good (HRc.out.set (at_ + (k + 1))) (but_set HWc.out _ _)
                    | (obtain rfl : k = 0 := by omega
                       exact RefIs.good (HRc.out.set (at_ + 1)) (but_set HWc.out _ _))
end Go.Proofs.YtnfknbjdggkdpaaDoor
