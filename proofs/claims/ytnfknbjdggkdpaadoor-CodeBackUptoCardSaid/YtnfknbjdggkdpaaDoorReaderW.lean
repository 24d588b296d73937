/-
  code.Reader: a number. No statement is proved here.
-/
import Derived.Test.YtnfknbjdggkdpaaDoorCodePlain
import Derived.Test.YtnfknbjdggkdpaaDoorCodeUintW
import Derived.BigQuiet
import Derived.Lib.IndexBytes
namespace Go.Proofs.YtnfknbjdggkdpaaDoor
open Go.RowKit
/-- The reader at block g: its bytes and its place. -/
def RAt (w : World) (g : Nat) (s : ByteArray) (at_ : Nat) : Prop :=
  w.cell? ⟨g, 0, none⟩ = some (.string s) ∧ w.cell? ⟨g, 1, none⟩ = some (.int .i64 (at_ : Int)) ∧ w.frozen? ⟨g, 1, none⟩ = false
theorem RAt.lt {w : World} {g : Nat} {s : ByteArray} {at_ : Nat} (h : RAt w g s at_) : g < w.heap.size := World.block_lt_of_cell? w _ h.1
theorem RAt.drewN {w : World} {g : Nat} {s : ByteArray} {at_ : Nat} (h : RAt w g s at_) (n : Nat) : RAt (w.drewN n) g s at_ := by
  refine ⟨?_, ?_, ?_⟩
  · rw [World.cell?_drewN]; exact h.1
  · rw [World.cell?_drewN]; exact h.2.1
  · rw [World.frozen?_drewN]; exact h.2.2
theorem RAt.set {w : World} {g : Nat} {s : ByteArray} {at_ : Nat} (h : RAt w g s at_) (k : Nat) : RAt (w.setCell ⟨g, 1, none⟩ (.int .i64 (k : Int))) g s k := by
  refine ⟨?_, ?_, ?_⟩
  · rw [World.cell?_setCell_other _ _ _ _ (by intro e; injection e with _ e2; omega)]; exact h.1
  · rw [World.cell?_setCell_same _ _ _ h.2.1]
  · rw [World.frozen?_setCell]; exact h.2.2
theorem RAt.kept {w w' : World} {g b : Nat} {s : ByteArray} {at_ : Nat} (h : RAt w g s at_) (hg : w.grownBy w' (some b)) (hne : g ≠ b) : RAt w' g s at_ := by
  have hb := hg.block g h.lt (by simpa using hne)
  exact ⟨(World.cell?_of_block (a := ⟨g, 0, none⟩) hb).trans h.1, (World.cell?_of_block (a := ⟨g, 1, none⟩) hb).trans h.2.1, (World.frozen?_of_block (a := ⟨g, 1, none⟩) hb).trans h.2.2⟩
theorem RAt.below {w w' : World} {g : Nat} {s : ByteArray} {at_ : Nat} (h : RAt w g s at_) (hb : Below w.heap.size w w') : RAt w' g s at_ :=
  ⟨(hb.cell (p := ⟨g, 0, none⟩) h.lt).trans h.1, (hb.cell (p := ⟨g, 1, none⟩) h.lt).trans h.2.1, (hb.frozen (p := ⟨g, 1, none⟩) h.lt).trans h.2.2⟩
theorem but_refl (w : World) (r : Option Nat) : w.grownBy w r := ⟨rfl, rfl, rfl, Nat.le_refl _, fun _ _ _ => rfl⟩
theorem but_set {w w' : World} {g : Nat} (h : w.grownBy w' (some g)) (o : Nat) (u : Value) : w.grownBy (w'.setCell ⟨g, o, none⟩ u) (some g) :=
  ⟨h.os, h.tape, h.output, by simpa [World.setCell] using h.size, fun k hk hne => by
    rw [Below.heap_setCell _ _ _ _ (by simp only; intro e; exact hne (by rw [e]))]
    exact h.block k hk hne⟩
theorem but_drewN {w w' : World} {r : Option Nat} (h : w.grownBy w' r) (n : Nat) : w.grownBy (w'.drewN n) r := by
  have hb := below_drewN (Below.refl w'.heap.size w') n
  exact ⟨hb.os.trans h.os, hb.tape.trans h.tape, hb.output.trans h.output, Nat.le_trans h.size hb.size, fun k hk hne => (hb.block k (Nat.lt_of_lt_of_le hk h.size)).trans (h.block k hk hne)⟩
theorem num_step (k y X : Nat) (hX : X < 128 ^ k) (hy : y < 128) (h9 : k = 9 → y ≤ 1) (hk : k ≤ 9) : X + y * 128 ^ k < 128 ^ (k + 1) ∧ X + y * 128 ^ k < 18446744073709551616 := by
  have h1 : (y + 1) * 128 ^ k ≤ 128 * 128 ^ k := Nat.mul_le_mul_right _ hy
  have h3 : (128 : Nat) ^ (k + 1) = 128 * 128 ^ k := by rw [Nat.pow_succ, Nat.mul_comm]
  rw [Nat.add_mul, Nat.one_mul] at h1
  refine ⟨by omega, ?_⟩
  have h5 : (128 : Nat) ^ 9 = 9223372036854775808 := by decide
  by_cases hn9 : k = 9
  · subst hn9
    have h2 : y * 128 ^ 9 ≤ 1 * 128 ^ 9 := Nat.mul_le_mul_right _ (h9 rfl)
    omega
  · have h4 : (128 : Nat) ^ (k + 1) ≤ 128 ^ 9 := Nat.pow_le_pow_right (by decide) (by omega)
    omega
theorem or_shift (X k y : Nat) (hX : X < 128 ^ k) (h : X + y * 128 ^ k < 18446744073709551616) :
    bits .or .u64 (X : Int) (IntKind.u64.wrap ((y : Int) * 2 ^ (7 * k))) = ((X + y * 128 ^ k : Nat) : Int) := by
  have hp : (128 : Nat) ^ k = 2 ^ (7 * k) := by rw [Nat.pow_mul]
  rw [hp] at hX h ⊢
  have e : ((y : Int) * 2 ^ (7 * k)) = ((y * 2 ^ (7 * k) : Nat) : Int) := by
    rw [Int.natCast_mul, Int.natCast_pow]
    rfl
  have hw : IntKind.u64.wrap ((y * 2 ^ (7 * k) : Nat) : Int) = ((y * 2 ^ (7 * k) : Nat) : Int) := by rw [IntKind.wrap_u64]; omega
  rw [e, hw, u64_or_nat X _ (by omega) (by omega), Nat.or_comm, Nat.mul_comm y, ← Nat.two_pow_add_eq_or_of_lt hX, Nat.add_comm]
def NumIs (most : Nat) (g : Nat) (s : ByteArray) (at_ : Nat) (w : World) (e : Ending) (w' : World) : Prop :=
  ∃ k, at_ + k ≤ s.size ∧ e = .returned (.tuple #[.int .u64 (numR most (s.data.toList.drop at_)).1, .int .i64 (numR most (s.data.toList.drop at_)).2.1]) ∧
    ((numR most (s.data.toList.drop at_)).2.1 = 0 → k = (numR most (s.data.toList.drop at_)).2.2) ∧ RAt w' g s (at_ + k) ∧ w.grownBy w' (some g)
set_option maxRecDepth 100000 in
theorem u8_and127 (x : Nat) (h : x < 256) : bits .and .u8 (x : Int) 127 = ((x % 128 : Nat) : Int) := by
  have h1 : (BitVec.ofInt 8 (x : Int)).toNat = x := by
    rw [BitVec.ofInt_natCast, BitVec.toNat_ofNat]
    omega
  have h2 : (BitVec.ofInt 8 127).toNat = 127 := by decide
  show IntKind.u8.wrap ((BitVec.ofInt 8 (x : Int) &&& BitVec.ofInt 8 127).toNat : Int) = _
  rw [BitVec.toNat_and, h1, h2, IntKind.wrap_u8]
  have h3 : x &&& 127 = x % 128 := Nat.and_two_pow_sub_one_eq_mod x 7
  rw [h3]
  omega
set_option maxHeartbeats 4000000 in
set_option maxRecDepth 100000 in
theorem number_any (most g : Nat) (s : ByteArray) (at_ : Nat) (w : World) (_hm : most < 18446744073709551616) (hs : s.size ≤ 140737488355328) (ha : at_ ≤ s.size) (hr : RAt w g s at_) :
    Calls Tryd.prog 46 #[.pointer (some ⟨g, 0, none⟩), .int .u64 most] w (NumIs most g s at_ w) := by
  have HR0 := Lib.hid hr
  clear hr
  go_enter Tryd.func46, Tryd.ntmps46
  go_wp2_with fail
  go_loopw [4, 6] (fun x n wr => ∃ k X : Nat, k ≤ 10 ∧ at_ + k ≤ s.size ∧ x = .int .u64 X ∧ n = .int .i64 k ∧ X < 18446744073709551616 ∧ Hid (X < 128 ^ k) ∧ Hid (numG k X (s.data.toList.drop (at_ + k)) = numG 0 0 (s.data.toList.drop at_)) ∧ Hid (RAt wr g s (at_ + k)) ∧ Hid (w.grownBy wr (some g))) (fun _ n _ => 11 - (intOf n).toNat)
  case atStart => exact ⟨0, 0, by omega, by omega, rfl, rfl, by omega, Lib.hid (by decide), Lib.hid rfl, HR0, Lib.hid (but_refl _ _)⟩
  case round =>
    obtain ⟨k, X, hk, hks, rfl, rfl, hX, HX, HG, HR, HW⟩ := hrel
    obtain ⟨p, hp⟩ : ∃ p, at_ + k = p := ⟨_, rfl⟩
    rw [hp] at hks HG HR
    have HP := Lib.hid hp
    clear hp
    obtain ⟨h0, h1, h2⟩ := HR.out
    by_cases h10 : k = 10
    · subst h10
      have hg : numG 0 0 (s.data.toList.drop at_) = (0, 21, 10) := by
        rw [← HG.out]
        cases s.data.toList.drop p <;> simp [numG]
      have HN : Hid (numR most (s.data.toList.drop at_) = (0, 21, 10)) := Lib.hid (by simp [numR, hg])
      clear hg
      go_wp2_with fail
      go_ret2
      exact ⟨10, by rw [HP.out]; exact hks, by rw [HN.out]; rfl, by rw [HN.out]; simp, by rw [HP.out]; exact HR.out, HW.out⟩
    · by_cases hend : p = s.size
      · have hg : numG 0 0 (s.data.toList.drop at_) = (0, 20, k) := by
          rw [← HG.out, hend, List.drop_of_length_le (by rw [ba_len]; omega), numG, if_neg h10]
        have HN : Hid (numR most (s.data.toList.drop at_) = (0, 20, k)) := Lib.hid (by simp [numR, hg])
        clear hg
        go_wp2_with fail
        go_quiet (fail)
        go_wp2_with fail
        go_ret2
        exact ⟨k, by rw [HP.out]; exact hks, by rw [HN.out]; rfl, by rw [HN.out]; simp, by rw [HP.out]; exact HR.out.drewN _, but_drewN HW.out _⟩
      · have hlt : p < s.size := by omega
        have hne : ((p : Int) == (s.size : Int)) = false := beq_eq_false_iff_ne.2 (by omega)
        obtain ⟨b, hb⟩ : ∃ b, s[p] = b := ⟨_, rfl⟩
        have hdrop : s.data.toList.drop p = b :: s.data.toList.drop (p + 1) := by
          rw [List.drop_eq_getElem_cons (by rw [ba_len]; exact hlt)]
          congr 1
        rw [hdrop, numG, if_neg h10] at HG
        have hb256 := b.toNat_lt
        clear hdrop
        by_cases h9 : k = 9 ∧ 1 < b.toNat
        · rw [if_pos h9] at HG
          have HN : Hid (numR most (s.data.toList.drop at_) = (0, 21, k + 1)) := Lib.hid (by simp [numR, ← HG.out])
          obtain ⟨rfl, hb1⟩ := h9
          go_wp2_with fail
          go_quiet (fail)
          go_wp2_with fail
          go_quiet (fail)
          go_wp2_with fail
          go_ret2
          have hP := HP.out
          have hp10 : at_ + 10 = p + 1 := by omega
          exact ⟨10, by omega, by rw [HN.out]; rfl, by rw [HN.out]; simp, by rw [hp10]; exact (HR.out.drewN _).set (p + 1), but_set (but_drewN HW.out _) _ _⟩
        · rw [if_neg h9] at HG
          have hk9 : k ≤ 9 := by omega
          obtain ⟨y, hy⟩ : ∃ y, y = b.toNat % 128 := ⟨_, rfl⟩
          have hy1 : y < 128 := by omega
          have hand : bits .and .u8 (b.toNat : Int) 127 = (y : Int) := by rw [u8_and127 _ hb256, hy]
          have hk9b : k = 9 → b.toNat ≤ 1 := by intro e; have : ¬ 1 < b.toNat := fun h => h9 ⟨e, h⟩; omega
          have hst := num_step k y X HX.out hy1 (by intro e; have := hk9b e; omega) hk9
          have ho := or_shift X k y HX.out hst.2
          obtain ⟨Z, hZ⟩ : ∃ Z, X + y * 128 ^ k = Z := ⟨_, rfl⟩
          rw [hZ] at hst ho
          have hz1 := hst.2
          have HZ1 := Lib.hid hst.1
          have HZ := Lib.hid hZ
          have HY := Lib.hid hy
          clear hst h9 hZ hy
          go_wp2_with fail
          go_quiet (fail)
          go_wp2_with fail
          go_quiet (fail)
          go_upto_region 9 with fail
          go_cut [45] from 40 to 44 (fun c wc => c = .bool false ∧ Hid (RAt wc g s (p + 1)) ∧ Hid (w.grownBy wc (some g)))
          case first =>
            by_cases e9 : k = 9
            · have hb1 := hk9b e9
              subst e9
              go_wp2_with fail
              go_meet
              exact ⟨congrArg Value.bool (decide_eq_false (by omega)), Lib.hid ((HR.out.drewN _).set (p + 1)), Lib.hid (but_set (but_drewN HW.out _) _ _)⟩
            · have hk8 : ((k : Int) == 9) = false := beq_eq_false_iff_ne.2 (by omega)
              go_wp2_with fail
              go_meet
              exact ⟨rfl, Lib.hid ((HR.out.drewN _).set (p + 1)), Lib.hid (but_set (but_drewN HW.out _) _ _)⟩
          case rest =>
            obtain ⟨rfl, HRc, HWc⟩ := hcut
            have hP := HP.out
            have hp1 : at_ + (k + 1) = p + 1 := by omega
            have hat : at_ + (k + 1) ≤ s.size := by omega
            have HP1 := Lib.hid hp1
            rw [← hp1] at HRc HG
            clear hP hp1 HR h0 h1 h2
            by_cases h128 : 128 ≤ b.toNat
            · rw [if_pos h128, show b.toNat - 128 = y by have := HY.out; omega, HZ.out] at HG
              go_wp2_with fail
              go_roundw
              case rel => exact ⟨k + 1, Z, by omega, hat, rfl, by go_num, hz1, HZ1, HG, HRc, HWc⟩
              case measure => simp [intOf]; omega
            · rw [if_neg h128] at HG
              by_cases hz : b.toNat = 0 ∧ 0 < k
              · rw [if_pos hz] at HG
                have HN : Hid (numR most (s.data.toList.drop at_) = (0, 21, k + 1)) := Lib.hid (by simp [numR, ← HG.out])
                obtain ⟨hb0, hk0⟩ := hz
                go_wp2_with fail
                go_ret2
                exact ⟨k + 1, hat, by rw [HN.out]; rfl, by rw [HN.out]; simp, HRc.out, HWc.out⟩
              · rw [if_neg hz, show b.toNat = y by have := HY.out; omega, HZ.out] at HG
                have hzd : b.toNat = 0 → k = 0 := by omega
                by_cases hmost : most < Z
                · have HN : Hid (numR most (s.data.toList.drop at_) = (0, 22, k + 1)) := Lib.hid (by simp [numR, ← HG.out, hmost])
                  clear hz
                  go_wp2_with fail
                  all_goals (go_ret2; exact ⟨k + 1, hat, by rw [HN.out]; rfl, by rw [HN.out]; simp, HRc.out, HWc.out⟩)
                · have HN : Hid (numR most (s.data.toList.drop at_) = (Z, 0, k + 1)) := Lib.hid (by simp [numR, ← HG.out, hmost])
                  clear hz
                  go_wp2_with fail
                  all_goals (go_ret2; exact ⟨k + 1, hat, by rw [HN.out]; rfl, by rw [HN.out]; simp, HRc.out, HWc.out⟩)
end Go.Proofs.YtnfknbjdggkdpaaDoor
