/-
  internal/strconv.formatBase10 at any number and any row: it returns; its row holds bytes as before; all else is as it was. No statement is proved here.
-/
import Derived.Test.YtnfknbjdggkdpaaDoorKit
import Derived.Lib.ItoaWalk
import Derived.BigCall
import Derived.BigGuard
namespace Go.Proofs.YtnfknbjdggkdpaaDoor
open Go.RowKit Go.Lib
/-- W is w but for block blk, whose places off .. off + n - 1 hold bytes that may be written. -/
def Row8 (w W : World) (blk off n : Nat) : Prop :=
  w.grownBy W (some blk) ∧ ∃ G : Nat → UInt8, ∀ t, t < n → W.cell? ⟨blk, off + t, none⟩ = some (.int .u8 ((G t).toNat : Int)) ∧ W.frozen? ⟨blk, off + t, none⟩ = false
theorem Row8.drew {w W : World} {blk off n : Nat} (h : Row8 w W blk off n) : Row8 w W.drew blk off n :=
  ⟨⟨h.1.os, h.1.tape, h.1.output, h.1.size, h.1.block⟩, h.2⟩
theorem Row8.set {w W : World} {blk off n : Nat} (h : Row8 w W blk off n) (i : Nat) (c : UInt8) : Row8 w (W.setCell ⟨blk, off + i, none⟩ (.int .u8 (c.toNat : Int))) blk off n := by
  obtain ⟨hg, G, hG⟩ := h
  refine ⟨⟨hg.os, hg.tape, hg.output, by simpa [World.setCell] using hg.size, fun k hk hne => ?_⟩, fun t => if t = i then c else G t, fun t ht => ?_⟩
  · rw [Below.heap_setCell _ _ _ _ (by simp only; intro e; exact hne (by rw [e]))]
    exact hg.block k hk hne
  · obtain ⟨h1, h2⟩ := hG t ht
    refine ⟨?_, by rw [World.frozen?_setCell]; exact h2⟩
    by_cases e : t = i
    · subst e
      rw [World.cell?_setCell_same _ _ _ h1]; simp only [if_pos]
    · rw [World.cell?_setCell_other _ _ _ _ (by intro e'; injection e' with _ e2; omega), h1]; simp only [if_neg e]
theorem Row8.setI {w W : World} {blk off n : Nat} (h : Row8 w W blk off n) (i : Nat) (z : Int) (h0 : 0 ≤ z) (h1 : z < 256) : Row8 w (W.setCell ⟨blk, off + i, none⟩ (.int .u8 z)) blk off n := by
  have := h.set i (UInt8.ofNat z.toNat)
  have e : ((UInt8.ofNat z.toNat).toNat : Int) = z := by rw [UInt8.toNat_ofNat']; omega
  rw [e] at this
  exact this
theorem Row8.set0 {w W : World} {blk off n : Nat} (h : Row8 w W blk off n) (z : Int) (h0 : 0 ≤ z) (h1 : z < 256) : Row8 w (W.setCell ⟨blk, off, none⟩ (.int .u8 z)) blk off n := h.setI 0 z h0 h1
/-- What the walk is told of the row. -/
theorem Row8.cells {w W : World} {blk off n : Nat} (h : Row8 w W blk off n) : ∃ G : Nat → Int, (∀ t, t < n → W.cell? ⟨blk, off + t, none⟩ = some (.int .u8 (G t))) ∧ (∀ t, t < n → W.frozen? ⟨blk, off + t, none⟩ = false) := by
  obtain ⟨_, G, hG⟩ := h
  exact ⟨fun t => ((G t).toNat : Int), fun t ht => (hG t ht).1, fun t ht => (hG t ht).2⟩
theorem idx_any (t : TypeId) (ht : Tryd.prog.underlying t = some .string) (z : Int) (h0 : 0 ≤ z) (h1 : z < 200) : ∃ c : UInt8, ∀ w, (Instr.index t (.string Lib.smalls) (.int .u32 z)).run Tryd.prog w = .ok (.int .u8 (c.toNat : Int)) w := by
  obtain ⟨i, rfl⟩ := Int.eq_ofNat_of_zero_le h0
  exact ⟨sm i, fun w => idx_smalls t ht .u32 _ i rfl (by omega) w⟩

set_option maxHeartbeats 12800000 in
set_option maxRecDepth 100000 in
theorem formatBase10_any (blk off cap n : Nat) (u : Nat) (w : World) (hn : n ≤ 24) (hu : u < 18446744073709551616) (hr : Row8 w w blk off n) :
    Calls Tryd.prog 94 #[.slice (some ⟨blk, off, none⟩) n cap, .int .u64 u] w fun e w' => e = .returned (.tuple #[]) ∧ Row8 w w' blk off n := by
  have HU := Lib.hid hu
  have HR := Lib.hid hr
  clear hu hr
  go_enter Tryd.func94, Tryd.ntmps94
  go_name_bytes SM hSM
  have eSM : SM = Lib.smalls := by rw [← hSM]; decide +kernel
  subst eSM
  clear hSM
  go_wp2
  go_loopw [1, 4] (fun vu vn wr => ∃ (nd v : Nat), vu = .int .u64 v ∧ vn = .int .i64 nd ∧ nd ≤ n ∧ Hid (v < 18446744073709551616) ∧ Hid (Row8 w wr blk off n)) (fun _ vn _ => (RowKit.intOf vn).toNat)
  case atStart => exact ⟨n, u, rfl, rfl, Nat.le_refl _, HU, HR⟩
  case round =>
    obtain ⟨nd, v, rfl, rfl, hnd, HV, HR0⟩ := hrel
    rename World => W0
    obtain ⟨G0, hc0, hf0⟩ := HR0.out.cells
    have hv := HV.out
    by_cases h8 : 8 ≤ nd
    · obtain ⟨m, rfl⟩ : ∃ m, nd = m + 8 := ⟨nd - 8, by omega⟩
      go_wp2
      go_name_slot 9 x0 hx0
      have hlo0 : 0 ≤ x0 := by omega
      have hhi0 : x0 ≤ 198 := by omega
      obtain ⟨ca0, hXa0⟩ := idx_any 9 Tryd.underlying9 (x0 + 1) (by omega) (by omega)
      obtain ⟨cb0, hXb0⟩ := idx_any 9 Tryd.underlying9 x0 (by omega) (by omega)
      have hA0 := hc0 (m + 7) (by omega)
      have hB0 : W0.cell? ⟨blk, off + (m + 6), none⟩ = some (.int .u8 (G0 (m + 6))) := hc0 (m + 6) (by omega)
      have fA0 := hf0 (m + 7) (by omega)
      have fB0 : W0.frozen? ⟨blk, off + (m + 6), none⟩ = false := hf0 (m + 6) (by omega)
      clear hx0 hc0 hf0
      go_region
      go_wp2
      go_name_world W1 hW1
      have HR1 : Hid (Row8 w W1 blk off n) := Lib.hid (by rw [← hW1]; exact (((HR0.out.set (m + 7) ca0).set (m + 6) cb0).drew))
      clear hW1 hA0 hB0 fA0 fB0 HR0 hXa0 hXb0
      obtain ⟨G1, hc1, hf1⟩ := HR1.out.cells
      go_name_slot 8 x1 hx1
      have hlo1 : 0 ≤ x1 := by omega
      have hhi1 : x1 ≤ 198 := by omega
      obtain ⟨ca1, hXa1⟩ := idx_any 9 Tryd.underlying9 (x1 + 1) (by omega) (by omega)
      obtain ⟨cb1, hXb1⟩ := idx_any 9 Tryd.underlying9 x1 (by omega) (by omega)
      have hA1 := hc1 (m + 5) (by omega)
      have hB1 : W1.cell? ⟨blk, off + (m + 4), none⟩ = some (.int .u8 (G1 (m + 4))) := hc1 (m + 4) (by omega)
      have fA1 := hf1 (m + 5) (by omega)
      have fB1 : W1.frozen? ⟨blk, off + (m + 4), none⟩ = false := hf1 (m + 4) (by omega)
      clear hx1 hc1 hf1
      go_region
      go_wp2
      go_name_world W2 hW2
      have HR2 : Hid (Row8 w W2 blk off n) := Lib.hid (by rw [← hW2]; exact (((HR1.out.set (m + 5) ca1).set (m + 4) cb1).drew))
      clear hW2 hA1 hB1 fA1 fB1 HR1 hXa1 hXb1
      obtain ⟨G2, hc2, hf2⟩ := HR2.out.cells
      go_name_slot 11 x2 hx2
      have hlo2 : 0 ≤ x2 := by omega
      have hhi2 : x2 ≤ 198 := by omega
      obtain ⟨ca2, hXa2⟩ := idx_any 9 Tryd.underlying9 (x2 + 1) (by omega) (by omega)
      obtain ⟨cb2, hXb2⟩ := idx_any 9 Tryd.underlying9 x2 (by omega) (by omega)
      have hA2 := hc2 (m + 3) (by omega)
      have hB2 : W2.cell? ⟨blk, off + (m + 2), none⟩ = some (.int .u8 (G2 (m + 2))) := hc2 (m + 2) (by omega)
      have fA2 := hf2 (m + 3) (by omega)
      have fB2 : W2.frozen? ⟨blk, off + (m + 2), none⟩ = false := hf2 (m + 2) (by omega)
      clear hx2 hc2 hf2
      go_region
      go_wp2
      go_name_world W3 hW3
      have HR3 : Hid (Row8 w W3 blk off n) := Lib.hid (by rw [← hW3]; exact (((HR2.out.set (m + 3) ca2).set (m + 2) cb2).drew))
      clear hW3 hA2 hB2 fA2 fB2 HR2 hXa2 hXb2
      obtain ⟨G3, hc3, hf3⟩ := HR3.out.cells
      go_name_slot 10 x3 hx3
      have hlo3 : 0 ≤ x3 := by omega
      have hhi3 : x3 ≤ 198 := by omega
      obtain ⟨ca3, hXa3⟩ := idx_any 9 Tryd.underlying9 (x3 + 1) (by omega) (by omega)
      obtain ⟨cb3, hXb3⟩ := idx_any 9 Tryd.underlying9 x3 (by omega) (by omega)
      have hA3 := hc3 (m + 1) (by omega)
      have hB3 : W3.cell? ⟨blk, off + (m), none⟩ = some (.int .u8 (G3 (m))) := hc3 (m) (by omega)
      have fA3 := hf3 (m + 1) (by omega)
      have fB3 : W3.frozen? ⟨blk, off + (m), none⟩ = false := hf3 (m) (by omega)
      clear hx3 hc3 hf3
      go_region
      go_wp2
      go_roundw
      case rel => exact ⟨m, v / 100000000, by first | go_num | (congr 1; omega), by first | go_num | (congr 1; omega), by omega, Lib.hid (by omega), Lib.hid (((HR3.out.set (m + 1) ca3).set m cb3).drew)⟩
      case measure => simp [RowKit.intOf]; omega
    · have hc8 : nd = 0 ∨ nd = 1 ∨ nd = 2 ∨ nd = 3 ∨ nd = 4 ∨ nd = 5 ∨ nd = 6 ∨ nd = 7 := by omega
      rcases hc8 with rfl | rfl | rfl | rfl | rfl | rfl | rfl | rfl
      · go_wp2
        go_end0
        exact ⟨rfl, HR0.out⟩
      · have hZ : W0.cell? ⟨blk, off, none⟩ = some (.int .u8 (G0 0)) := hc0 0 (by omega)
        have fZ : W0.frozen? ⟨blk, off, none⟩ = false := hf0 0 (by omega)
        go_wp2
        go_end0
        exact ⟨rfl, HR0.out.set0 _ (by omega) (by omega)⟩
      · -- nd = 2
        go_wp2
        go_name_slot 16 x0 hx0
        have hlo0 : 0 ≤ x0 := by omega
        have hhi0 : x0 ≤ 198 := by omega
        obtain ⟨ca0, hXa0⟩ := idx_any 9 Tryd.underlying9 (x0 + 1) (by omega) (by omega)
        obtain ⟨cb0, hXb0⟩ := idx_any 9 Tryd.underlying9 x0 (by omega) (by omega)
        have hA0 := hc0 (1) (by omega)
        have hB0 : W0.cell? ⟨blk, off, none⟩ = some (.int .u8 (G0 (0))) := hc0 (0) (by omega)
        have fA0 := hf0 (1) (by omega)
        have fB0 : W0.frozen? ⟨blk, off, none⟩ = false := hf0 (0) (by omega)
        clear hx0 hc0 hf0
        go_region
        go_wp2
        go_end0
        exact ⟨rfl, ((HR0.out.set (1) ca0).set (0) cb0).drew⟩
      · -- nd = 3
        go_wp2
        have hZ : W0.cell? ⟨blk, off, none⟩ = some (.int .u8 (G0 0)) := hc0 0 (by omega)
        have fZ : W0.frozen? ⟨blk, off, none⟩ = false := hf0 0 (by omega)
        go_name_slot 16 x0 hx0
        have hlo0 : 0 ≤ x0 := by omega
        have hhi0 : x0 ≤ 198 := by omega
        obtain ⟨ca0, hXa0⟩ := idx_any 9 Tryd.underlying9 (x0 + 1) (by omega) (by omega)
        obtain ⟨cb0, hXb0⟩ := idx_any 9 Tryd.underlying9 x0 (by omega) (by omega)
        have hA0 := hc0 (2) (by omega)
        have hB0 : W0.cell? ⟨blk, off + (1), none⟩ = some (.int .u8 (G0 (1))) := hc0 (1) (by omega)
        have fA0 := hf0 (2) (by omega)
        have fB0 : W0.frozen? ⟨blk, off + (1), none⟩ = false := hf0 (1) (by omega)
        clear hx0 hc0 hf0
        go_region
        go_wp2
        go_end0
        exact ⟨rfl, (((HR0.out.set (2) ca0).set (1) cb0).drew).set0 _ (by omega) (by omega)⟩
      · -- nd = 4
        go_wp2
        go_name_slot 15 x0 hx0
        have hlo0 : 0 ≤ x0 := by omega
        have hhi0 : x0 ≤ 198 := by omega
        obtain ⟨ca0, hXa0⟩ := idx_any 9 Tryd.underlying9 (x0 + 1) (by omega) (by omega)
        obtain ⟨cb0, hXb0⟩ := idx_any 9 Tryd.underlying9 x0 (by omega) (by omega)
        have hA0 := hc0 (3) (by omega)
        have hB0 : W0.cell? ⟨blk, off + (2), none⟩ = some (.int .u8 (G0 (2))) := hc0 (2) (by omega)
        have fA0 := hf0 (3) (by omega)
        have fB0 : W0.frozen? ⟨blk, off + (2), none⟩ = false := hf0 (2) (by omega)
        clear hx0 hc0 hf0
        go_region
        go_wp2
        go_name_world W1 hW1
        have HR1 : Hid (Row8 w W1 blk off n) := Lib.hid (by rw [← hW1]; exact (((HR0.out.set (3) ca0).set (2) cb0).drew))
        clear hW1 hA0 hB0 fA0 fB0 HR0 hXa0 hXb0
        obtain ⟨G1, hc1, hf1⟩ := HR1.out.cells
        go_name_slot 14 x1 hx1
        have hlo1 : 0 ≤ x1 := by omega
        have hhi1 : x1 ≤ 198 := by omega
        obtain ⟨ca1, hXa1⟩ := idx_any 9 Tryd.underlying9 (x1 + 1) (by omega) (by omega)
        obtain ⟨cb1, hXb1⟩ := idx_any 9 Tryd.underlying9 x1 (by omega) (by omega)
        have hA1 := hc1 (1) (by omega)
        have hB1 : W1.cell? ⟨blk, off, none⟩ = some (.int .u8 (G1 (0))) := hc1 (0) (by omega)
        have fA1 := hf1 (1) (by omega)
        have fB1 : W1.frozen? ⟨blk, off, none⟩ = false := hf1 (0) (by omega)
        clear hx1 hc1 hf1
        go_region
        go_wp2
        go_end0
        exact ⟨rfl, ((HR1.out.set (1) ca1).set (0) cb1).drew⟩
      · -- nd = 5
        go_wp2
        go_name_slot 15 x0 hx0
        have hlo0 : 0 ≤ x0 := by omega
        have hhi0 : x0 ≤ 198 := by omega
        obtain ⟨ca0, hXa0⟩ := idx_any 9 Tryd.underlying9 (x0 + 1) (by omega) (by omega)
        obtain ⟨cb0, hXb0⟩ := idx_any 9 Tryd.underlying9 x0 (by omega) (by omega)
        have hA0 := hc0 (4) (by omega)
        have hB0 : W0.cell? ⟨blk, off + (3), none⟩ = some (.int .u8 (G0 (3))) := hc0 (3) (by omega)
        have fA0 := hf0 (4) (by omega)
        have fB0 : W0.frozen? ⟨blk, off + (3), none⟩ = false := hf0 (3) (by omega)
        clear hx0 hc0 hf0
        go_region
        go_wp2
        go_name_world W1 hW1
        have HR1 : Hid (Row8 w W1 blk off n) := Lib.hid (by rw [← hW1]; exact (((HR0.out.set (4) ca0).set (3) cb0).drew))
        clear hW1 hA0 hB0 fA0 fB0 HR0 hXa0 hXb0
        obtain ⟨G1, hc1, hf1⟩ := HR1.out.cells
        have hZ : W1.cell? ⟨blk, off, none⟩ = some (.int .u8 (G1 0)) := hc1 0 (by omega)
        have fZ : W1.frozen? ⟨blk, off, none⟩ = false := hf1 0 (by omega)
        go_name_slot 14 x1 hx1
        have hlo1 : 0 ≤ x1 := by omega
        have hhi1 : x1 ≤ 198 := by omega
        obtain ⟨ca1, hXa1⟩ := idx_any 9 Tryd.underlying9 (x1 + 1) (by omega) (by omega)
        obtain ⟨cb1, hXb1⟩ := idx_any 9 Tryd.underlying9 x1 (by omega) (by omega)
        have hA1 := hc1 (2) (by omega)
        have hB1 : W1.cell? ⟨blk, off + (1), none⟩ = some (.int .u8 (G1 (1))) := hc1 (1) (by omega)
        have fA1 := hf1 (2) (by omega)
        have fB1 : W1.frozen? ⟨blk, off + (1), none⟩ = false := hf1 (1) (by omega)
        clear hx1 hc1 hf1
        go_region
        go_wp2
        go_end0
        exact ⟨rfl, (((HR1.out.set (2) ca1).set (1) cb1).drew).set0 _ (by omega) (by omega)⟩
      · -- nd = 6
        go_wp2
        go_name_slot 15 x0 hx0
        have hlo0 : 0 ≤ x0 := by omega
        have hhi0 : x0 ≤ 198 := by omega
        obtain ⟨ca0, hXa0⟩ := idx_any 9 Tryd.underlying9 (x0 + 1) (by omega) (by omega)
        obtain ⟨cb0, hXb0⟩ := idx_any 9 Tryd.underlying9 x0 (by omega) (by omega)
        have hA0 := hc0 (5) (by omega)
        have hB0 : W0.cell? ⟨blk, off + (4), none⟩ = some (.int .u8 (G0 (4))) := hc0 (4) (by omega)
        have fA0 := hf0 (5) (by omega)
        have fB0 : W0.frozen? ⟨blk, off + (4), none⟩ = false := hf0 (4) (by omega)
        clear hx0 hc0 hf0
        go_region
        go_wp2
        go_name_world W1 hW1
        have HR1 : Hid (Row8 w W1 blk off n) := Lib.hid (by rw [← hW1]; exact (((HR0.out.set (5) ca0).set (4) cb0).drew))
        clear hW1 hA0 hB0 fA0 fB0 HR0 hXa0 hXb0
        obtain ⟨G1, hc1, hf1⟩ := HR1.out.cells
        go_name_slot 14 x1 hx1
        have hlo1 : 0 ≤ x1 := by omega
        have hhi1 : x1 ≤ 198 := by omega
        obtain ⟨ca1, hXa1⟩ := idx_any 9 Tryd.underlying9 (x1 + 1) (by omega) (by omega)
        obtain ⟨cb1, hXb1⟩ := idx_any 9 Tryd.underlying9 x1 (by omega) (by omega)
        have hA1 := hc1 (3) (by omega)
        have hB1 : W1.cell? ⟨blk, off + (2), none⟩ = some (.int .u8 (G1 (2))) := hc1 (2) (by omega)
        have fA1 := hf1 (3) (by omega)
        have fB1 : W1.frozen? ⟨blk, off + (2), none⟩ = false := hf1 (2) (by omega)
        clear hx1 hc1 hf1
        go_region
        go_wp2
        go_name_world W2 hW2
        have HR2 : Hid (Row8 w W2 blk off n) := Lib.hid (by rw [← hW2]; exact (((HR1.out.set (3) ca1).set (2) cb1).drew))
        clear hW2 hA1 hB1 fA1 fB1 HR1 hXa1 hXb1
        obtain ⟨G2, hc2, hf2⟩ := HR2.out.cells
        go_name_slot 16 x2 hx2
        have hlo2 : 0 ≤ x2 := by omega
        have hhi2 : x2 ≤ 198 := by omega
        obtain ⟨ca2, hXa2⟩ := idx_any 9 Tryd.underlying9 (x2 + 1) (by omega) (by omega)
        obtain ⟨cb2, hXb2⟩ := idx_any 9 Tryd.underlying9 x2 (by omega) (by omega)
        have hA2 := hc2 (1) (by omega)
        have hB2 : W2.cell? ⟨blk, off, none⟩ = some (.int .u8 (G2 (0))) := hc2 (0) (by omega)
        have fA2 := hf2 (1) (by omega)
        have fB2 : W2.frozen? ⟨blk, off, none⟩ = false := hf2 (0) (by omega)
        clear hx2 hc2 hf2
        go_region
        go_wp2
        go_end0
        exact ⟨rfl, ((HR2.out.set (1) ca2).set (0) cb2).drew⟩
      · -- nd = 7
        go_wp2
        go_name_slot 15 x0 hx0
        have hlo0 : 0 ≤ x0 := by omega
        have hhi0 : x0 ≤ 198 := by omega
        obtain ⟨ca0, hXa0⟩ := idx_any 9 Tryd.underlying9 (x0 + 1) (by omega) (by omega)
        obtain ⟨cb0, hXb0⟩ := idx_any 9 Tryd.underlying9 x0 (by omega) (by omega)
        have hA0 := hc0 (6) (by omega)
        have hB0 : W0.cell? ⟨blk, off + (5), none⟩ = some (.int .u8 (G0 (5))) := hc0 (5) (by omega)
        have fA0 := hf0 (6) (by omega)
        have fB0 : W0.frozen? ⟨blk, off + (5), none⟩ = false := hf0 (5) (by omega)
        clear hx0 hc0 hf0
        go_region
        go_wp2
        go_name_world W1 hW1
        have HR1 : Hid (Row8 w W1 blk off n) := Lib.hid (by rw [← hW1]; exact (((HR0.out.set (6) ca0).set (5) cb0).drew))
        clear hW1 hA0 hB0 fA0 fB0 HR0 hXa0 hXb0
        obtain ⟨G1, hc1, hf1⟩ := HR1.out.cells
        go_name_slot 14 x1 hx1
        have hlo1 : 0 ≤ x1 := by omega
        have hhi1 : x1 ≤ 198 := by omega
        obtain ⟨ca1, hXa1⟩ := idx_any 9 Tryd.underlying9 (x1 + 1) (by omega) (by omega)
        obtain ⟨cb1, hXb1⟩ := idx_any 9 Tryd.underlying9 x1 (by omega) (by omega)
        have hA1 := hc1 (4) (by omega)
        have hB1 : W1.cell? ⟨blk, off + (3), none⟩ = some (.int .u8 (G1 (3))) := hc1 (3) (by omega)
        have fA1 := hf1 (4) (by omega)
        have fB1 : W1.frozen? ⟨blk, off + (3), none⟩ = false := hf1 (3) (by omega)
        clear hx1 hc1 hf1
        go_region
        go_wp2
        go_name_world W2 hW2
        have HR2 : Hid (Row8 w W2 blk off n) := Lib.hid (by rw [← hW2]; exact (((HR1.out.set (4) ca1).set (3) cb1).drew))
        clear hW2 hA1 hB1 fA1 fB1 HR1 hXa1 hXb1
        obtain ⟨G2, hc2, hf2⟩ := HR2.out.cells
        have hZ : W2.cell? ⟨blk, off, none⟩ = some (.int .u8 (G2 0)) := hc2 0 (by omega)
        have fZ : W2.frozen? ⟨blk, off, none⟩ = false := hf2 0 (by omega)
        go_name_slot 16 x2 hx2
        have hlo2 : 0 ≤ x2 := by omega
        have hhi2 : x2 ≤ 198 := by omega
        obtain ⟨ca2, hXa2⟩ := idx_any 9 Tryd.underlying9 (x2 + 1) (by omega) (by omega)
        obtain ⟨cb2, hXb2⟩ := idx_any 9 Tryd.underlying9 x2 (by omega) (by omega)
        have hA2 := hc2 (2) (by omega)
        have hB2 : W2.cell? ⟨blk, off + (1), none⟩ = some (.int .u8 (G2 (1))) := hc2 (1) (by omega)
        have fA2 := hf2 (2) (by omega)
        have fB2 : W2.frozen? ⟨blk, off + (1), none⟩ = false := hf2 (1) (by omega)
        clear hx2 hc2 hf2
        go_region
        go_wp2
        go_end0
        exact ⟨rfl, (((HR2.out.set (2) ca2).set (1) cb2).drew).set0 _ (by omega) (by omega)⟩
end Go.Proofs.YtnfknbjdggkdpaaDoor
