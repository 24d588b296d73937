/-
  Opening an argument that is a slice of steps. No statement is proved here.
-/
import Derived.Test.YtnfknbjdggkdpaaDoorRows
import Derived.Test.YtnfknbjdggkdpaaDoorCodeReadsW
import Derived.Deep.Slices
import Derived.Lib.SmallJoins
import Derived.OpenShut
namespace Go.Proofs.YtnfknbjdggkdpaaDoor
open Go.RowKit Go.WideMaps Go.WideElems Go.ChangeShapes Go.WideShapes Go.Joins
set_option maxRecDepth 100000 in
theorem step_opened {H : Type} {enc : TypeId × Value → H} {W : World} {spare : Nat → Bool} {held : Bool} {base fuel : Nat} {a : Option Addr} {len cap : Nat} {x : DataW H × List MemPlace}
    (h : DataW.trod enc Tryd.prog W base spare held fuel 73 [.slice a len cap] = some x) : StepRow W a len := by
  rcases Go.Deep.open_slice Tryd.underlying73 h with ⟨h0, _⟩ | ⟨b, l, c, m, n, D, Pl, hcs, _, hl, hm, hmm, _, hi⟩
  · injection h0 with h0 _
    injection h0 with e1 e2 e3
    subst e1 e2
    exact ⟨by decide, fun h => by omega⟩
  · injection hcs with hcs _
    injection hcs with e1 e2 e3
    subst e1 e2 e3
    refine ⟨by unfold maxLen at *; omega, fun hlen => ?_⟩
    have hlm : len ≤ m := by rw [hmm]; split <;> omega
    have hC : Tryd.prog.cellsOf 79 = 4 := by kernel_rfl
    obtain ⟨blk, off, spot⟩ := b
    have key : ∀ i, i < len → ∃ (d : Int) (m : Nat) (tx ea : Int), m < 18446744073709551616 ∧ tx ≤ 9223372036854775807 ∧ ea ≤ 9223372036854775807 ∧
        W.cell? ((⟨blk, off, spot⟩ : Addr).add (i * 4)) = some (.int .i64 d) ∧ W.cell? (((⟨blk, off, spot⟩ : Addr).add (i * 4)).add 1) = some (.int .u64 m) ∧ W.cell? (((⟨blk, off, spot⟩ : Addr).add (i * 4)).add 2) = some (.int .i64 tx) ∧ W.cell? (((⟨blk, off, spot⟩ : Addr).add (i * 4)).add 3) = some (.int .i64 ea) := by
      intro i hil
      obtain ⟨cs, hc, ht⟩ := hi i (by omega)
      rw [hC] at hc
      obtain ⟨_, hcl, hat⟩ := World.cells?_some hc
      obtain ⟨y0, y1, y2, y3, n', _, _, g0, g1, g2, g3⟩ := trod_struct4 Tryd.underlying79 ht
      have q0 := hat 0 (by omega)
      have q1 := hat 1 (by omega)
      have q2 := hat 2 (by omega)
      have q3 := hat 3 (by omega)
      match cs, hcl with
      | [v0, v1, v2, v3], _ =>
        have c1 : Tryd.prog.cellsOf 3 = 1 := by kernel_rfl
        have c2 : Tryd.prog.cellsOf 22 = 1 := by kernel_rfl
        simp only [c1, c2] at g0 g1 g2 g3
        obtain ⟨d, e0, _, w0⟩ := DataW.trod_int Tryd.underlying3 g0
        obtain ⟨mm, e1, _, w1⟩ := DataW.trod_int Tryd.underlying22 g1
        obtain ⟨tx, e2, _, w2⟩ := DataW.trod_int Tryd.underlying3 g2
        obtain ⟨ea, e3, _, w3⟩ := DataW.trod_int Tryd.underlying3 g3
        simp at e0 e1 e2 e3
        subst e0 e1 e2 e3
        have b1 := bounds_u64 w1
        have b2 := bounds_i64 w2
        have b3 := bounds_i64 w3
        obtain ⟨m', rfl⟩ := Int.eq_ofNat_of_zero_le b1.1
        refine ⟨d, m', tx, ea, by omega, by omega, by omega, ?_, by simpa using q1, by simpa using q2, by simpa using q3⟩
        have z : ((⟨blk, off, spot⟩ : Addr).add (i * 4)).add 0 = (⟨blk, off, spot⟩ : Addr).add (i * 4) := by unfold Addr.add; split <;> simp_all
        rw [z] at q0
        simpa using q0
    have hspot : spot = none := by
      obtain ⟨_, _, _, _, _, _, _, q0, _⟩ := key 0 hlen
      simpa [Addr.add] using World.cell?_spot q0
    subst hspot
    have hplain : ∀ o j : Nat, (⟨blk, o, none⟩ : Addr).add j = ⟨blk, o + j, none⟩ := fun o j => by unfold Addr.add; split <;> simp_all
    refine ⟨blk, off, rfl, fun i hil => ?_⟩
    have := key i hil
    simp only [hplain] at this
    exact this
end Go.Proofs.YtnfknbjdggkdpaaDoor
