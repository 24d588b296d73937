/-
  Opening an argument that is a slice of a net's steps. No statement is proved here.
-/
import Derived.Test.YtbmlgnmilolamaaRows
import Derived.Test.YtbmlgnmilolamaaOpenFa
import Derived.Test.YtbmlgnmilolamaaStpW
import Derived.Deep.Slices
import Derived.Lib.SmallJoins
import Derived.OpenShut
import Derived.SizedLaws
namespace Go.Proofs.Ytbmlgnmilolamaa
open Go.RowKit Go.WideMaps Go.WideElems Go.ChangeShapes Go.WideShapes Go.Joins
theorem weights_mem_all {H : Type} {P : Program} {e : TypeId} {d : DataW H} {n : Nat} : ∀ {ds : List (DataW H)}, d ∈ ds → n ∈ d.weights P e → n ∈ DataW.weightsAll P e ds
  | x :: ds, h, hn => by
    rw [DataW.weightsAll]
    rcases List.mem_cons.1 h with rfl | h
    · exact List.mem_append_left _ hn
    · exact List.mem_append_right _ (weights_mem_all h hn)
set_option maxRecDepth 100000 in
theorem stps_opened {H : Type} {enc : TypeId × Value → H} {W : World} {spare : Nat → Bool} {held : Bool} {base fuel : Nat} {a : Option Addr} {len cap : Nat} {x : DataW H × List MemPlace}
    (h : DataW.trod enc Try.prog W base spare held fuel 39 [.slice a len cap] = some x)
    (hsz : ∀ n ∈ DataW.weights Try.prog 39 x.1, n ≤ 140737488355328) : ∃ ss, StpRow W a len ss := by
  rcases Go.Deep.open_slice Try.underlying39 h with ⟨h0, _⟩ | ⟨b, l, c, m, n, D, Pl, hcs, _, hl, hm, hmm, hx, hi⟩
  · injection h0 with h0 _
    injection h0 with e1 e2 e3
    subst e1 e2
    exact ⟨[], rfl, (fun s hs => by cases hs), fun h => by omega⟩
  · injection hcs with hcs _
    injection hcs with e1 e2 e3
    subst e1 e2 e3
    have hlm : len ≤ m := by rw [hmm]; split <;> omega
    have hC : Try.prog.cellsOf 42 = 4 := by kernel_rfl
    have hwt : ∀ i, i < len → ∀ n ∈ (D i).weights Try.prog 42, n ≤ 140737488355328 := fun i hil n hn => by
      refine hsz n ?_
      rw [hx]
      simp only [DataW.weights, Try.underlying39]
      exact List.mem_cons_of_mem _ (List.mem_append_left _ (weights_mem_all (List.mem_map.2 ⟨i, List.mem_range.2 hil, rfl⟩) hn))
    obtain ⟨blk, off, spot⟩ := b
    have key : ∀ i, i < len → ∃ s : Stp, s.2.2.2.size ≤ 140737488355328 ∧ W.cell? ((⟨blk, off, spot⟩ : Addr).add (i * 4)) = some (.int .i64 s.1) ∧ W.cell? (((⟨blk, off, spot⟩ : Addr).add (i * 4)).add 1) = some (.int .i64 s.2.1) ∧ W.cell? (((⟨blk, off, spot⟩ : Addr).add (i * 4)).add 2) = some (.int .i64 s.2.2.1) ∧ W.cell? (((⟨blk, off, spot⟩ : Addr).add (i * 4)).add 3) = some (.string s.2.2.2) := by
      intro i hil
      obtain ⟨cs, hc, ht⟩ := hi i (by omega)
      have hw := hwt i hil
      rw [hC] at hc
      obtain ⟨_, hcl, hat⟩ := World.cells?_some hc
      obtain ⟨y0, y1, y2, y3, n', hd, _, g0, g1, g2, g3⟩ := trod_struct4 Try.underlying42 ht
      have q0 := hat 0 (by omega)
      have q1 := hat 1 (by omega)
      have q2 := hat 2 (by omega)
      have q3 := hat 3 (by omega)
      match cs, hcl with
      | [v0, v1, v2, v3], _ =>
        have c1 : Try.prog.cellsOf 3 = 1 := by kernel_rfl
        have c2 : Try.prog.cellsOf 9 = 1 := by kernel_rfl
        simp only [c1, c2] at g0 g1 g2 g3
        obtain ⟨d, e0, _, w0⟩ := DataW.trod_int Try.underlying3 g0
        obtain ⟨xx, e1, _, w1⟩ := DataW.trod_int Try.underlying3 g1
        obtain ⟨yy, e2, _, w2⟩ := DataW.trod_int Try.underlying3 g2
        obtain ⟨s, e3, hs, w3⟩ := DataW.trod_string Try.underlying9 g3
        simp at e0 e1 e2 e3
        subst e0 e1 e2 e3
        injection hd with hd _
        have hss : s.size ≤ 140737488355328 := by
          refine hw s.size ?_
          rw [hd]
          simp only [DataW.weights, Try.underlying42]
          refine DataW.weights_mem_each (j := 3) (t := 9) (d := y3.1) rfl rfl _ ?_
          rw [hs]
          simp [DataW.weights]
        refine ⟨(d, xx, yy, s), hss, ?_, by simpa using q1, by simpa using q2, by simpa using q3⟩
        have z : ((⟨blk, off, spot⟩ : Addr).add (i * 4)).add 0 = (⟨blk, off, spot⟩ : Addr).add (i * 4) := by unfold Addr.add; split <;> simp_all
        rw [z] at q0
        simpa using q0
    obtain ⟨ss, hsl, hss⟩ := list_of len key
    refine ⟨ss, hsl, (fun s hs => by obtain ⟨i, hi⟩ := List.getElem?_of_mem hs; exact (hss i s hi).1), fun hlen => ?_⟩
    have hspot : spot = none := by
      obtain ⟨_, _, q0, _⟩ := key 0 hlen
      simpa [Addr.add] using World.cell?_spot q0
    subst hspot
    have hplain : ∀ o j : Nat, (⟨blk, o, none⟩ : Addr).add j = ⟨blk, o + j, none⟩ := fun o j => by unfold Addr.add; split <;> simp_all
    refine ⟨blk, off, rfl, fun i f hf => ?_⟩
    have := (hss i f hf).2
    simp only [hplain] at this
    exact this
end Go.Proofs.Ytbmlgnmilolamaa
