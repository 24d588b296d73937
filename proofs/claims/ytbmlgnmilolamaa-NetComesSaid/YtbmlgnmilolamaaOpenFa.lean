/-
  Opening an argument that is a slice of fates. No statement is proved here.
-/
import Derived.Test.YtbmlgnmilolamaaRows
import Derived.Test.YtbmlgnmilolamaaNewW
import Derived.Deep.Slices
import Derived.Deep.Strs
import Derived.Lib.SmallJoins
import Derived.OpenShut
namespace Go.Proofs.Ytbmlgnmilolamaa
open Go.RowKit Go.WideMaps Go.WideElems Go.ChangeShapes Go.WideShapes Go.Joins
theorem list_of {α : Type} {P : Nat → α → Prop} : ∀ n, (∀ i, i < n → ∃ x, P i x) → ∃ l : List α, l.length = n ∧ ∀ i x, l[i]? = some x → P i x
  | 0, _ => ⟨[], rfl, fun _ _ h => by simp at h⟩
  | n + 1, h => by
    obtain ⟨l, hl, hP⟩ := list_of n (fun i hi => h i (by omega))
    obtain ⟨x, hx⟩ := h n (by omega)
    refine ⟨l ++ [x], by rw [List.length_append, hl]; rfl, fun i y hy => ?_⟩
    by_cases hi : i < l.length
    · rw [List.getElem?_append_left hi] at hy
      exact hP i y hy
    · rw [List.getElem?_append_right (by omega)] at hy
      have h0 : i - l.length < 1 := by simpa using (List.getElem?_eq_some_iff.1 hy).1
      have h1 : i = n := by omega
      rw [show i - l.length = 0 by omega] at hy
      injection hy with hy
      rw [h1, ← hy]
      exact hx
set_option maxRecDepth 100000 in
theorem fates_opened {H : Type} {enc : TypeId × Value → H} {W : World} {spare : Nat → Bool} {held : Bool} {base fuel : Nat} {a : Option Addr} {len cap : Nat} {x : DataW H × List MemPlace}
    (h : DataW.trod enc Try.prog W base spare held fuel 22 [.slice a len cap] = some x) : ∃ fs, FaRow W a len fs := by
  rcases Go.Deep.open_slice Try.underlying22 h with ⟨h0, _⟩ | ⟨b, l, c, m, n, D, Pl, hcs, _, hl, hm, hmm, _, hi⟩
  · injection h0 with h0 _
    injection h0 with e1 e2 e3
    subst e1 e2
    exact ⟨[], rfl, fun h => by omega⟩
  · injection hcs with hcs _
    injection hcs with e1 e2 e3
    subst e1 e2 e3
    have hlm : len ≤ m := by rw [hmm]; split <;> omega
    have hC : Try.prog.cellsOf 24 = 3 := by kernel_rfl
    obtain ⟨blk, off, spot⟩ := b
    have key : ∀ i, i < len → ∃ f : FaI, W.cell? ((⟨blk, off, spot⟩ : Addr).add (i * 3)) = some (.bool f.1) ∧ W.cell? (((⟨blk, off, spot⟩ : Addr).add (i * 3)).add 1) = some (.int .i64 f.2.1) ∧ W.cell? (((⟨blk, off, spot⟩ : Addr).add (i * 3)).add 2) = some (.int .i64 f.2.2) := by
      intro i hil
      obtain ⟨cs, hc, ht⟩ := hi i (by omega)
      rw [hC] at hc
      obtain ⟨_, hcl, hat⟩ := World.cells?_some hc
      obtain ⟨y0, y1, y2, n', _, _, g0, g1, g2⟩ := Go.Deep.trod_struct3 Try.underlying24 ht
      have q0 := hat 0 (by omega)
      have q1 := hat 1 (by omega)
      have q2 := hat 2 (by omega)
      match cs, hcl with
      | [v0, v1, v2], _ =>
        have c1 : Try.prog.cellsOf 3 = 1 := by kernel_rfl
        have c2 : Try.prog.cellsOf 4 = 1 := by kernel_rfl
        simp only [c1, c2] at g0 g1 g2
        obtain ⟨d, e0, _⟩ := DataW.trod_bool Try.underlying4 g0
        obtain ⟨mm, e1, _, w1⟩ := DataW.trod_int Try.underlying3 g1
        obtain ⟨tx, e2, _, w2⟩ := DataW.trod_int Try.underlying3 g2
        simp at e0 e1 e2
        subst e0 e1 e2
        refine ⟨(d, mm, tx), ?_, by simpa using q1, by simpa using q2⟩
        have z : ((⟨blk, off, spot⟩ : Addr).add (i * 3)).add 0 = (⟨blk, off, spot⟩ : Addr).add (i * 3) := by unfold Addr.add; split <;> simp_all
        rw [z] at q0
        simpa using q0
    obtain ⟨fs, hfl, hfs⟩ := list_of len key
    refine ⟨fs, hfl, fun hlen => ?_⟩
    have hspot : spot = none := by
      obtain ⟨_, q0, _⟩ := key 0 hlen
      simpa [Addr.add] using World.cell?_spot q0
    subst hspot
    have hplain : ∀ o j : Nat, (⟨blk, o, none⟩ : Addr).add j = ⟨blk, o + j, none⟩ := fun o j => by unfold Addr.add; split <;> simp_all
    refine ⟨blk, off, rfl, fun i f hf => ?_⟩
    have := hfs i f hf
    simp only [hplain] at this
    exact this
end Go.Proofs.Ytbmlgnmilolamaa
