/-
  A slice of texts that the call itself builds by append. No statement is proved here.
-/
import Derived.Test.YtnfknbjdggkdpaaDoorStrRow
import Derived.Deep.DeepAppendWide
namespace Go.Proofs.YtnfknbjdggkdpaaDoor
open Go.RowKit
def Strs (w : World) (base : Nat) (v : Value) (ss : List ByteArray) : Prop := w.ownsRow base 9 1 v ss.length (ss.map .string)
theorem Strs.nil (w : World) (base : Nat) : Strs w base (.slice none 0 0) [] := World.ownsRow_nil w base 9 1
theorem Strs.below {w w' : World} {base : Nat} {v : Value} {ss : List ByteArray} (h : Strs w base v ss) (hb : Below w.heap.size w w') : Strs w' base v ss :=
  World.ownsRow.kept (row := none) h ⟨hb.os, hb.tape, hb.output, hb.size, fun k hk _ => hb.block k hk⟩ (by cases v.ownBlock <;> simp)
theorem info_str : (Tryd.prog.info? 9).map (fun i => (i.zero, i.size, i.bytes)) = some (some (.string ByteArray.empty), 1, 16) := by kernel_rfl
theorem strs_append (w : World) (base : Nat) (v : Value) (ss : List ByteArray) (s : ByteArray) (h : Strs w base v ss) (hn : ss.length * 12 ≤ 140737488351232) (hb : base ≤ w.heap.size) :
    ∃ v' w', (Builtin.append_ #[23, 23] 23 #[v, .slice (some ⟨w.heap.size, 0, none⟩) 1 1]).run Tryd.prog (w.alloc (.cells #[.string s] 9)) = .ok v' w' ∧ Strs w' base v' (ss ++ [s]) ∧ Below base w w' := by
  obtain ⟨i, hi, hz⟩ : ∃ i, Tryd.prog.info? 9 = some i ∧ (i.zero, i.size, i.bytes) = (some (.string ByteArray.empty), 1, 16) := by
    have := info_str
    cases hx : Tryd.prog.info? 9 with
    | none => rw [hx] at this; cases this
    | some i => rw [hx] at this; exact ⟨i, rfl, Option.some.inj this⟩
  obtain ⟨hz1, hz2⟩ := Prod.mk.inj hz
  obtain ⟨hz2, hz3⟩ := Prod.mk.inj hz2
  obtain ⟨v', w', hr, h2, h3, _⟩ := run_append_own_wide (P := Tryd.prog) (w.alloc (.cells #[.string s] 9)) base 23 23 9 i _ 1 16 Tryd.underlying23 hi hz1 hz2 hz3 rfl (by decide)
    v ss.length (ss.map .string) (World.ownsRow.alloc h _) ⟨w.heap.size, 0, none⟩ 1 1 [.string s] rfl (cell_one_new w (.string s) 9) (by intro u hu; simp at hu; subst hu; rfl) (by unfold maxLen; omega) (by omega) (by simp; omega)
  refine ⟨v', w', hr, ?_, ?_⟩
  · unfold Strs
    rw [List.length_append, List.map_append]
    exact h2
  · refine ((Below.refl base w).alloc hb _).grown h3 (by simp; omega) (fun k hk => (World.ownsRow.lt h k hk).1)
theorem Strs.row {w : World} {base : Nat} {v : Value} {ss : List ByteArray} (h : Strs w base v ss) (hm : ss.length ≤ maxLen) (hs : ∀ s ∈ ss, s.size ≤ maxLen) : ∃ a cap, v = .slice a ss.length cap ∧ StrRow w a ss.length ss := by
  rcases h.2 with ⟨rfl, h0⟩ | ⟨g, cap, cur, rfl, _⟩
  · rw [h0]
    exact ⟨none, 0, rfl, h0, by omega, hs, fun hl => by omega⟩
  · refine ⟨_, cap, rfl, rfl, hm, hs, fun hl => ⟨g, 0, rfl, fun i hi => ?_⟩⟩
    have hc := World.ownsRow.cells h (g := g) rfl i (.string (ss.getD i ByteArray.empty)) (by
      rw [List.getElem?_map, List.getElem?_eq_getElem hi, Option.map_some, List.getD_eq_getElem?_getD, List.getElem?_eq_getElem hi, Option.getD_some])
    have hadd : (⟨g, 0, none⟩ : Addr).add i = ⟨g, 0 + i, none⟩ := by unfold Addr.add; split <;> simp_all
    rw [hadd] at hc
    exact hc
end Go.Proofs.YtnfknbjdggkdpaaDoor
