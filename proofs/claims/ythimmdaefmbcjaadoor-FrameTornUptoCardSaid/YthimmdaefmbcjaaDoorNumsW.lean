/-
  A slice of numbers that the call itself builds by append. No statement is proved here.
-/
import Derived.Test.YthimmdaefmbcjaaDoorSumOfW
import Derived.Deep.DeepAppendWide
namespace Go.Proofs.YthimmdaefmbcjaaDoor
open Go.RowKit
def iv (n : Nat) : Value := .int .i64 n
def Nums (w : World) (base : Nat) (v : Value) (ns : List Nat) : Prop := w.ownsRow base 3 1 v ns.length (ns.map iv)
theorem Nums.nil (w : World) (base : Nat) : Nums w base (.slice none 0 0) [] := World.ownsRow_nil w base 3 1
theorem Nums.below {w w' : World} {base : Nat} {v : Value} {ns : List Nat} (h : Nums w base v ns) (hb : Below w.heap.size w w') : Nums w' base v ns :=
  World.ownsRow.kept (row := none) h ⟨hb.os, hb.tape, hb.output, hb.size, fun k hk _ => hb.block k hk⟩ (by cases v.ownBlock <;> simp)
theorem info_int : (Tryd.prog.info? 3).map (fun i => (i.zero, i.size, i.bytes)) = some (some (.int .i64 0), 1, 8) := by kernel_rfl
theorem nums_append (w : World) (base : Nat) (v : Value) (ns : List Nat) (x : Nat) (h : Nums w base v ns) (hn : ns.length ≤ 140737488351232 / 16) (hb : base ≤ w.heap.size) :
    ∃ v' w', (Builtin.append_ #[44, 44] 44 #[v, .slice (some ⟨w.heap.size, 0, none⟩) 1 1]).run Tryd.prog (w.alloc (.cells #[.int .i64 x] 3)) = .ok v' w' ∧ Nums w' base v' (ns ++ [x]) ∧ Below base w w' := by
  obtain ⟨i, hi, hz⟩ : ∃ i, Tryd.prog.info? 3 = some i ∧ (i.zero, i.size, i.bytes) = (some (.int .i64 0), 1, 8) := by
    have := info_int
    cases hx : Tryd.prog.info? 3 with
    | none => rw [hx] at this; cases this
    | some i => rw [hx] at this; exact ⟨i, rfl, Option.some.inj this⟩
  obtain ⟨hz1, hz2⟩ := Prod.mk.inj hz
  obtain ⟨hz2, hz3⟩ := Prod.mk.inj hz2
  obtain ⟨v', w', hr, h2, h3, _⟩ := run_append_own_wide (P := Tryd.prog) (w.alloc (.cells #[.int .i64 x] 3)) base 44 44 3 i _ 1 8 Tryd.underlying44 hi hz1 hz2 hz3 rfl (by decide)
    v ns.length (ns.map iv) (World.ownsRow.alloc h _) ⟨w.heap.size, 0, none⟩ 1 1 [.int .i64 x] rfl (cell_one_new w (.int .i64 x) 3) (by intro u hu; simp at hu; subst hu; rfl) (by unfold maxLen; omega) (by omega) (by simp; omega)
  refine ⟨v', w', hr, ?_, ?_⟩
  · unfold Nums
    rw [List.length_append, List.map_append]
    exact h2
  · refine ((Below.refl base w).alloc hb _).grown h3 (by simp; omega) (fun k hk => (World.ownsRow.lt h k hk).1)
/-- A slice of numbers that is read. -/
def NumRow (w : World) (a : Option Addr) (len : Nat) (ns : List Nat) : Prop :=
  ns.length = len ∧ (0 < len → ∃ b off, a = some ⟨b, off, none⟩ ∧ ∀ i, i < len → w.cell? ⟨b, off + i, none⟩ = some (.int .i64 (ns.getD i 0 : Nat)))
theorem NumRow.below {w w' : World} {a : Option Addr} {len : Nat} {ns : List Nat} (h : NumRow w a len ns) (hb : Below w.heap.size w w') : NumRow w' a len ns := by
  obtain ⟨h1, h4⟩ := h
  refine ⟨h1, fun hl => ?_⟩
  obtain ⟨b, off, e, hc⟩ := h4 hl
  exact ⟨b, off, e, fun i hi => (hb.cell (p := ⟨b, off + i, none⟩) (World.block_lt_of_cell? w _ (hc i hi))).trans (hc i hi)⟩
theorem NumRow.item {w : World} {a : Option Addr} {len : Nat} {ns : List Nat} (h : NumRow w a len ns) (k : Nat) (hk : k < len) :
    ∃ b off, ∃ x : Nat, a = some ⟨b, off, none⟩ ∧ w.cell? ⟨b, off + k, none⟩ = some (.int .i64 x) ∧ Hid (ns[k]? = some x) := by
  obtain ⟨h1, h4⟩ := h
  obtain ⟨b, off, e, hc⟩ := h4 (by omega)
  have hx := List.getElem?_eq_getElem (l := ns) (i := k) (by omega)
  refine ⟨b, off, ns[k], e, ?_, hx⟩
  rw [hc k hk, List.getD_eq_getElem?_getD, hx, Option.getD_some]
theorem Nums.row {w : World} {base : Nat} {v : Value} {ns : List Nat} (h : Nums w base v ns) : ∃ a cap, v = .slice a ns.length cap ∧ NumRow w a ns.length ns := by
  rcases h.2 with ⟨rfl, h0⟩ | ⟨g, cap, cur, rfl, _⟩
  · rw [h0]
    exact ⟨none, 0, rfl, h0, fun hl => by omega⟩
  · refine ⟨_, cap, rfl, rfl, fun hl => ⟨g, 0, rfl, fun i hi => ?_⟩⟩
    have hc := World.ownsRow.cells h (g := g) rfl i (.int .i64 (ns.getD i 0 : Nat)) (by
      rw [List.getElem?_map, List.getElem?_eq_getElem hi, Option.map_some, List.getD_eq_getElem?_getD, List.getElem?_eq_getElem hi, Option.getD_some]
      rfl)
    have hadd : (⟨g, 0, none⟩ : Addr).add i = ⟨g, 0 + i, none⟩ := by unfold Addr.add; split <;> simp_all
    rw [hadd] at hc
    exact hc
end Go.Proofs.YthimmdaefmbcjaaDoor
