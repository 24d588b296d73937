/-
  Slices of texts that are made, copied, filled. No statement is proved here.
-/
import Derived.Test.YtnfknbjdggkdpaaDoorSaidPathW
import Derived.Test.YtnfknbjdggkdpaaDoorStrRow
namespace Go.Proofs.YtnfknbjdggkdpaaDoor
open Go.RowKit
theorem info_string : (Tryd.prog.info? 9).map (fun i => (i.zero, i.size, i.bytes)) = some (some (.string ByteArray.empty), 1, 16) := by kernel_rfl
/-- 'append([]string(nil), l...)': a copy. -/
theorem copy_strs (w : World) (a : Option Addr) (len cap : Nat) (ss : List ByteArray) (hr : StrRow w a len ss) (hcap : len * 16 ≤ 140737488351232) :
    ∃ a' cap' w1, (Builtin.append_ #[23, 23] 23 #[.slice none 0 0, .slice a len cap]).run Tryd.prog w = .ok (.slice a' len cap') w1 ∧ StrRow w1 a' len ss ∧ Below w.heap.size w w1 := by
  obtain ⟨i0, hi, hz0, hz1, hz2⟩ := info_parts info_string
  by_cases h0 : len = 0
  · subst h0
    refine ⟨none, 0, w, ?_, ?_, Below.refl _ _⟩
    · cases a with
      | none => simp [Builtin.append_, run_underlying Tryd.underlying23, sizeOf, typeInfo, hi, Builtin.lenOf, Builtin.firstCells]
      | some ad => simp [Builtin.append_, run_underlying Tryd.underlying23, sizeOf, typeInfo, hi, Builtin.lenOf, Builtin.firstCells, loadCells, loadCellsFrom]
    · exact ⟨hr.1, hr.2.1, hr.2.2.1, fun h => by omega⟩
  · obtain ⟨h1, h2, h3, h4⟩ := hr
    obtain ⟨b, off, rfl, hc⟩ := h4 (by omega)
    obtain ⟨v', w1, hrun, hown, hg, hnil⟩ := run_append_own (P := Tryd.prog) w w.heap.size 23 23 9 i0 (.string ByteArray.empty) 1 16 Tryd.underlying23 hi hz0 hz1 hz2 rfl (by decide)
      (.slice none 0 0) 0 [] (World.ownsRow_nil _ _ _ _) ⟨b, off, none⟩ len cap (ss.map Value.string) (by simpa using h1) (fun j u hu => by
        have hj : j < ss.length := by simpa using (List.getElem?_eq_some_iff.1 hu).1
        have hplain : (⟨b, off, none⟩ : Addr).add j = ⟨b, off + j, none⟩ := by unfold Addr.add; split <;> simp_all
        rw [hplain, hc j (by omega), ← hu]
        simp [List.getD_eq_getElem?_getD, List.getElem?_eq_getElem hj]) (fun u hu => by
        obtain ⟨x, _, rfl⟩ := List.mem_map.1 hu
        rfl) (by simpa using h2) (by omega) (Nat.le_refl _)
    have hbel : Below w.heap.size w w1 := (Below.refl _ _).grown hg (Nat.le_refl _) (fun k hk => by simp [Value.ownBlock] at hk)
    rcases hown.2 with ⟨rfl, hn⟩ | ⟨g, cap', cur, rfl, hbg, hh, hn, hcm, hcs, htake⟩
    · omega
    · simp only [Nat.zero_add, List.nil_append, Nat.mul_one] at *
      refine ⟨_, _, _, hrun, ⟨h1, h2, h3, fun _ => ⟨g, 0, rfl, fun i hi => ?_⟩⟩, hbel⟩
      rw [Nat.zero_add, cell_of_row w1 g i cur 9 (0, 0) hh]
      have e : (cur.toList.take len)[i]? = (ss.map Value.string)[i]? := by rw [htake]
      rw [List.getElem?_take, if_pos hi] at e
      rw [← Array.getElem?_toList, e, List.getElem?_map, List.getD_eq_getElem?_getD, List.getElem?_eq_getElem (by omega)]
      simp

/-- A block's texts. -/
def StrsAt (W : World) (b : Nat) (ss : List ByteArray) : Prop := ∀ j, j < ss.length → W.cell? ⟨b, j, none⟩ = some (.string (ss.getD j ByteArray.empty)) ∧ W.frozen? ⟨b, j, none⟩ = false
theorem make_strs (w : World) (n : Nat) (hn : n * 16 ≤ 140737488351232) : ∃ W1, (Instr.makeSlice 23 (.int .i64 n) (.int .i64 n)).run Tryd.prog w = .ok (.slice (some ⟨w.heap.size, 0, none⟩) n n) W1 ∧
    StrsAt W1 w.heap.size (List.replicate n ByteArray.empty) ∧ Below w.heap.size w W1 ∧ w.heap.size < W1.heap.size := by
  obtain ⟨i0, hi, hz0, hz1, hz2⟩ := info_parts info_string
  have h := run_make (P := Tryd.prog) w 23 9 i0 (.string ByteArray.empty) Tryd.underlying23 hi hz0 .i64 .i64 n n (by omega) (by omega) (by rw [hz2]; omega) (by omega)
  refine ⟨_, h, ?_, (Below.refl _ _).alloc (Nat.le_refl _) _, by simp⟩
  intro j hj
  rw [List.length_replicate] at hj
  refine ⟨?_, World.frozen?_alloc_new _ _ _ _⟩
  rw [World.cell?_alloc_mark, hz1]
  have e : ((n : Int)).toNat * 1 = n := by omega
  rw [e]
  simp [madeCells, hj, Value.cells, Nat.mod_one]
theorem StrsAt.below {w w' : World} {b : Nat} {l : List ByteArray} (h : StrsAt w b l) (hb : Below w.heap.size w w') (hlt : b < w.heap.size) : StrsAt w' b l := fun j hj => by
  obtain ⟨h1, h2⟩ := h j hj
  exact ⟨(hb.cell (p := ⟨b, j, none⟩) hlt).trans h1, (hb.frozen (p := ⟨b, j, none⟩) hlt).trans h2⟩
theorem StrsAt.set {W : World} {b : Nat} {l : List ByteArray} (h : StrsAt W b l) (i : Nat) (x : ByteArray) (hi : i < l.length) : StrsAt (W.setCell ⟨b, i, none⟩ (.string x)) b (l.set i x) := fun j hj => by
  rw [List.length_set] at hj
  obtain ⟨h1, h2⟩ := h j hj
  refine ⟨?_, by simpa using h2⟩
  by_cases e : i = j
  · subst e
    rw [set_cell5 h1]
    simp [List.getD_eq_getElem?_getD, hi]
  · rw [set_other (by simp [e]), h1]
    simp [List.getD_eq_getElem?_getD, List.getElem?_set_ne e]
end Go.Proofs.YtnfknbjdggkdpaaDoor
