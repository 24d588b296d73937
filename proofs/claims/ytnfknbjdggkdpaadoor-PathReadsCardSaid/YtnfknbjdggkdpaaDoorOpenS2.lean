/-
  Opening arguments that are slices of texts. No statement is proved here.
-/
import Derived.Test.YtnfknbjdggkdpaaDoorRows
import Derived.Test.YtnfknbjdggkdpaaDoorStrRow
import Derived.OpenShut
import Derived.ShutString
import Derived.SizedLaws
import Derived.SliceStrings
namespace Go.Proofs.YtnfknbjdggkdpaaDoor
open Go.RowKit Go.WideMaps Go.WideElems Go.ChangeShapes Go.WideShapes
theorem sized_elem {H : Type} {P : Program} {ts : List TypeId} {ds : List (DataW H)} (h : (DataW.weightsEach P ts ds).all (· ≤ reachBytes) = true) {j : Nat} {t e : TypeId} {ss : List ByteArray} {n : Nat} (ht : ts[j]? = some t) (hd : ds[j]? = some (.slice (strs (ss.take n)) (strs (ss.drop n)))) (hu : P.underlying t = some (.slice e)) :
    ∀ s ∈ ss.take n, s.size ≤ 140737488351232 := by
  intro s hs
  have h1 := List.all_eq_true.1 h s.size (DataW.weights_mem_each ht hd s.size (by
    simp only [DataW.weights, hu]
    refine List.mem_cons_of_mem _ (List.mem_append_left _ ?_)
    generalize ss.take n = l at hs
    induction l with
    | nil => cases hs
    | cons x l ih =>
      simp only [strs, List.map_cons, DataW.weightsAll]
      rcases List.mem_cons.1 hs with rfl | hs
      · exact List.mem_append_left _ (by simp [DataW.weights])
      · exact List.mem_append_right _ (ih hs)))
  exact of_decide_eq_true h1
theorem strRow_of (W : World) (x : Addr) (len : Nat) (ss : List ByteArray) (h1 : len ≤ ss.length) (_h2 : ss.length ≤ maxLen) (h3 : len * 16 ≤ 140737488351232) (hc : ∀ i, i < ss.length → W.cell? (x.add i) = some (.string (ss.getD i ByteArray.empty)))
    (hs : ∀ s ∈ ss, s.size ≤ maxLen) (hb : ∀ s ∈ ss.take len, s.size ≤ 140737488351232) :
    ∃ ss', StrRow W (some x) len ss' ∧ (len * 16 ≤ 140737488351232 ∧ ∀ s ∈ ss', s.size ≤ 140737488351232) := by
  refine ⟨ss.take len, ⟨by simp; omega, by unfold maxLen at *; omega, fun s h => hs s (List.mem_of_mem_take h), fun hl => ?_⟩, h3, hb⟩
  obtain ⟨b, off, spot⟩ := x
  have h0 := hc 0 (by omega)
  have hspot : spot = none := by simpa [Addr.add] using World.cell?_spot h0
  subst hspot
  refine ⟨b, off, rfl, fun i hi => ?_⟩
  have := hc i (by omega)
  have hplain : (⟨b, off, none⟩ : Addr).add i = ⟨b, off + i, none⟩ := by unfold Addr.add; split <;> simp_all
  rw [hplain] at this
  rw [this, List.getD_eq_getElem?_getD, List.getD_eq_getElem?_getD, List.getElem?_take, if_pos hi]
theorem strRow_of2 (W : World) (x : Addr) (len : Nat) (ss : List ByteArray) (h1 : len ≤ ss.length) (_h2 : ss.length ≤ maxLen) (h3 : len * 16 ≤ 140737488351232) (hc : ∀ i, i < ss.length → W.cell? (x.add i) = some (.string (ss.getD i ByteArray.empty)))
    (hs : ∀ s ∈ ss, s.size ≤ maxLen) (hb : ∀ s ∈ ss.take len, s.size ≤ 140737488351232) :
    StrRow W (some x) len (ss.take len) ∧ (len * 16 ≤ 140737488351232 ∧ ∀ s ∈ ss.take len, s.size ≤ 140737488351232) := by
  refine ⟨⟨by simp; omega, by unfold maxLen at *; omega, fun s h => hs s (List.mem_of_mem_take h), fun hl => ?_⟩, h3, hb⟩
  obtain ⟨b, off, spot⟩ := x
  have h0 := hc 0 (by omega)
  have hspot : spot = none := by simpa [Addr.add] using World.cell?_spot h0
  subst hspot
  refine ⟨b, off, rfl, fun i hi => ?_⟩
  have := hc i (by omega)
  have hplain : (⟨b, off, none⟩ : Addr).add i = ⟨b, off + i, none⟩ := by unfold Addr.add; split <;> simp_all
  rw [hplain] at this
  rw [this, List.getD_eq_getElem?_getD, List.getD_eq_getElem?_getD, List.getElem?_take, if_pos hi]
/-- How many letters and places. -/
def bulkS (ss : List ByteArray) : Nat := (ss.map fun s => s.size + 1).sum
theorem bulk_strs {H : Type} (ss : List ByteArray) : Rows.uptoBulkAll (strs ss : List (DataW H)) = bulkS ss := by
  induction ss with
  | nil => simp [strs, Rows.uptoBulkAll, bulkS]
  | cons s ss ih =>
    have h : (strs (s :: ss) : List (DataW H)) = .lit (.string s.data.toList) :: strs ss := rfl
    rw [h, Rows.uptoBulkAll, ih, Rows.uptoBulk, bulkS, bulkS, List.map_cons, List.sum_cons]
    simp
end Go.Proofs.YtnfknbjdggkdpaaDoor

