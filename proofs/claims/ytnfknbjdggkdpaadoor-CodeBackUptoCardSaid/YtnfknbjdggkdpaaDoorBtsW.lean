/-
  A slice of bytes that the call itself builds: nil, made by append, or out of a string's bytes. No statement is proved here.
-/
import Derived.Test.YtnfknbjdggkdpaaDoorKit
import Derived.Lib.FrozenHead
import Derived.Laws.IdiomStrings
namespace Go.Proofs.YtnfknbjdggkdpaaDoor
open Go.RowKit Go.Lib
def u8v (c : UInt8) : Value := .int .u8 (c.toNat : Int)
theorem storeCells_atG (P : Program) (g o : Nat) (t : TypeId) (fz : Nat × Nat) : ∀ (vs : List Value) (i : Nat) (cur : Array Value) (w : World), w.heap[g]? = some (.cells cur t fz) → (cur.size ≤ fz.1 ∨ fz.2 = 0) → o + i + vs.length ≤ cur.size → (∀ v ∈ vs, v.oneCell' = true) →
    (storeCells ⟨g, o, none⟩ vs i).run P w = .ok () (w.setRow g (cur.toList.take (o + i) ++ vs ++ cur.toList.drop (o + i + vs.length)).toArray)
  | [], i, cur, w, hg, _, _, _ => by
    simp only [storeCells, List.append_nil, List.length_nil, Nat.add_zero, List.take_append_drop, Array.toArray_toList]
    rw [setRow_self w g cur t fz hg]
    rfl
  | v :: rest, i, cur, w, hg, hfz, hl, h1 => by
    have hi : o + i < cur.size := by simp at hl; omega
    have hadd : (⟨g, o, none⟩ : Addr).add i = ⟨g, o + i, none⟩ := by unfold Addr.add; split <;> simp_all
    have hcell : w.cell? ⟨g, o + i, none⟩ = some cur[o + i] := by simp [World.cell?, hg, hi]
    have hfro : w.frozen? ⟨g, o + i, none⟩ = false := by
      obtain ⟨lo, hi'⟩ := fz
      simp only [World.frozen?, hg, Bool.and_eq_false_iff, decide_eq_false_iff_not]
      simp only at hfz
      omega
    have hst : (store ((⟨g, o, none⟩ : Addr).add i) v).run P w = .ok () (w.setRow g (cur.setIfInBounds (o + i) v)) := by
      rw [hadd, run_store P w _ v _ (h1 v (by simp)), hcell]
      simp [hfro, setCell_eq_setRow w g (o + i) cur t fz v hg]
    have ih := storeCells_atG P g o t fz rest (i + 1) (cur.setIfInBounds (o + i) v) (w.setRow g (cur.setIfInBounds (o + i) v)) (setRow_heap w g cur _ t _ hg) (by simpa using hfz) (by simp at hl ⊢; omega) (fun x hx => h1 x (by simp [hx]))
    simp only [storeCells, Sem.run_bind, hst, Result.andThen_ok, ih, setRow_setRow]
    congr 3
    have e := list_seg_step cur.toList (o + i) v rest (by simp at hl ⊢; omega)
    simpa [Array.toList_setIfInBounds, Nat.add_assoc] using e
/-- The slice value v holds the bytes l, in a row of the call's own. -/
def Bts (w : World) (base : Nat) (v : Value) (l : List UInt8) : Prop :=
  (v = .slice none 0 0 ∧ l = []) ∨ ∃ g cap cur fz, v = .slice (some ⟨g, 0, none⟩) l.length cap ∧ base ≤ g ∧ w.heap[g]? = some (.cells cur 5 fz) ∧ (cur.size ≤ fz.1 ∨ fz.2 = 0) ∧ l.length ≤ cap ∧ cap ≤ maxLen ∧ cur.size = cap ∧ cur.toList.take l.length = l.map u8v
theorem Bts.nil (w : World) (base : Nat) : Bts w base (.slice none 0 0) [] := .inl ⟨rfl, rfl⟩
theorem Bts.below {w w' : World} {base : Nat} {v : Value} {l : List UInt8} (h : Bts w base v l) (hb : Below w.heap.size w w') : Bts w' base v l := by
  rcases h with h | ⟨g, cap, cur, fz, hv, hg, hh, rest⟩
  · exact .inl h
  · exact .inr ⟨g, cap, cur, fz, hv, hg, by rw [hb.block g (Array.getElem?_eq_some_iff.1 hh).1]; exact hh, rest⟩
theorem info_u8 : (Tryd.prog.info? 5).map (fun i => (i.zero, i.size, i.bytes)) = some (some (.int .u8 0), 1, 1) := by kernel_rfl
theorem info_u8' : ∃ i, Tryd.prog.info? 5 = some i ∧ i.zero = some (.int .u8 0) ∧ i.size = 1 ∧ i.bytes = 1 := by
  have := info_u8
  cases hx : Tryd.prog.info? 5 with
  | none => rw [hx] at this; cases this
  | some i =>
    rw [hx] at this
    obtain ⟨h1, h2⟩ := Prod.mk.inj (Option.some.inj this)
    obtain ⟨h2, h3⟩ := Prod.mk.inj h2
    exact ⟨i, rfl, h1, h2, h3⟩
theorem Bts.cells {w : World} {g : Nat} {cur : Array Value} {fz : Nat × Nat} {l : List UInt8} (hh : w.heap[g]? = some (.cells cur 5 fz)) (ht : cur.toList.take l.length = l.map u8v) :
    ∀ j u, (l.map u8v)[j]? = some u → w.cell? ((⟨g, 0, none⟩ : Addr).add j) = some u := by
  intro j u hu
  have hadd : (⟨g, 0, none⟩ : Addr).add j = ⟨g, j, none⟩ := by unfold Addr.add; split <;> simp_all
  rw [hadd, cell_of_row w g j cur 5 fz hh]
  rw [← ht, List.getElem?_take] at hu
  split at hu
  · simpa using hu
  · cases hu
/-- What a growing append lays. -/
theorem Bts.grown (w : World) (base : Nat) (l news : List UInt8) (old : Nat) (h63 : l.length + news.length ≤ maxLen) (hb : base ≤ w.heap.size) (cur : Array Value)
    (hc : cur = (l.map u8v).toArray ++ (news.map u8v).toArray ++ Builtin.zeroCells (Value.int .u8 0).cells (grownCap w (l.length + news.length) old 5 - (l.length + news.length))) :
    Bts (w.drew.alloc (.cells cur 5)) base (.slice (some ⟨w.heap.size, 0, none⟩) (l.length + news.length) (grownCap w (l.length + news.length) old 5)) (l ++ news) ∧ Below base w (w.drew.alloc (.cells cur 5)) := by
  have hge := grownCap_ge w (l.length + news.length) old 5
  refine ⟨.inr ⟨w.heap.size, grownCap w (l.length + news.length) old 5, cur, (0, 0), by rw [List.length_append], hb, heap_alloc_new w.drew _, .inr rfl, by rw [List.length_append]; exact hge, grownCap_le_maxLen w _ _ _ h63, ?_, ?_⟩, ((Below.refl base w).drew).alloc hb _⟩
  · have hz1 : (Value.int IntKind.u8 0).cells.size = 1 := rfl
    rw [hc]
    simp only [Array.size_append, List.size_toArray, size_zeroCells, hz1, List.length_map]
    omega
  · rw [hc]
    simp only [Array.toList_append, List.append_assoc, List.map_append]
    rw [← List.append_assoc]
    have : (l ++ news).length = (l.map u8v ++ news.map u8v).length := by simp
    rw [this]
    exact List.take_left
/-- What an append into its own room lays. -/
theorem Bts.roomy (w : World) (base g cap : Nat) (cur : Array Value) (fz : Nat × Nat) (l news : List UInt8) (hg : base ≤ g) (hh : w.heap[g]? = some (.cells cur 5 fz)) (hfz : cur.size ≤ fz.1 ∨ fz.2 = 0) (hcm : cap ≤ maxLen) (hcs : cur.size = cap) (ht : cur.toList.take l.length = l.map u8v) (hroom : l.length + news.length ≤ cap) :
    Bts (w.setRow g (cur.toList.take l.length ++ news.map u8v ++ cur.toList.drop (l.length + news.length)).toArray) base (.slice (some ⟨g, 0, none⟩) (l.length + news.length) cap) (l ++ news) ∧ Below base w (w.setRow g (cur.toList.take l.length ++ news.map u8v ++ cur.toList.drop (l.length + news.length)).toArray) := by
  refine ⟨.inr ⟨g, cap, _, fz, by rw [List.length_append], hg, setRow_heap w g cur _ _ _ hh, ?_, by rw [List.length_append]; exact hroom, hcm, ?_, ?_⟩, ⟨rfl, rfl, rfl, by simp, fun k hk => setRow_other w g k _ (by omega)⟩⟩
  · simp; omega
  · simp; omega
  · rw [ht]
    have : (l ++ news).length = (l.map u8v ++ news.map u8v).length := by simp
    rw [this, ← List.map_append]
    rw [List.map_append]
    exact List.take_left
theorem bts_add_str (w : World) (base : Nat) (v : Value) (l : List UInt8) (s : ByteArray) (h : Bts w base v l) (hn : l.length + s.size ≤ 140737488355328) (hb : base ≤ w.heap.size) :
    ∃ v' w', (Builtin.append_ #[81, 9] 81 #[v, .string s]).run Tryd.prog w = .ok v' w' ∧ Bts w' base v' (l ++ s.data.toList) ∧ Below base w w' := by
  obtain ⟨i, hi, hz, hs1, hb1⟩ := info_u8'
  have hu := Tryd.underlying81
  have hus := Tryd.underlying9
  have hm : l.length + s.data.toList.length ≤ maxLen := by rw [ba_len]; unfold maxLen; omega
  have hsc : strCells s = s.data.toList.map u8v := rfl
  rcases h with ⟨rfl, rfl⟩ | ⟨g, cap, cur, fz, rfl, hg, hh, hfz, hlc, hcm, hcs, ht⟩
  · by_cases h0 : s.size = 0
    · have he : s.data.toList = [] := List.eq_nil_of_length_eq_zero (by rw [ba_len]; exact h0)
      refine ⟨.slice none 0 0, w, ?_, .inl ⟨rfl, by rw [he]; rfl⟩, Below.refl _ _⟩
      have hf := run_firstCells_string (P := Tryd.prog) w 1 s
      rw [h0] at hf
      simp [Builtin.append_, run_underlying hu, run_underlying hus, sizeOf, typeInfo, hi, hs1, Builtin.lenOf, h0, hf]
    · have hr := run_append_nil_string (P := Tryd.prog) w 81 9 81 5 i _ hu hus hi hz s (by omega) (by omega) (by rw [hb1]; omega)
      have hgr := Bts.grown w base [] s.data.toList 0 hm hb (s.data.map (fun b => Value.int .u8 b.toNat) ++ Builtin.zeroCells (Value.int .u8 0).cells (grownCap w s.size 0 5 - s.size)) (by
        have e : s.data.map u8v = (([] : List UInt8).map u8v).toArray ++ (s.data.toList.map u8v).toArray := by
          apply Array.ext'
          simp only [Array.toList_map, Array.toList_append, List.map_nil, List.nil_append]
        rw [ba_len, List.length_nil, Nat.zero_add, ← e]
        rfl)
      rw [ba_len, List.length_nil, Nat.zero_add, List.nil_append] at hgr
      exact ⟨_, _, hr, hgr.1, hgr.2⟩
  · by_cases hroom : l.length + s.size ≤ cap
    · have hf := run_firstCells_string (P := Tryd.prog) w 1 s
      have hst := storeCells_atG Tryd.prog g l.length 5 fz (strCells s) 0 cur w hh hfz (by rw [strCells_length]; omega) (strCells_oneCell s)
      simp only [Nat.add_zero, strCells_length] at hst
      have hr := Bts.roomy w base g cap cur fz l s.data.toList hg hh hfz hcm hcs ht (by rw [ba_len]; exact hroom)
      rw [ba_len, ← hsc] at hr
      refine ⟨_, _, ?_, hr.1, hr.2⟩
      simp [Builtin.append_, run_underlying hu, run_underlying hus, sizeOf, typeInfo, hi, hs1, Builtin.lenOf, hroom, hf, Addr.add_lit, hst]
    · have hr := run_append_grow_string (P := Tryd.prog) w 81 9 81 5 i _ hu hus hi hz ⟨g, 0, none⟩ l.length cap (l.map u8v) (by rw [hs1]; simp) (Bts.cells hh ht) s (by omega) (by omega) (by rw [hb1]; exact growslice_fits (by omega) (by omega))
      have hgr := Bts.grown w base l s.data.toList cap hm hb _ rfl
      rw [ba_len, ← hsc] at hgr
      exact ⟨_, _, hr, hgr.1, hgr.2⟩
theorem bts_add (w : World) (base : Nat) (v : Value) (l : List UInt8) (c : UInt8) (h : Bts w base v l) (hn : l.length + 1 ≤ 140737488355328) (hb : base ≤ w.heap.size) :
    ∃ v' w', (Builtin.append_ #[81, 81] 81 #[v, .slice (some ⟨w.heap.size, 0, none⟩) 1 1]).run Tryd.prog (w.alloc (.cells #[.int .u8 c.toNat] 5)) = .ok v' w' ∧ Bts w' base v' (l ++ [c]) ∧ Below base w w' := by
  obtain ⟨i, hi, hz, hs1, hb1⟩ := info_u8'
  have hu := Tryd.underlying81
  have hm : l.length + [c].length ≤ maxLen := by simp; unfold maxLen; omega
  have hnew := cell_one_new w (.int .u8 c.toNat) 5
  have h0 : Below base w (w.alloc (.cells #[.int .u8 c.toNat] 5)) := (Below.refl base w).alloc hb _
  have hb2 : base ≤ (w.alloc (.cells #[.int .u8 c.toNat] 5)).heap.size := by simp; omega
  have h := h.below (w' := w.alloc (.cells #[.int .u8 c.toNat] 5)) ((Below.refl _ w).alloc (Nat.le_refl _) _)
  generalize w.alloc (.cells #[.int .u8 c.toNat] 5) = W at *
  rcases h with ⟨rfl, rfl⟩ | ⟨g, cap, cur, fz, rfl, hg, hh, hfz, hlc, hcm, hcs, ht⟩
  · have hr := run_append_nil (P := Tryd.prog) W 81 81 5 i _ hu hi hz ⟨w.heap.size, 0, none⟩ 1 1 [u8v c] (by rw [hs1]; rfl) hnew (by decide) (by decide) (by rw [hb1]; decide)
    have hgr := Bts.grown W base [] [c] 0 hm hb2 _ rfl
    exact ⟨_, _, hr, hgr.1, h0.trans hgr.2⟩
  · by_cases hroom : l.length + 1 ≤ cap
    · have hf := run_firstCells_some (P := Tryd.prog) W 1 1 ⟨w.heap.size, 0, none⟩ 1 1 [u8v c] (by rfl) hnew
      have hst := storeCells_atG Tryd.prog g l.length 5 fz [u8v c] 0 cur W hh hfz (by simp; omega) (by intro x hx; simp at hx; subst hx; rfl)
      simp only [Nat.add_zero, List.length_singleton] at hst
      have hr := Bts.roomy W base g cap cur fz l [c] hg hh hfz hcm hcs ht hroom
      simp only [List.length_singleton, List.map_singleton] at hr
      refine ⟨_, _, ?_, hr.1, h0.trans hr.2⟩
      simp [Builtin.append_, run_underlying hu, sizeOf, typeInfo, hi, hs1, Builtin.lenOf, hroom, hf, Addr.add_lit, hst]
    · have hr := run_append_grow (P := Tryd.prog) W 81 81 5 i _ hu hi hz ⟨g, 0, none⟩ l.length cap (l.map u8v) (by rw [hs1]; simp) (Bts.cells hh ht) ⟨w.heap.size, 0, none⟩ 1 1 [u8v c] (by rw [hs1]; rfl) hnew (by omega) (by omega) (by rw [hb1]; exact growslice_fits (by omega) (by omega))
      have hgr := Bts.grown W base l [c] cap hm hb2 _ rfl
      exact ⟨_, _, hr, hgr.1, h0.trans hgr.2⟩
/-- '[]byte(s)'. -/
theorem bts_of (w : World) (s : ByteArray) (hs : s.size ≤ 140737488355328) :
    ∃ v W, (convert 9 81 (.string s)).run Tryd.prog w = .ok v W ∧ Bts W w.heap.size v s.data.toList ∧ Below w.heap.size w W := by
  have hge := grownCap_ge w s.size 0 5
  have hz : (bytesRow s (grownCap w s.size 0 5)).size = grownCap w s.size 0 5 := by
    simp [bytesRow]
    have : s.data.size = s.size := rfl
    omega
  refine ⟨_, _, run_bytes_of_string w 9 81 5 s Tryd.underlying9 Tryd.underlying81 Tryd.underlying5, .inr ⟨w.heap.size, grownCap w s.size 0 5, bytesRow s (grownCap w s.size 0 5), ((bytesRow s (grownCap w s.size 0 5)).size, (bytesRow s (grownCap w s.size 0 5)).size + 1), by rw [ba_len], Nat.le_refl _, ?_, .inl (Nat.le_refl _), by rw [ba_len]; exact hge, grownCap_le_maxLen w _ _ _ (by unfold maxLen; omega), hz, ?_⟩, ((Below.refl _ _).drew).alloc (Nat.le_refl _) _⟩
  · show (w.heap.push _)[w.heap.size]? = _
    simp
  · rw [ba_len, bytesRow, Array.toList_append, Array.toList_map]
    have : s.size = (s.data.toList.map u8v).length := by simp
    rw [this]
    exact List.take_left
/-- 'string(b)'. -/
theorem str_of (w : World) (base : Nat) (v : Value) (l : List UInt8) (h : Bts w base v l) (hl : l ≠ []) :
    (convert 81 9 v).run Tryd.prog w = .ok (.string ⟨l.toArray⟩) w := by
  rcases h with ⟨_, rfl⟩ | ⟨g, cap, cur, fz, rfl, hg, hh, hfz, hlc, hcm, hcs, ht⟩
  · exact absurd rfl hl
  · refine run_convert_bytes_back w 81 9 5 ⟨g, 0, none⟩ cap l Tryd.underlying81 Tryd.underlying5 Tryd.underlying9 (fun j hj => ?_)
    exact Bts.cells hh ht j _ (by rw [List.getElem?_map, List.getElem?_eq_getElem hj]; rfl)
end Go.Proofs.YtnfknbjdggkdpaaDoor
