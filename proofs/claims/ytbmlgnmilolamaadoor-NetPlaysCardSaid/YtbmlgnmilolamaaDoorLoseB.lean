/-
  slices.DeleteFunc with the closure of Lose. No statement is proved here.
-/
import Derived.Test.YtbmlgnmilolamaaDoorLoseA
import Derived.Test.YtbmlgnmilolamaaDoorInsertW
namespace Go.Proofs.YtbmlgnmilolamaaDoor
open Go.RowKit
theorem setCells_row (g : Nat) (t : TypeId) : ∀ (vs : List Value) (o : Nat) (cur : Array Value) (w : World), w.heap[g]? = some (.cells cur t (0, 0)) → o + vs.length ≤ cur.size →
    w.setCells g o vs = w.setRow g (cur.toList.take o ++ vs ++ cur.toList.drop (o + vs.length)).toArray
  | [], o, cur, w, hg, _ => by
    simp only [World.setCells, List.append_nil, List.length_nil, Nat.add_zero, List.take_append_drop, Array.toArray_toList]
    rw [setRow_self w g cur t (0, 0) hg]
  | v :: rest, o, cur, w, hg, hl => by
    have ih := setCells_row g t rest (o + 1) (cur.setIfInBounds o v) (w.setRow g (cur.setIfInBounds o v)) (setRow_heap w g cur _ t _ hg) (by simp at hl ⊢; omega)
    rw [World.setCells, setCell_eq_setRow w g o cur t (0, 0) v hg, ih, setRow_setRow]
    congr 2
    have e := list_seg_step cur.toList o v rest (by simp at hl ⊢; omega)
    simpa [Array.toList_setIfInBounds, Nat.add_assoc] using e
theorem run_clear_k {P : Program} (w : World) (t ty e : TypeId) (g o n c k : Nat) (z : Value) (cur : Array Value) (T : TypeId) (ht : P.underlying t = some (.slice e)) (hz : (P.info? e).map (·.zero) = some (some z)) (hk : z.cells.size = k)
    (h1 : ∀ v ∈ z.cells.toList, v.oneCell' = true) (hn : 0 < n) (hg : w.heap[g]? = some (.cells cur T (0, 0))) (hfit : o + n * k ≤ cur.size) :
    (Builtin.clear_ #[t] ty #[.slice (some ⟨g, o, none⟩) n c]).run P w = .ok (.tuple #[]) (w.setRow g (cur.toList.take o ++ (Builtin.zeroCells z.cells n).toList ++ cur.toList.drop (o + n * k)).toArray) := by
  obtain ⟨i, hi, hiz⟩ := Option.map_eq_some_iff.1 hz
  obtain ⟨m, rfl⟩ : ∃ m, n = m + 1 := ⟨n - 1, by omega⟩
  have hl : (Builtin.zeroCells z.cells (m + 1)).toList.length = (m + 1) * k := by rw [Array.length_toList, size_zeroCells, hk]
  have hst := run_storeCells_at P g o T (Builtin.zeroCells z.cells (m + 1)).toList 0 cur w hg (by rw [hl]; simpa using hfit) (by
    intro v hv
    have : v ∈ z.cells.toList := by
      simp only [Builtin.zeroCells, Array.toList_map, List.mem_map] at hv
      obtain ⟨i, hi, rfl⟩ := hv
      have hz0 : 0 < z.cells.size := by
        rcases Nat.eq_zero_or_pos z.cells.size with h0 | h0
        · rw [h0] at hi
          simp at hi
        · exact h0
      rw [getElem!_pos z.cells _ (Nat.mod_lt _ hz0)]
      simp
    exact h1 v this)
  rw [hl] at hst
  simp only [Nat.add_zero] at hst
  simp [Builtin.clear_, run_underlying ht, zeroValue, typeInfo, hi, hiz, hst]
theorem wpList_clear_run {P : Program} {w w1 : World} {v : Value} {ops : Array Oper} {rest : List Oper} {o : Oper} {a : Act} {Q : Exit → Act → World → Prop} (hgd : o.guard = none) (s : Operand) (t : TypeId)
    (ho : o.op = .call { callee := .builtin .clear, args := #[s], argTypes := #[t] }) (vs : Value) (hs : a.eval s = vs)
    (hrun : (Builtin.clear_ #[t] o.type #[vs]).run P w = .ok v w1) (h : wpList P ops Q rest (a.put o.dst v) w1) : wpList P ops Q (o :: rest) a w := by
  subst hs
  refine wpList_plain hgd (fun K hK => ?_)
  unfold Oper.wp execOp
  simp only [ho, resolve, invoke, builtin, Sem.run_bind, Sem.run_pure, Result.andThen_ok, List.map_toArray, List.map_cons, List.map_nil, hrun]
  exact hK _ _ h
/-- Those that are not to this end. -/
def keep (e : Int) (l : List Un) : List Un := l.filter (fun x => !toE e x)
theorem keep_snoc {e : Int} {l : List Un} {j : Nat} {x : Un} (hx : l[j]? = some x) : keep e (l.take (j + 1)) = keep e (l.take j) ++ (if toE e x then [] else [x]) := by
  unfold keep
  rw [List.take_add_one, hx, Option.toList_some, List.filter_append]
  cases h : toE e x <;> simp [h]
/-- Where the loop stands: i kept, j seen. -/
def DelAt (w wr : World) (g cap : Nat) (C : List Value) (e : Int) (l : List Un) (i j : Nat) : Prop :=
  ∃ R : List Value, wr.heap[g]? = some (.cells R.toArray 68 (0, 0)) ∧ R.length = cap * 5 ∧ R.take (i * 5) = rowC unC (keep e (l.take j)) ∧ i = (keep e (l.take j)).length ∧ R.drop (j * 5) = C.drop (j * 5) ∧ Only (fun k => k = g) w wr
theorem DelAt.below {w wr w2 : World} {g cap : Nat} {C : List Value} {e : Int} {l : List Un} {i j : Nat} (h : DelAt w wr g cap C e l i j) (hb : Below wr.heap.size wr w2) : DelAt w w2 g cap C e l i j := by
  obtain ⟨R, h1, h2, h3, h4, h5, h6⟩ := h
  exact ⟨R, (hb.block g (Array.getElem?_eq_some_iff.1 h1).1).trans h1, h2, h3, h4, h5, h6.trans (Only.of_below (S := fun _ => False) hb) (fun _ h => h.elim)⟩
theorem DelAt.skip {w wr : World} {g cap : Nat} {C : List Value} {e : Int} {l : List Un} {i j : Nat} {x : Un} (h : DelAt w wr g cap C e l i j) (hx : l[j]? = some x) (ht : toE e x = true) : DelAt w wr g cap C e l i (j + 1) := by
  obtain ⟨R, h1, h2, h3, h4, h5, h6⟩ := h
  have hk : keep e (l.take (j + 1)) = keep e (l.take j) := by rw [keep_snoc hx, ht]; simp
  refine ⟨R, h1, h2, by rw [hk]; exact h3, by rw [hk]; exact h4, ?_, h6⟩
  have := congrArg (List.drop 5) h5
  rw [List.drop_drop, List.drop_drop] at this
  rw [show (j + 1) * 5 = j * 5 + 5 by omega]
  exact this
theorem DelAt.put {w wr : World} {g cap : Nat} {C : List Value} {e : Int} {l : List Un} {i j : Nat} {x : Un} (h : DelAt w wr g cap C e l i j) (hx : l[j]? = some x) (ht : toE e x = false) (hij : i < j) (hjc : j < cap) :
    DelAt w (wr.setCells g (i * 5) (unC x)) g cap C e l (i + 1) (j + 1) := by
  obtain ⟨R, h1, h2, h3, h4, h5, h6⟩ := h
  have hk : keep e (l.take (j + 1)) = keep e (l.take j) ++ [x] := by rw [keep_snoc hx, ht]; simp
  have hs := setCells_row g 68 (unC x) (i * 5) R.toArray wr h1 (by rw [unC_len, List.size_toArray, h2]; omega)
  rw [hs]
  have hl5 : (R.take (i * 5)).length = i * 5 := by rw [List.length_take, h2]; omega
  refine ⟨R.take (i * 5) ++ unC x ++ R.drop (i * 5 + 5), setRow_heap wr g R.toArray _ _ _ h1, ?_, ?_, ?_, ?_, h6.setRow g _ (.inl rfl)⟩
  · rw [List.length_append, List.length_append, hl5, List.length_drop, unC_len, h2]; omega
  · rw [hk, rowC_append, ← h3, List.take_append_of_le_length (by rw [List.length_append, hl5, unC_len]; omega), List.take_of_length_le (by rw [List.length_append, hl5, unC_len]; omega)]
    simp [rowC]
  · rw [hk, List.length_append, ← h4]; rfl
  · have := congrArg (List.drop 5) h5
    rw [List.drop_drop, List.drop_drop] at this
    rw [List.drop_append, List.drop_of_length_le (by rw [List.length_append, hl5, unC_len]; omega), List.nil_append, List.length_append, hl5, unC_len, List.drop_drop, show i * 5 + 5 + ((j + 1) * 5 - (i * 5 + 5)) = j * 5 + 5 by omega, show (j + 1) * 5 = j * 5 + 5 by omega]
    exact this
theorem DelAt.at_ {w wr : World} {g cap : Nat} {C : List Value} {e : Int} {l : List Un} {i j n : Nat} {x : Un} (h : DelAt w wr g cap C e l i j) (hC : C.take (n * 5) = rowC unC l) (hx : l[j]? = some x) : UnAt wr g j x := by
  obtain ⟨R, h1, h2, h3, h4, h5, h6⟩ := h
  have key : ∀ k v, (unC x)[k]? = some v → wr.cell? ⟨g, j * 5 + k, none⟩ = some v := fun k v hv => by
    have hr := rowC_at unC 5 unC_len l j k x v hx hv
    rw [← hC, List.getElem?_take] at hr
    split at hr
    · rw [cell_of_row wr g _ _ _ _ h1, List.getElem?_toArray]
      have := congrArg (fun t => t[k]?) h5
      simp only [List.getElem?_drop] at this
      rw [this]
      exact hr
    · cases hr
  exact ⟨key 0 _ rfl, key 1 _ rfl, key 2 _ rfl, key 3 _ rfl, key 4 _ rfl⟩
theorem DelAt.some_ {w wr : World} {g cap : Nat} {C : List Value} {e : Int} {l : List Un} {i j k : Nat} (h : DelAt w wr g cap C e l i j) (hk : k < cap * 5) : (∃ u, wr.cell? ⟨g, k, none⟩ = some u) ∧ wr.frozen? ⟨g, k, none⟩ = false := by
  obtain ⟨R, h1, h2, _⟩ := h
  refine ⟨⟨R[k], ?_⟩, frozen_of_row wr g k _ _ h1⟩
  rw [cell_of_row wr g _ _ _ _ h1, List.getElem?_toArray, List.getElem?_eq_getElem (by omega)]
theorem DelAt.end_ {w wr : World} {g cap : Nat} {C : List Value} {e : Int} {l : List Un} {i n : Nat} (h : DelAt w wr g cap C e l i n) (hn : l.length = n) (hin : i < n) (hnc : n ≤ cap) (hcm : cap ≤ maxLen) :
    ∃ w2, (∀ ty c, (Builtin.clear_ #[54] ty #[.slice (some ⟨g, i * 5, none⟩) (n - i) c]).run Tryd.prog wr = .ok (.tuple #[]) w2) ∧ w2.ownsRow 0 68 5 (.slice (some ⟨g, 0, none⟩) i cap) i (rowC unC (keep e l)) ∧ Only (fun k => k = g) w w2 ∧ i = (keep e l).length := by
  obtain ⟨R, h1, h2, h3, h4, h5, h6⟩ := h
  rw [show l.take n = l from List.take_of_length_le (by omega)] at h3 h4
  obtain ⟨i0, hi, hz0, hz1, hz2⟩ := info_parts info_one
  have hl5 : (R.take (i * 5)).length = i * 5 := by rw [List.length_take, h2]; omega
  refine ⟨_, fun ty c => run_clear_k wr 54 ty 68 g (i * 5) (n - i) c 5 (.agg #[.int .i64 0, .int .i64 0, .int .i64 0, .int .i64 0, .string ByteArray.empty]) R.toArray 68 Tryd.underlying54 (by rw [hi]; simp [hz0]) rfl (by decide) (by omega) h1 (by rw [List.size_toArray, h2]; omega), ⟨by rw [rowC_length unC 5 unC_len, h4], .inr ⟨g, cap, _, rfl, Nat.zero_le _, setRow_heap wr g R.toArray _ _ _ h1, by omega, hcm, ?_, ?_⟩⟩, h6.setRow g _ (.inl rfl), h4⟩
  · rw [List.size_toArray, List.length_append, List.length_append, hl5, Array.length_toList (xs := Builtin.zeroCells _ _), size_zeroCells, List.length_drop, h2]
    have : (Value.agg #[.int .i64 0, .int .i64 0, .int .i64 0, .int .i64 0, .string ByteArray.empty]).cells.size = 5 := rfl
    rw [this]
    omega
  · show List.take _ (R.take (i * 5) ++ _ ++ _) = _
    rw [List.append_assoc, List.take_append_of_le_length (by omega), List.take_of_length_le (by omega), h3]
def DelIs (e : Int) (l : List Un) (wv : Value) (w : World) (en : Ending) (w' : World) : Prop :=
  ∃ a c, en = .returned (.slice a (keep e l).length c) ∧ w'.ownsRow 0 68 5 (.slice a (keep e l).length c) (keep e l).length (rowC unC (keep e l)) ∧ Only (fun i => wv.ownBlock = some i) w w' ∧ (Value.slice a (keep e l).length c).ownBlock = wv.ownBlock
set_option maxHeartbeats 4000000 in
set_option maxRecDepth 100000 in
theorem DeleteF_any (e : Int) (cb : Nat) (l : List Un) (wv : Value) (w : World) (h : w.ownsRow 0 68 5 wv l.length (rowC unC l)) (hn : l.length ≤ 4096) (hcb : w.heap[cb]? = some (.cells #[.int .i64 e] 3 (0, 0))) :
    Calls Tryd.prog 31 #[wv, .func (.func 32) #[] #[.pointer (some ⟨cb, 0, none⟩)]] w (DelIs e l wv w) := by
  have hc : w.cell? ⟨cb, 0, none⟩ = some (.int .i64 e) := by rw [cell_of_row w cb 0 _ _ _ hcb]; rfl
  have HIX := Lib.hid (IndexF_any e cb l wv w h hn hc)
  by_cases hall : ∀ x ∈ l, toE e x = false
  · have hk : keep e l = l := List.filter_eq_self.2 (fun x hx => by rw [hall x hx]; rfl)
    rw [idx_none hall] at HIX
    have HOWN := Lib.hid h
    unfold DelIs
    rw [hk]
    obtain ⟨a, cap, rfl, hcap, hcm, hv⟩ := way_view h
    obtain ⟨n, hnn⟩ : ∃ n, l.length = n := ⟨_, rfl⟩
    rw [hnn] at HIX HOWN ⊢
    clear h hv hall hk hcb hc hcap hcm
    go_enter Tryd.func31, Tryd.ntmps31
    go_wp2_with fail
    refine HIX.out.mono ?_; rintro en w1 ⟨rfl, hb⟩
    have HB := Lib.hid hb
    clear hb
    go_wp2_with fail
    go_ret
    exact ⟨a, cap, rfl, ownsRow_keep (S := fun _ => False) HOWN.out (Only.of_below HB.out) (fun _ _ h => h), Only.of_below HB.out, rfl⟩
  · obtain ⟨i0, x0, hx0, ht0, hp0⟩ : ∃ i x, l[i]? = some x ∧ toE e x = true ∧ ∀ y ∈ l.take i, toE e y = false := by
      have hne : l.findIdx? (toE e) ≠ none := fun hh => hall (fun x hx => by
        have := List.findIdx?_eq_none_iff.1 hh x hx
        simpa using this)
      obtain ⟨i, hi⟩ := Option.ne_none_iff_exists'.1 hne
      obtain ⟨hlt, h1, h2⟩ := List.findIdx?_eq_some_iff_getElem.1 hi
      refine ⟨i, l[i], List.getElem?_eq_getElem hlt, h1, fun y hy => ?_⟩
      obtain ⟨j, hj, rfl⟩ := List.mem_take_iff_getElem.1 hy
      have := h2 j (by omega)
      simpa using this
    rw [idx_some hx0 ht0 hp0] at HIX
    obtain ⟨g, cap, cur, rfl, hg, hcap, hcm, hcs, htake⟩ : ∃ g cap cur, wv = .slice (some ⟨g, 0, none⟩) l.length cap ∧ w.heap[g]? = some (.cells cur 68 (0, 0)) ∧ l.length ≤ cap ∧ cap ≤ maxLen ∧ cur.size = cap * 5 ∧ cur.toList.take (l.length * 5) = rowC unC l := by
      rcases h.2 with ⟨_, h0⟩ | ⟨g, cap, cur, h1, _, h3⟩
      · have := (List.getElem?_eq_some_iff.1 hx0).1
        omega
      · exact ⟨g, cap, cur, h1, h3⟩
    have hi0 : i0 < l.length := (List.getElem?_eq_some_iff.1 hx0).1
    have hk0 : keep e (l.take i0) = l.take i0 := List.filter_eq_self.2 (fun x hx => by rw [hp0 x hx]; rfl)
    have hcg : cb ≠ g := heap_ne hcb hg (by decide)
    have hD0 : DelAt w w g cap cur.toList e l i0 (i0 + 1) := by
      have : DelAt w w g cap cur.toList e l i0 i0 := ⟨cur.toList, by rw [Array.toArray_toList]; exact hg, by rw [Array.length_toList, hcs], by
        rw [hk0, ← rowC_take unC 5 unC_len, ← htake, List.take_take]
        congr 1
        omega, by rw [hk0, List.length_take]; omega, rfl, Only.refl _ _⟩
      exact this.skip hx0 ht0
    have HD0 := Lib.hid hD0
    have HTAKE := Lib.hid htake
    have HCB := Lib.hid hcb
    obtain ⟨n, hnn⟩ : ∃ n, l.length = n := ⟨_, rfl⟩
    have HN := Lib.hid hnn
    rw [hnn] at hcap hn hi0 HIX HTAKE
    rw [hnn]
    unfold maxLen at hcm
    have hne1 : ((i0 : Int) == -1) = false := beq_eq_false_iff_ne.2 (by omega)
    clear h hall hx0 ht0 hp0 hg hcs htake hk0 hD0 hcb hc hnn
    go_enter Tryd.func31, Tryd.ntmps31
    go_wp2_with fail
    refine HIX.out.mono ?_; rintro en w1 ⟨rfl, hb⟩
    have HD1 := Lib.hid (HD0.out.below hb)
    clear hb
    go_wp2_with fail
    go_loopw [5, 6] (fun i j wr => ∃ i' j' : Nat, i' < j' ∧ j' ≤ n ∧ i = .int .i64 i' ∧ j = .int .i64 j' ∧ Hid (DelAt w wr g cap cur.toList e l i' j')) (fun _ j _ => n - (intOf j).toNat)
    case atStart => exact ⟨i0, i0 + 1, by omega, by omega, rfl, by go_num, HD1⟩
    case round =>
      obtain ⟨i, j, hij, hjn, rfl, rfl, HD⟩ := hrel
      by_cases hlt : j < n
      · obtain ⟨x, hx⟩ : ∃ x, l[j]? = some x := ⟨_, List.getElem?_eq_getElem (by have := HN.out; omega)⟩
        have HX := Lib.hid hx
        obtain ⟨c0, c1, c2, c3, c4⟩ := HD.out.at_ HTAKE.out hx
        have hcc : wr.cell? ⟨cb, 0, none⟩ = some (.int .i64 e) := by
          obtain ⟨_, _, _, _, _, _, hO⟩ := HD.out
          have := hO.heap HCB.out hcg
          rw [cell_of_row wr cb 0 _ _ _ this]; rfl
        obtain ⟨x1, x2, x3, x4, x5⟩ := x
        have hjn2 : (j : Int) < (n : Int) := by omega
        obtain ⟨Wb, hWb⟩ : ∃ W, wr.alloc (.cells #[.int .i64 x1, .int .i64 x2, .int .i64 x3, .int .i64 x4, .string x5] 68) = W := ⟨_, rfl⟩
        have hBb : Below wr.heap.size wr Wb := by rw [← hWb]; exact (Below.refl _ _).alloc (Nat.le_refl _) _
        have hccb := (hBb.cell (p := ⟨cb, 0, none⟩) (World.block_lt_of_cell? wr _ hcc)).trans hcc
        have HI := Lib.hid (isTo_any (x1, x2, x3, x4, x5) e cb Wb hccb)
        obtain ⟨xb, hxb⟩ : ∃ b, wr.heap.size = b := ⟨_, rfl⟩
        have hq : ∀ i v, (#[.int .i64 x1, .int .i64 x2, .int .i64 x3, .int .i64 x4, .string x5] : Array Value)[i]? = some v → Wb.cell? ⟨xb, i, none⟩ = some v := fun i v h => by rw [← hWb, ← hxb, World.cell?_alloc_mark]; exact h
        have HQ : Hid (Wb.cell? ⟨xb, 0, none⟩ = some (.int .i64 x1) ∧ Wb.cell? ⟨xb, 1, none⟩ = some (.int .i64 x2) ∧ Wb.cell? ⟨xb, 2, none⟩ = some (.int .i64 x3) ∧ Wb.cell? ⟨xb, 3, none⟩ = some (.int .i64 x4) ∧ Wb.cell? ⟨xb, 4, none⟩ = some (.string x5)) := Lib.hid ⟨hq 0 _ rfl, hq 1 _ rfl, hq 2 _ rfl, hq 3 _ rfl, hq 4 _ rfl⟩
        have HDB := Lib.hid (HD.out.below hBb)
        simp only [oneV] at HI c0 c1 c2 c3 c4
        clear hx hcc hBb hccb hq
        go_upto_region 8 with fail
        try rw [hWb]
        try simp only [hxb]
        obtain ⟨d0, d1, d2, d3, d4⟩ := HQ.out
        clear c0 c1 c2 c3 c4 hWb hxb
        cases ht : toE e (x1, x2, x3, x4, x5) with
        | true =>
          have HT := Lib.hid ht
          rw [ht] at HI
          clear ht
          go_wp2_with fail
          refine HI.out.mono ?_; rintro en w2 ⟨rfl, hb⟩
          have HD2 := Lib.hid ((HDB.out.below hb).skip HX.out HT.out)
          clear hb
          go_wp2_with fail
          go_roundw
          case rel => exact ⟨i, j + 1, by omega, by omega, rfl, by go_num, HD2⟩
          case measure => simp [intOf]; omega
        | false =>
          have HT := Lib.hid ht
          rw [ht] at HI
          clear ht
          go_wp2_with fail
          refine HI.out.mono ?_; rintro en w2 ⟨rfl, hb⟩
          have HD2 := Lib.hid (HDB.out.below hb)
          have hxl := World.block_lt_of_cell? Wb _ d0
          have b0 := (hb.cell (p := ⟨xb, 0, none⟩) hxl).trans d0
          have b1 := (hb.cell (p := ⟨xb, 1, none⟩) hxl).trans d1
          have b2 := (hb.cell (p := ⟨xb, 2, none⟩) hxl).trans d2
          have b3 := (hb.cell (p := ⟨xb, 3, none⟩) hxl).trans d3
          have b4 := (hb.cell (p := ⟨xb, 4, none⟩) hxl).trans d4
          obtain ⟨⟨u0, e0⟩, f0⟩ := HD2.out.some_ (k := i * 5) (by omega)
          obtain ⟨⟨u1, e1⟩, f1⟩ := HD2.out.some_ (k := i * 5 + 1) (by omega)
          obtain ⟨⟨u2, e2⟩, f2⟩ := HD2.out.some_ (k := i * 5 + 2) (by omega)
          obtain ⟨⟨u3, e3⟩, f3⟩ := HD2.out.some_ (k := i * 5 + 3) (by omega)
          obtain ⟨⟨u4', e4⟩, f4⟩ := HD2.out.some_ (k := i * 5 + 4) (by omega)
          have HD3 := Lib.hid (HD2.out.put HX.out HT.out hij (by omega))
          simp only [unC, World.setCells] at HD3
          have hin : (i : Int) < (n : Int) := by omega
          clear hb hxl d0 d1 d2 d3 d4
          go_wp2_with fail
          go_roundw
          case rel => exact ⟨i + 1, j + 1, by omega, by omega, by go_num, by go_num, HD3⟩
          case measure => simp [intOf]; omega
      · obtain rfl : j = n := by omega
        obtain ⟨w2, hcl, hown, hO, hik⟩ := HD.out.end_ HN.out hij hcap (by unfold maxLen; exact hcm)
        have HCL := Lib.hid hcl
        have HE : Hid (DelIs e l (.slice (some ⟨g, 0, none⟩) j cap) w (.returned (.slice (some ⟨g, 0, none⟩) i cap)) w2) := Lib.hid (by
          unfold DelIs
          rw [← hik]
          exact ⟨some ⟨g, 0, none⟩, cap, rfl, hown, hO.mono (fun k hk => .inl (by rw [hk]; rfl)), rfl⟩)
        have hic : ¬ cap = i := by omega
        have hin : (i : Int) ≤ (j : Int) := by omega
        have hin2 : (i : Int) ≤ (cap : Int) := by omega
        clear hcl hown hO hik
        go_upto_region 11 with fail
        go_wp2_with (refine wpList_clear_run rfl _ 54 rfl (.slice (some ⟨g, i * 5, none⟩) (j - i) (cap - i)) rfl (HCL.out _ _) ?_)
        go_ret
        exact HE.out
end Go.Proofs.YtbmlgnmilolamaaDoor
