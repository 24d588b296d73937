/-
  'same': two lists of packets, the first overwritten. No statement is proved here.
-/
import Derived.Test.YtbmlgnmilolamaaDoorRefE
namespace Go.Proofs.YtbmlgnmilolamaaDoor
open Go.RowKit
theorem run_eql_packet (w : World) (x y : Pk) : (binOp .eql 31 (.agg #[.int .i64 x.1, .int .i64 x.2.1, .string x.2.2]) (.agg #[.int .i64 y.1, .int .i64 y.2.1, .string y.2.2])).run Tryd.prog w = .ok (.bool (decide (x = y))) w := by
  obtain ⟨x1, x2, x3⟩ := x
  obtain ⟨y1, y2, y3⟩ := y
  rw [run_eql_struct, run_equalIn_agg _ _ _ _ _ (by kernel_rfl) (by kernel_rfl)]
  have h3 : Tryd.prog.underlying 3 = some (.int .i64) := by kernel_rfl
  have h9 : Tryd.prog.underlying 9 = some .string := by kernel_rfl
  have hfl : (Tryd.prog.fieldsOf 31).toList.map (fun f => (decide (f.name = "_"), f.type, f.offset)) = [(false, 3, 0), (false, 3, 1), (false, 9, 2)] := by kernel_rfl
  match hfs : (Tryd.prog.fieldsOf 31).toList, hfl with
  | [f1, f2, f3], h =>
    simp only [List.map_cons, List.map_nil, List.cons.injEq, Prod.mk.injEq, decide_eq_false_iff_not, and_true] at h
    obtain ⟨⟨n1, t1, o1⟩, ⟨n2, t2, o2⟩, n3, t3, o3⟩ := h
    simp [Op.eqFields, n1, n2, n3, t1, t2, t3, o1, o2, o3, go_sem, h3, h9]
    have e3 : x3.toList = y3.toList ↔ x3 = y3 := by
      rw [ByteArray.toList_eq, ByteArray.toList_eq]
      constructor
      · intro h
        cases x3; cases y3
        simp only [ByteArray.mk.injEq]
        exact Array.toList_inj.1 h
      · rintro rfl
        rfl
    by_cases h1 : x1 = y1 <;> by_cases h2 : x2 = y2 <;> by_cases h3 : x3 = y3 <;> simp [h1, h2, h3, e3]
  | [], h => simp at h
  | [_], h => simp at h
  | [_, _], h => simp at h
  | _ :: _ :: _ :: _ :: _, h => simp at h
theorem run_neq_packet (w : World) (x y : Pk) : (binOp .neq 31 (.agg #[.int .i64 x.1, .int .i64 x.2.1, .string x.2.2]) (.agg #[.int .i64 y.1, .int .i64 y.2.1, .string y.2.2])).run Tryd.prog w = .ok (.bool (!decide (x = y))) w := by
  have h := run_eql_packet w x y
  rw [run_eql_struct] at h
  rw [run_neq_struct]
  revert h
  generalize (Op.equalIn 10000 31 _ _).run Tryd.prog w = r
  intro h
  cases r with
  | ok b w2 =>
    simp only [Result.andThen_ok] at h ⊢
    injection h with h1 h2
    injection h1 with h1
    rw [h1, h2]
  | halt x w2 => simp [Result.andThen] at h
structure PaAt (w : World) (g j : Nat) (x : Pk) : Prop where
  c0 : w.cell? ⟨g, j * 3, none⟩ = some (.int .i64 x.1)
  c1 : w.cell? ⟨g, j * 3 + 1, none⟩ = some (.int .i64 x.2.1)
  c2 : w.cell? ⟨g, j * 3 + 2, none⟩ = some (.string x.2.2)
theorem PaAt.only {S : Nat → Prop} {w w' : World} {g j : Nat} {x : Pk} (h : PaAt w g j x) (ho : Only S w w') (hS : ¬ S g) : PaAt w' g j x := ⟨ho.cell h.c0 hS, ho.cell h.c1 hS, ho.cell h.c2 hS⟩
theorem pk_view {w : World} {B : Nat} {l : List Pk} {v : Value} (h : PkRow w B v l) :
    ∃ a cap, v = .slice a l.length cap ∧ l.length ≤ cap ∧ (0 < l.length → ∃ g cs, a = some ⟨g, 0, none⟩ ∧ w.heap[g]? = some (.cells cs 31 (0, 0)) ∧ l.length * 3 ≤ cs.size ∧ ∀ j y, l[j]? = some y → PaAt w g j y) := by
  rcases h.2 with ⟨rfl, h0⟩ | ⟨g, cap, cur, rfl, _, hg, h1, h2, h3, htake⟩
  · exact ⟨none, 0, by rw [h0], by omega, fun h => by omega⟩
  · refine ⟨some ⟨g, 0, none⟩, cap, rfl, h1, fun _ => ⟨g, cur, rfl, hg, by rw [h3]; exact Nat.mul_le_mul_right _ h1, fun j y hy => ?_⟩⟩
    have key : ∀ i v, (pkC y)[i]? = some v → w.cell? ⟨g, j * 3 + i, none⟩ = some v := fun i v hv => by
      have hr := rowC_at pkC 3 pkC_len l j i y v hy hv
      have hlt : j * 3 + i < l.length * 3 := by
        have := (List.getElem?_eq_some_iff.1 hr).1
        rw [rowC_length pkC 3 pkC_len] at this
        exact this
      rw [cell_of_row w g _ cur _ _ hg, ← Array.getElem?_toList]
      rw [← htake, List.getElem?_take, if_pos hlt] at hr
      exact hr
    exact ⟨key 0 _ rfl, key 1 _ rfl, key 2 _ rfl⟩
set_option maxHeartbeats 4000000 in
set_option maxRecDepth 100000 in
theorem same_any (la lb : List Pk) (B C : Nat) (va vb : Value) (w : World) (ha : PkRow w B va la) (hb : PkRow w C vb lb) (hne : ∀ g, va.ownBlock = some g → vb.ownBlock ≠ some g) (hn : la.length ≤ 5000) :
    Calls Tryd.prog 37 #[va, vb] w fun e w' => e = .returned (.bool (decide (la = lb))) ∧ Only (fun k => va.ownBlock = some k) w w' := by
  obtain ⟨aa, ca, rfl, hac, hav⟩ := pk_view ha
  obtain ⟨ab, cb, rfl, hbc, hbv⟩ := pk_view hb
  have HAV := Lib.hid hav
  have HBV := Lib.hid hbv
  have HNE := Lib.hid hne
  by_cases hl : la.length = lb.length
  · obtain ⟨n, hln⟩ : ∃ n, lb.length = n := ⟨_, rfl⟩
    rw [hln] at hl
    have HLA := Lib.hid hl
    have HLB := Lib.hid hln
    rw [hl] at hn hac ⊢
    rw [hln] at hbc ⊢
    clear ha hb hav hbv hne hl hln
    go_enter Tryd.func37, Tryd.ntmps37
    go_wp2_with fail
    go_loopw [5, 6] (fun ok i wr => ∃ j : Nat, j ≤ n ∧ i = .int .i64 j ∧ (∃ t : Bool, ok = .bool t ∧ Hid (t = decide (la.take j = lb.take j))) ∧ Hid (∀ g, aa = some ⟨g, 0, none⟩ → 0 < n → ∃ cs, wr.heap[g]? = some (.cells cs 31 (0, 0)) ∧ n * 3 ≤ cs.size) ∧ Hid (Only (fun k => (Value.slice aa la.length ca).ownBlock = some k) w wr) ∧ Hid (∀ g, aa = some ⟨g, 0, none⟩ → ∀ i x, j ≤ i → la[i]? = some x → PaAt wr g i x)) (fun _ i _ => n - (intOf i).toNat)
    case atStart => exact ⟨0, Nat.zero_le _, rfl, ⟨true, rfl, Lib.hid (by simp)⟩, Lib.hid (fun g hg h0 => by
        obtain ⟨g2, cs, h1, h2, h3, _⟩ := HAV.out (by have := HLA.out; omega)
        rw [hg] at h1
        injection h1 with h1
        injection h1 with h1
        subst h1
        exact ⟨cs, h2, by have := HLA.out; omega⟩), Lib.hid (Only.refl _ _), Lib.hid (fun g hg i x _ hx => by
        obtain ⟨g2, _, h1, _, _, h4⟩ := HAV.out (by have := (List.getElem?_eq_some_iff.1 hx).1; omega)
        rw [hg] at h1
        injection h1 with h1
        injection h1 with h1
        subst h1
        exact h4 i x hx)⟩
    case round =>
      obtain ⟨j, hj, rfl, ⟨t, rfl, HT⟩, HG, HO, HP⟩ := hrel
      by_cases hlt : j < n
      · obtain ⟨g, cs, rfl, _, _, _⟩ := HAV.out (by have := HLA.out; omega)
        obtain ⟨g2, _, rfl, _, _, hg2⟩ := HBV.out (by have := HLB.out; omega)
        obtain ⟨x, hx⟩ : ∃ x, la[j]? = some x := ⟨_, List.getElem?_eq_getElem (by have := HLA.out; omega)⟩
        obtain ⟨y, hy⟩ : ∃ y, lb[j]? = some y := ⟨_, List.getElem?_eq_getElem (by have := HLB.out; omega)⟩
        have hxa := HP.out g rfl j x (Nat.le_refl _) hx
        have hya := (hg2 j y hy).only HO.out (fun h => HNE.out g2 h rfl)
        have HX := Lib.hid hx
        have HY := Lib.hid hy
        obtain ⟨x1, x2, x3⟩ := x
        obtain ⟨y1, y2, y3⟩ := y
        have HXA := Lib.hid hxa
        obtain ⟨a0, a1, a2⟩ := hxa
        obtain ⟨b0, b1, b2⟩ := hya
        simp only at a0 a1 a2 b0 b1 b2
        have hjn : (j : Int) < (n : Int) := by omega
        have m0 := bof_cell a0
        have m1 := bof_cell a1
        have m2 := bof_cell a2
        have k0 := bof_cell b0
        have k1 := bof_cell b1
        have k2 := bof_cell b2
        have HSTEP : Hid (∀ W3, (∃ p : BOf wr, W3 = p.W) → W3.cell? ⟨g, j * 3, none⟩ = some (.int .i64 x1) ∧ W3.cell? ⟨g, j * 3 + 1, none⟩ = some (.int .i64 x2) ∧ W3.cell? ⟨g, j * 3 + 2, none⟩ = some (.string x3) ∧
            W3.frozen? ⟨g, j * 3, none⟩ = false ∧ W3.frozen? ⟨g, j * 3 + 1, none⟩ = false ∧ W3.frozen? ⟨g, j * 3 + 2, none⟩ = false ∧
            Hid ((∀ g', some (⟨g, 0, none⟩ : Addr) = some ⟨g', 0, none⟩ → 0 < n → ∃ cs, (((W3.setCell ⟨g, j * 3, none⟩ (.int .i64 77)).setCell ⟨g, j * 3 + 1, none⟩ (.int .i64 0)).setCell ⟨g, j * 3 + 2, none⟩ (.string ⟨#[]⟩)).heap[g']? = some (.cells cs 31 (0, 0)) ∧ n * 3 ≤ cs.size) ∧
              Only (fun k => (Value.slice (some ⟨g, 0, none⟩) la.length ca).ownBlock = some k) w (((W3.setCell ⟨g, j * 3, none⟩ (.int .i64 77)).setCell ⟨g, j * 3 + 1, none⟩ (.int .i64 0)).setCell ⟨g, j * 3 + 2, none⟩ (.string ⟨#[]⟩)) ∧
              (∀ g', some (⟨g, 0, none⟩ : Addr) = some ⟨g', 0, none⟩ → ∀ i x, j + 1 ≤ i → la[i]? = some x → PaAt (((W3.setCell ⟨g, j * 3, none⟩ (.int .i64 77)).setCell ⟨g, j * 3 + 1, none⟩ (.int .i64 0)).setCell ⟨g, j * 3 + 2, none⟩ (.string ⟨#[]⟩)) g' i x))) := Lib.hid (fun W3 hw => by
          have hb := bof_below hw
          obtain ⟨cs, hcs, hsz⟩ := HG.out g rfl (by omega)
          have hgl : g < wr.heap.size := (Array.getElem?_eq_some_iff.1 hcs).1
          have hcs3 := (hb.block g hgl).trans hcs
          have fr := fun i => frozen_of_row W3 g i _ _ hcs3
          refine ⟨(hb.cell (p := ⟨g, j * 3, none⟩) hgl).trans a0, (hb.cell (p := ⟨g, j * 3 + 1, none⟩) hgl).trans a1, (hb.cell (p := ⟨g, j * 3 + 2, none⟩) hgl).trans a2, fr _, fr _, fr _, Lib.hid ⟨?_, ?_, ?_⟩⟩
          · rintro g' h _
            injection h with h
            injection h with h
            subst h
            refine ⟨_, heap_setCell_same _ _ _ _ _ _ (heap_setCell_same _ _ _ _ _ _ (heap_setCell_same _ _ _ _ _ _ hcs3)), ?_⟩
            simp only [Array.size_setIfInBounds]
            exact hsz
          · have hS : (Value.slice (some ⟨g, 0, none⟩) la.length ca).ownBlock = some g := rfl
            exact Only.setCell (S := fun k => (Value.slice (some ⟨g, 0, none⟩) la.length ca).ownBlock = some k) (Only.setCell (S := fun k => (Value.slice (some ⟨g, 0, none⟩) la.length ca).ownBlock = some k) (Only.setCell (S := fun k => (Value.slice (some ⟨g, 0, none⟩) la.length ca).ownBlock = some k) (HO.out.next (Only.of_below hb)) ⟨g, j * 3, none⟩ (.int .i64 77) (.inl hS)) ⟨g, j * 3 + 1, none⟩ (.int .i64 0) (.inl hS)) ⟨g, j * 3 + 2, none⟩ (.string ⟨#[]⟩) (.inl hS)
          · rintro g' h i x hi hx
            injection h with h
            injection h with h
            subst h
            obtain ⟨d0, d1, d2⟩ := (HP.out g rfl i x (by omega) hx).only (S := fun _ => False) (Only.of_below hb) (fun h => h)
            refine ⟨?_, ?_, ?_⟩
            · rw [World.cell?_setCell_other _ _ _ _ (by simp <;> omega), World.cell?_setCell_other _ _ _ _ (by simp <;> omega), World.cell?_setCell_other _ _ _ _ (by simp <;> omega)]
              exact d0
            · rw [World.cell?_setCell_other _ _ _ _ (by simp <;> omega), World.cell?_setCell_other _ _ _ _ (by simp <;> omega), World.cell?_setCell_other _ _ _ _ (by simp <;> omega)]
              exact d1
            · rw [World.cell?_setCell_other _ _ _ _ (by simp <;> omega), World.cell?_setCell_other _ _ _ _ (by simp <;> omega), World.cell?_setCell_other _ _ _ _ (by simp <;> omega)]
              exact d2)
        have HTK : Hid (∀ b : Bool, b = (t && decide (((x1, x2, x3) : Pk) = (y1, y2, y3))) → b = decide (la.take (j + 1) = lb.take (j + 1))) := Lib.hid (fun b hb => by
          rw [hb, HT.out, List.take_add_one, List.take_add_one, HX.out, HY.out, Option.toList_some, Option.toList_some]
          have hiff : (la.take j ++ [((x1, x2, x3) : Pk)] = lb.take j ++ [(y1, y2, y3)]) ↔ (la.take j = lb.take j ∧ ((x1, x2, x3) : Pk) = (y1, y2, y3)) := by
            constructor
            · intro h
              have := List.append_inj' h rfl
              exact ⟨this.1, by simpa using this.2⟩
            · rintro ⟨h1, h2⟩
              rw [h1, h2]
          rw [decide_eq_decide.2 hiff, Bool.decide_and])
        clear hg2 hx hy a0 a1 a2 b0 b1 b2
        cases t with
        | true =>
          by_cases hxy : ((x1, x2, x3) : Pk) = (y1, y2, y3)
          · have hT := HTK.out true (by rw [decide_eq_true hxy]; rfl)
            have HT2 := Lib.hid hT
            have q := fun W => run_eql_packet W (x1, x2, x3) (y1, y2, y3)
            rw [decide_eq_true hxy] at q
            simp only at q
            clear hT hxy
            go_upto_region 7 with fail
            refine wp_region_bof (by kernel_rfl) (by kernel_rfl) ?_
            repeat (go_big_quiet_step (fail))
            refine wpQuiet_nil ?_
            intro W3 hw'
            obtain ⟨a0, a1, a2, f0, f1, f2, HZ⟩ := HSTEP.out W3 hw'
            clear m0 m1 m2 k0 k1 k2 hw' q
            go_wp2_with fail
            go_roundw
            case rel => exact ⟨j + 1, by omega, by go_num, ⟨true, rfl, HT2⟩, Lib.hid HZ.out.1, Lib.hid HZ.out.2.1, Lib.hid HZ.out.2.2⟩
            case measure => simp [intOf]; omega
          · have hT := HTK.out false (by rw [decide_eq_false hxy]; rfl)
            have HT2 := Lib.hid hT
            have q := fun W => run_eql_packet W (x1, x2, x3) (y1, y2, y3)
            rw [decide_eq_false hxy] at q
            simp only at q
            clear hT hxy
            go_upto_region 7 with fail
            refine wp_region_bof (by kernel_rfl) (by kernel_rfl) ?_
            repeat (go_big_quiet_step (fail))
            refine wpQuiet_nil ?_
            intro W3 hw'
            obtain ⟨a0, a1, a2, f0, f1, f2, HZ⟩ := HSTEP.out W3 hw'
            clear m0 m1 m2 k0 k1 k2 hw' q
            go_wp2_with fail
            go_roundw
            case rel => exact ⟨j + 1, by omega, by go_num, ⟨false, rfl, HT2⟩, Lib.hid HZ.out.1, Lib.hid HZ.out.2.1, Lib.hid HZ.out.2.2⟩
            case measure => simp [intOf]; omega
        | false =>
          have hT := HTK.out false rfl
          have HT2 := Lib.hid hT
          clear hT
          go_upto_region 7 with fail
          refine wp_region_bof (by kernel_rfl) (by kernel_rfl) ?_
          repeat (go_big_quiet_step (fail))
          refine wpQuiet_nil ?_
          intro W3 hw'
          obtain ⟨a0, a1, a2, f0, f1, f2, HZ⟩ := HSTEP.out W3 hw'
          clear m0 m1 m2 k0 k1 k2 hw'
          go_wp2_with fail
          go_roundw
          case rel => exact ⟨j + 1, by omega, by go_num, ⟨false, rfl, HT2⟩, Lib.hid HZ.out.1, Lib.hid HZ.out.2.1, Lib.hid HZ.out.2.2⟩
          case measure => simp [intOf]; omega
      · obtain rfl : j = n := by omega
        have ht : t = decide (la = lb) := by rw [HT.out, List.take_of_length_le (by have := HLA.out; omega), List.take_of_length_le (by have := HLB.out; omega)]
        have HT2 := Lib.hid ht
        clear ht
        go_wp2_with fail
        go_ret
        exact ⟨by rw [HT2.out]; rfl, by have := HO.out; rw [HLA.out] at this; exact this⟩
  · obtain ⟨n, hln⟩ : ∃ n, la.length = n := ⟨_, rfl⟩
    obtain ⟨m, hlm⟩ : ∃ n, lb.length = n := ⟨_, rfl⟩
    have hlm2 : ((n : Int) == (m : Int)) = false := beq_eq_false_iff_ne.2 (by omega)
    have hnm : ¬ ((n : Int) = (m : Int)) := by omega
    have HF : Hid (decide (la = lb) = false) := Lib.hid (decide_eq_false (fun h => hl (by rw [h])))
    rw [hln, hlm]
    clear ha hb hav hbv hne hl hln hlm hac hbc hn HAV HBV HNE
    go_enter Tryd.func37, Tryd.ntmps37
    go_wp2_with fail
    go_ret
    exact ⟨by rw [HF.out]; rfl, Only.refl _ _⟩
end Go.Proofs.YtbmlgnmilolamaaDoor
