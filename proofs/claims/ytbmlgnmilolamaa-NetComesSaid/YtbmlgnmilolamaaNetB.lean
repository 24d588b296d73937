/-
  The search for a place among those under way. No statement is proved here.
-/
import Derived.Test.YtbmlgnmilolamaaNetA
namespace Go.Proofs.Ytbmlgnmilolamaa
open Go.RowKit
/-- One under way, in its cells. -/
structure UnAt (w : World) (g j : Nat) (y : Un) : Prop where
  c0 : w.cell? ⟨g, j * 5, none⟩ = some (.int .i64 y.1)
  c1 : w.cell? ⟨g, j * 5 + 1, none⟩ = some (.int .i64 y.2.1)
  c2 : w.cell? ⟨g, j * 5 + 2, none⟩ = some (.int .i64 y.2.2.1)
  c3 : w.cell? ⟨g, j * 5 + 3, none⟩ = some (.int .i64 y.2.2.2.1)
  c4 : w.cell? ⟨g, j * 5 + 4, none⟩ = some (.string y.2.2.2.2)
theorem UnAt.below {w w' : World} {g j : Nat} {y : Un} (h : UnAt w g j y) (hb : Below w.heap.size w w') : UnAt w' g j y :=
  have hlt := World.block_lt_of_cell? w _ h.c0
  ⟨(hb.cell (p := ⟨g, j * 5, none⟩) hlt).trans h.c0, (hb.cell (p := ⟨g, j * 5 + 1, none⟩) hlt).trans h.c1, (hb.cell (p := ⟨g, j * 5 + 2, none⟩) hlt).trans h.c2, (hb.cell (p := ⟨g, j * 5 + 3, none⟩) hlt).trans h.c3, (hb.cell (p := ⟨g, j * 5 + 4, none⟩) hlt).trans h.c4⟩
theorem way_view {w : World} {l : List Un} {wv : Value} (h : w.ownsRow 0 57 5 wv l.length (rowC unC l)) :
    ∃ a cap, wv = .slice a l.length cap ∧ l.length ≤ cap ∧ cap ≤ maxLen ∧ (0 < l.length → ∃ g, a = some ⟨g, 0, none⟩ ∧ ∀ j y, l[j]? = some y → UnAt w g j y) := by
  rcases h.2 with ⟨rfl, h0⟩ | ⟨g, cap, cur, rfl, _, hg, h1, h2, h3, htake⟩
  · exact ⟨none, 0, by rw [h0], by omega, Nat.zero_le _, fun h => by omega⟩
  · refine ⟨some ⟨g, 0, none⟩, cap, rfl, h1, h2, fun _ => ⟨g, rfl, fun j y hy => ?_⟩⟩
    have key : ∀ i v, (unC y)[i]? = some v → w.cell? ⟨g, j * 5 + i, none⟩ = some v := fun i v hv => by
      have hr := rowC_at unC 5 unC_len l j i y v hy hv
      have hlt : j * 5 + i < l.length * 5 := by
        have := (List.getElem?_eq_some_iff.1 hr).1
        rw [rowC_length unC 5 unC_len] at this
        exact this
      rw [cell_of_row w g _ cur _ _ hg, ← Array.getElem?_toList]
      rw [← htake, List.getElem?_take, if_pos hlt] at hr
      exact hr
    exact ⟨key 0 _ rfl, key 1 _ rfl, key 2 _ rfl, key 3 _ rfl, key 4 _ rfl⟩
/-- Small enough that a difference is one. -/
def Sm (x : Un) : Prop := x.1 < 1152921504606846976 ∧ x.2.1 < 1152921504606846976
def foundK (x : Un) (l : List Un) : Nat := (l.takeWhile (fun y => ahead y x)).length
def foundB (x : Un) (l : List Un) : Bool := match l[foundK x l]? with
  | some y => ordN y x == 0
  | none => false
def FoundIs (x : Un) (l : List Un) (w : World) (e : Ending) (w' : World) : Prop :=
  e = .returned (.tuple #[.int .i64 (foundK x l), .bool (foundB x l)]) ∧ Below w.heap.size w w'
theorem foundK_of {x : Un} {l : List Un} {k : Nat} (hk : k ≤ l.length) (h1 : ∀ y ∈ l.take k, ahead y x = true) (h2 : ∀ y, l[k]? = some y → ahead y x = false) : foundK x l = k := by
  have e : l = l.take k ++ l.drop k := (List.take_append_drop k l).symm
  unfold foundK
  conv => lhs; rw [e]
  rw [List.takeWhile_append_of_pos h1, List.length_append, List.length_take, Nat.min_eq_left hk]
  cases hd : l.drop k with
  | nil => simp
  | cons y r =>
    have : l[k]? = some y := by
      have := congrArg (fun t => t[0]?) hd
      simpa using this
    rw [List.takeWhile_cons, h2 y this]
    simp
theorem foundK_le (x : Un) (l : List Un) : foundK x l ≤ l.length := (List.takeWhile_prefix _).length_le
theorem ins_found (x : Un) (l : List Un) : l.take (foundK x l) ++ x :: l.drop (foundK x l) = ins x l := by
  have h : l.takeWhile (fun y => ahead y x) = l.take (foundK x l) := (List.prefix_iff_eq_take.1 (List.takeWhile_prefix _))
  have h2 : l.dropWhile (fun y => ahead y x) = l.drop (foundK x l) := by
    have h3 := List.takeWhile_append_dropWhile (p := fun y => ahead y x) (l := l)
    have h4 : l.take (foundK x l) ++ l.drop (foundK x l) = l := List.take_append_drop _ _
    rw [h] at h3
    exact List.append_cancel_left (h3.trans h4.symm)
  rw [ins, h, h2]
theorem take_ahead {x y : Un} {l : List Un} {k : Nat} (hs : Sorted l) (hy : l[k]? = some y) (h : ahead y x = true) : ∀ z ∈ l.take (k + 1), ahead z x = true := by
  intro z hz
  have hk := (List.getElem?_eq_some_iff.1 hy).1
  have hky := (List.getElem?_eq_some_iff.1 hy).2
  obtain ⟨i, hi, rfl⟩ := List.mem_iff_getElem.1 hz
  rw [List.getElem_take]
  rw [List.length_take] at hi
  by_cases e : i = k
  · subst e
    rw [hky]
    exact h
  · have := List.pairwise_iff_getElem.1 hs i k (by omega) hk (by omega)
    rw [hky] at this
    exact ahead_trans this h
set_option maxHeartbeats 4000000 in
set_option maxRecDepth 100000 in
theorem Search_any (x : Un) (l : List Un) (wv : Value) (w : World) (h : w.ownsRow 0 57 5 wv l.length (rowC unC l)) (hs : Sorted l) (hx : Sm x) (hl : ∀ y ∈ l, Sm y) (hn : l.length ≤ 4096) :
    Calls Try.prog 19 #[wv, oneV x, .func (.func 20) #[] #[]] w (FoundIs x l w) := by
  obtain ⟨a, cap, rfl, hcap, hcm, hv⟩ := way_view h
  have HV := Lib.hid hv
  have HL := Lib.hid hl
  have HS := Lib.hid hs
  have HX := Lib.hid hx
  obtain ⟨n, hnn⟩ : ∃ n, l.length = n := ⟨_, rfl⟩
  have HN := Lib.hid hnn
  rw [hnn] at hn hcap ⊢
  clear h hv hl hs hx hnn
  unfold maxLen at hcm
  obtain ⟨x1, x2, x3, x4, x5⟩ := x
  obtain ⟨X, hX⟩ : ∃ X : Un, (x1, x2, x3, x4, x5) = X := ⟨_, rfl⟩
  simp only [oneV]
  rw [hX] at HX ⊢
  have HE := Lib.hid hX
  clear hX
  go_enter Try.func19, Try.ntmps19
  go_upto_region 1 with fail
  obtain ⟨W1, hW⟩ : ∃ W, w.alloc (.cells #[.int .i64 x1, .int .i64 x2, .int .i64 x3, .int .i64 x4, .string x5] 57) = W := ⟨_, rfl⟩
  obtain ⟨xb, hxb⟩ : ∃ b, w.heap.size = b := ⟨_, rfl⟩
  have hq : ∀ i v, (#[.int .i64 x1, .int .i64 x2, .int .i64 x3, .int .i64 x4, .string x5] : Array Value)[i]? = some v → W1.cell? ⟨xb, i, none⟩ = some v := fun i v h => by rw [← hW, ← hxb, World.cell?_alloc_mark]; exact h
  have HB1 : Hid (Below w.heap.size w W1) := Lib.hid (by rw [← hW]; exact (Below.refl _ _).alloc (Nat.le_refl _) _)
  have HXC : Hid (W1.cell? ⟨xb, 0, none⟩ = some (.int .i64 x1) ∧ W1.cell? ⟨xb, 1, none⟩ = some (.int .i64 x2) ∧ W1.cell? ⟨xb, 2, none⟩ = some (.int .i64 x3) ∧ W1.cell? ⟨xb, 3, none⟩ = some (.int .i64 x4) ∧ W1.cell? ⟨xb, 4, none⟩ = some (.string x5)) := Lib.hid ⟨hq 0 _ rfl, hq 1 _ rfl, hq 2 _ rfl, hq 3 _ rfl, hq 4 _ rfl⟩
  rw [hW]
  rw [hxb]
  clear hW hq hxb
  go_wp2_with fail
  go_loopw [9, 10] (fun i j wr => ∃ lo hi : Nat, lo ≤ hi ∧ hi ≤ n ∧ i = .int .i64 lo ∧ j = .int .i64 hi ∧ Hid (∀ y ∈ l.take lo, ahead y X = true) ∧ Hid (∀ y, l[hi]? = some y → ahead y X = false) ∧ Hid (Below W1.heap.size W1 wr)) (fun i j _ => (intOf j).toNat - (intOf i).toNat)
  case atStart => exact ⟨0, n, Nat.zero_le _, Nat.le_refl _, rfl, rfl, Lib.hid (by simp), Lib.hid (fun y hy => by have := (List.getElem?_eq_some_iff.1 hy).1; have := HN.out; omega), Lib.hid (Below.refl _ _)⟩
  case round =>
    obtain ⟨lo, hi, hlh, hhn, rfl, rfl, H1, H2, HB⟩ := hrel
    by_cases hlt : lo < hi
    · have hc : IntKind.u64.wrap ((lo : Int) + (hi : Int)) = ((lo + hi : Nat) : Int) := by rw [IntKind.wrap_u64]; omega
      have hc2 : IntKind.i64.wrap ((lo : Int) + (hi : Int)) = ((lo + hi : Nat) : Int) := by rw [IntKind.wrap_i64]; omega
      go_upto_region 5 with fail
      obtain ⟨m, hm⟩ : ∃ m : Nat, ((lo : Int) + (hi : Int)) / 2 = (m : Int) := ⟨(lo + hi) / 2, by omega⟩
      have hml : lo ≤ m := by omega
      have hmh : m < hi := by omega
      rw [hm]
      have HM := Lib.hid hm
      obtain ⟨g, rfl, hg⟩ := HV.out (by have := HN.out; omega)
      obtain ⟨y, hy⟩ : ∃ y, l[m]? = some y := ⟨_, List.getElem?_eq_getElem (by have := HN.out; omega)⟩
      have HY := Lib.hid hy
      have HYS := Lib.hid (HL.out y (List.mem_of_getElem? hy))
      have hu := ((hg m y hy).below HB1.out).below HB.out
      obtain ⟨y1, y2, y3, y4, y5⟩ := y
      obtain ⟨Y, hY⟩ : ∃ Y : Un, (y1, y2, y3, y4, y5) = Y := ⟨_, rfl⟩
      have hord := ordN_lt (y1, y2, y3, y4, y5) (x1, x2, x3, x4, x5)
      have ho := fun W => order_any (y1, y2, y3, y4, y5) (x1, x2, x3, x4, x5) W HYS.out (by rw [HE.out]; exact HX.out)
      obtain ⟨D, hD⟩ : ∃ D, ordN (y1, y2, y3, y4, y5) (x1, x2, x3, x4, x5) = D := ⟨_, rfl⟩
      simp only [oneV] at ho
      rw [hD] at hord
      simp only [hD] at ho
      have HO := Lib.hid ho
      clear ho
      rw [hY, HE.out] at hord
      have c0 := bof_cell hu.c0
      have c1 := bof_cell hu.c1
      have c2 := bof_cell hu.c2
      have c3 := bof_cell hu.c3
      have c4 := bof_cell hu.c4
      rw [hY] at HY HYS
      simp only at c0 c1 c2 c3 c4
      obtain ⟨d0, d1, d2, d3, d4⟩ := HXC.out
      have hxl := World.block_lt_of_cell? W1 _ d0
      have e0 := bof_cell ((HB.out.cell (p := ⟨xb, 0, none⟩) hxl).trans d0)
      have e1 := bof_cell ((HB.out.cell (p := ⟨xb, 1, none⟩) hxl).trans d1)
      have e2 := bof_cell ((HB.out.cell (p := ⟨xb, 2, none⟩) hxl).trans d2)
      have e3 := bof_cell ((HB.out.cell (p := ⟨xb, 3, none⟩) hxl).trans d3)
      have e4 := bof_cell ((HB.out.cell (p := ⟨xb, 4, none⟩) hxl).trans d4)
      have hmn : (m : Int) < (n : Int) := by omega
      clear d0 d1 d2 d3 d4 hxl hu hg hc hc2 hm hY hD
      by_cases hah : ahead Y X = true
      · have hd : decide (D < 0) = true := decide_eq_true (hord.2 hah)
        have HT := Lib.hid (take_ahead HS.out HY.out hah)
        clear hah hord
        refine wp_region_bof (by kernel_rfl) (by kernel_rfl) ?_
        repeat (go_big_quiet_step (first | (go_at_call 20; exact bof_call (HO.out _))))
        refine wpQuiet_nil ?_
        intro W3 hw'
        have hb3 := bof_below hw'
        have HB3 := Lib.hid (HB.out.trans (hb3.mono HB.out.size))
        clear hw' hb3 c0 c1 c2 c3 c4 e0 e1 e2 e3 e4
        go_wp2_with fail
        go_roundw
        case rel => exact ⟨m + 1, hi, by omega, by omega, by go_num, rfl, HT, H2, HB3⟩
        case measure => simp [intOf]; omega
      · have hd : decide (D < 0) = false := decide_eq_false (fun h => hah (hord.1 h))
        have HT : Hid (ahead Y X = false) := Lib.hid (by simpa using hah)
        clear hah hord
        refine wp_region_bof (by kernel_rfl) (by kernel_rfl) ?_
        repeat (go_big_quiet_step (first | (go_at_call 20; exact bof_call (HO.out _))))
        refine wpQuiet_nil ?_
        intro W3 hw'
        have hb3 := bof_below hw'
        have HB3 := Lib.hid (HB.out.trans (hb3.mono HB.out.size))
        clear hw' hb3 c0 c1 c2 c3 c4 e0 e1 e2 e3 e4
        go_wp2_with fail
        go_roundw
        case rel => exact ⟨lo, m, by omega, by omega, rfl, by go_num, H1, Lib.hid (fun z hz => by rw [HY.out] at hz; cases hz; exact HT.out), HB3⟩
        case measure => simp [intOf]; omega
    · obtain rfl : lo = hi := by omega
      have HB4 := Lib.hid (HB1.out.trans (HB.out.mono HB1.out.size))
      by_cases hln : lo < n
      · have hd2 : decide ((lo : Int) < (n : Int)) = true := decide_eq_true (by omega)
        obtain ⟨g, rfl, hg⟩ := HV.out (by have := HN.out; omega)
        obtain ⟨y, hy⟩ : ∃ y, l[lo]? = some y := ⟨_, List.getElem?_eq_getElem (by have := HN.out; omega)⟩
        have HY := Lib.hid hy
        have HYS := Lib.hid (HL.out y (List.mem_of_getElem? hy))
        have hu := ((hg lo y hy).below HB1.out).below HB.out
        obtain ⟨y1, y2, y3, y4, y5⟩ := y
        obtain ⟨Y, hY⟩ : ∃ Y : Un, (y1, y2, y3, y4, y5) = Y := ⟨_, rfl⟩
        have hord := ordN_lt (y1, y2, y3, y4, y5) (x1, x2, x3, x4, x5)
        have ho := fun W => order_any (y1, y2, y3, y4, y5) (x1, x2, x3, x4, x5) W HYS.out (by rw [HE.out]; exact HX.out)
        obtain ⟨D, hD⟩ : ∃ D, ordN (y1, y2, y3, y4, y5) (x1, x2, x3, x4, x5) = D := ⟨_, rfl⟩
        simp only [oneV] at ho
        rw [hD] at hord
        simp only [hD] at ho
        have HO := Lib.hid ho
        clear ho
        rw [hY, HE.out] at hord
        have c0 := bof_cell hu.c0
        have c1 := bof_cell hu.c1
        have c2 := bof_cell hu.c2
        have c3 := bof_cell hu.c3
        have c4 := bof_cell hu.c4
        rw [hY] at HY HYS
        simp only at c0 c1 c2 c3 c4
        obtain ⟨d0, d1, d2, d3, d4⟩ := HXC.out
        have hxl := World.block_lt_of_cell? W1 _ d0
        have e0 := bof_cell ((HB.out.cell (p := ⟨xb, 0, none⟩) hxl).trans d0)
        have e1 := bof_cell ((HB.out.cell (p := ⟨xb, 1, none⟩) hxl).trans d1)
        have e2 := bof_cell ((HB.out.cell (p := ⟨xb, 2, none⟩) hxl).trans d2)
        have e3 := bof_cell ((HB.out.cell (p := ⟨xb, 3, none⟩) hxl).trans d3)
        have e4 := bof_cell ((HB.out.cell (p := ⟨xb, 4, none⟩) hxl).trans d4)
        have hmn : (lo : Int) < (n : Int) := by omega
        have HD : Hid (ordN Y X = D) := Lib.hid (by rw [← hD, hY, HE.out])
        clear d0 d1 d2 d3 d4 hxl hu hg hY hD hord
        go_upto_region 8 with fail
        refine wp_region_bof (by kernel_rfl) (by kernel_rfl) ?_
        repeat (go_big_quiet_step (first | (go_at_call 20; exact bof_call (HO.out _))))
        refine wpQuiet_nil ?_
        intro W3 hw'
        have hb3 := bof_below hw'
        clear hw' c0 c1 c2 c3 c4 e0 e1 e2 e3 e4
        go_wp2_with fail
        go_ret2
        have hK := foundK_of (by have := HN.out; omega) H1.out H2.out
        refine ⟨?_, HB4.out.trans (hb3.mono HB4.out.size)⟩
        rw [foundB, hK, HY.out]
        have := HD.out
        simp only [this]
        rfl
      · have hd2 : decide ((lo : Int) < (n : Int)) = false := decide_eq_false (by omega)
        go_upto_region 8 with fail
        refine wp_region_bof (by kernel_rfl) (by kernel_rfl) ?_
        repeat (go_big_quiet_step (fail))
        refine wpQuiet_nil ?_
        intro W3 hw'
        have hb3 := bof_below hw'
        go_wp2_with fail
        go_ret2
        have hK := foundK_of (by have := HN.out; omega) H1.out H2.out
        refine ⟨?_, HB4.out.trans (hb3.mono HB4.out.size)⟩
        rw [foundB, hK, List.getElem?_eq_none (by have := HN.out; omega)]
        rfl
end Go.Proofs.Ytbmlgnmilolamaa
