/-
  The document's End, ahead, first, without. No statement is proved here.
-/
import Derived.Test.YtbmlgnmilolamaaDoorRefMem
namespace Go.Proofs.YtbmlgnmilolamaaDoor
open Go.RowKit
theorem rend_at {w : World} {p : Nat} {fv wv : Value} {σ : NetS} (h : RefAt w p fv wv σ) (k : Int) : Calls Tryd.prog 33 #[.pointer (some ⟨p, 0, none⟩), .int .i64 k] w fun e w' => e = .returned (.bool (decide (σ.isEnd k))) ∧ w = w' := by
  have c0 : w.cell? ⟨p, 0, none⟩ = some (.int .i64 σ.ends) := h.cell 0
  clear h
  by_cases hk : 0 ≤ k
  · go_enter Tryd.func33, Tryd.ntmps33
    go_wp2_with fail
    go_ret
    exact ⟨by simp [NetS.isEnd, hk], rfl⟩
  · rw [decide_eq_false (fun h : σ.isEnd k => hk h.1)]
    go_enter Tryd.func33, Tryd.ntmps33
    go_wp2_with fail
    go_ret
    exact ⟨rfl, rfl⟩
theorem rahead_any (x y : Un) (w : World) :
    Calls Tryd.prog 49 #[oneV x, oneV y] w fun e w' => e = .returned (.bool (ahead x y)) ∧ Below w.heap.size w w' := by
  have hB : ∀ a b, Below w.heap.size w ((w.alloc a).alloc b) := fun a b => ((Below.refl _ _).alloc (Nat.le_refl _) _).alloc (by simp) _
  obtain ⟨a1, a2, a3, a4, a5⟩ := x
  obtain ⟨b1, b2, b3, b4, b5⟩ := y
  simp only [oneV] at *
  by_cases h : a1 = b1
  · rw [show ahead (a1, a2, a3, a4, a5) (b1, b2, b3, b4, b5) = decide ((b2 : Int) < (a2 : Int)) by unfold ahead; simp [h]]
    subst h
    go_enter Tryd.func49, Tryd.ntmps49
    go_wp2_with fail
    go_ret
    exact ⟨by simp, hB _ _⟩
  · rw [show ahead (a1, a2, a3, a4, a5) (b1, b2, b3, b4, b5) = decide ((a1 : Int) < (b1 : Int)) by unfold ahead; simp [h]]
    have hn : ((a1 : Int) == b1) = false := beq_eq_false_iff_ne.2 (by omega)
    go_enter Tryd.func49, Tryd.ntmps49
    go_wp2_with fail
    go_ret
    exact ⟨by simp, hB _ _⟩
/-- Where the first one stands. -/
def FirstAt (l : List Un) (v : Value) : Prop := (l = [] ∧ v = .int .i64 (-1)) ∨ ∃ (k : Nat) (x : Un), l[k]? = some x ∧ v = .int .i64 k ∧ ∀ y ∈ l, ahead y x = false
theorem first_step {l : List Un} {j : Nat} {x y : Un} (hy : l[j]? = some y) (hp : ∀ z ∈ l.take j, ahead z x = false) (h : ahead y x = true) : ∀ z ∈ l.take (j + 1), ahead z y = false := by
  intro z hz
  rw [List.take_add_one, hy, Option.toList_some] at hz
  rcases List.mem_append.1 hz with hz | hz
  · cases h2 : ahead z y with
    | false => rfl
    | true => have := ahead_trans h2 h; rw [hp z hz] at this; cases this
  · rw [List.mem_singleton.1 hz]; exact ahead_irr y
theorem first_stay {l : List Un} {j : Nat} {x y : Un} (hy : l[j]? = some y) (hp : ∀ z ∈ l.take j, ahead z x = false) (h : ahead y x = false) : ∀ z ∈ l.take (j + 1), ahead z x = false := by
  intro z hz
  rw [List.take_add_one, hy, Option.toList_some] at hz
  rcases List.mem_append.1 hz with hz | hz
  · exact hp z hz
  · rw [List.mem_singleton.1 hz]; exact h
def FirstTo (l : List Un) (j : Nat) (v : Value) : Prop := (j = 0 ∧ v = .int .i64 (-1)) ∨ ∃ (k : Nat) (x : Un), k < j ∧ l[k]? = some x ∧ v = .int .i64 k ∧ ∀ y ∈ l.take j, ahead y x = false
set_option maxHeartbeats 4000000 in
set_option maxRecDepth 100000 in
theorem rfirst_any (l : List Un) (wv : Value) (w : World) (h : w.ownsRow 0 78 5 wv l.length (rowC unC l)) (hn : l.length ≤ 5000) :
    Calls Tryd.prog 34 #[wv] w fun e w' => ∃ v, e = .returned v ∧ FirstAt l v ∧ Below w.heap.size w w' := by
  obtain ⟨a, cap, rfl, hcap, hcm, hv⟩ := rway_view h
  have HV := Lib.hid hv
  obtain ⟨n, hnn⟩ : ∃ n, l.length = n := ⟨_, rfl⟩
  have HN := Lib.hid hnn
  rw [hnn] at hn ⊢
  clear h hv hnn hcm hcap
  go_enter Tryd.func34, Tryd.ntmps34
  go_wp2_with fail
  go_loopw [3, 4] (fun k i wr => ∃ j : Nat, j ≤ n ∧ i = .int .i64 j ∧ Hid (FirstTo l j k) ∧ Hid (Below w.heap.size w wr)) (fun _ i _ => n - (intOf i).toNat)
  case atStart => exact ⟨0, Nat.zero_le _, rfl, Lib.hid (.inl ⟨rfl, rfl⟩), Lib.hid (Below.refl _ _)⟩
  case round =>
    obtain ⟨j, hj, rfl, HF, HB⟩ := hrel
    by_cases hlt : j < n
    · obtain ⟨g, rfl, hg⟩ := HV.out (by have := HN.out; omega)
      obtain ⟨y, hy⟩ : ∃ y, l[j]? = some y := ⟨_, List.getElem?_eq_getElem (by have := HN.out; omega)⟩
      have HY := Lib.hid hy
      have hjn : (j : Int) < (n : Int) := by omega
      rcases HF.out with ⟨h0, hk⟩ | ⟨k, x, hkj, hx, hk, hp⟩
      · subst h0
        subst hk
        clear hg hy
        go_upto_region 5 with fail
        refine wp_region_bof (by kernel_rfl) (by kernel_rfl) ?_
        repeat (go_big_quiet_step (fail))
        refine wpQuiet_nil ?_
        intro W3 hw'
        have HB3 := Lib.hid (HB.out.trans ((bof_below hw').mono HB.out.size))
        clear hw'
        go_wp2_with fail
        go_roundw
        case rel => exact ⟨1, by omega, by go_num, Lib.hid (.inr ⟨0, y, by decide, HY.out, rfl, by
            intro z hz
            rw [List.take_add_one, HY.out] at hz
            simp at hz
            rw [hz]; exact ahead_irr y⟩), HB3⟩
        case measure => simp [intOf]; omega
      · subst hk
        have HX := Lib.hid hx
        have HP := Lib.hid hp
        have hu := (hg j y hy).below HB.out
        have hux := (hg k x hx).below HB.out
        obtain ⟨y1, y2, y3, y4, y5⟩ := y
        obtain ⟨x1, x2, x3, x4, x5⟩ := x
        have ho := fun W => rahead_any (y1, y2, y3, y4, y5) (x1, x2, x3, x4, x5) W
        have c0 := bof_cell hu.c0
        have c1 := bof_cell hu.c1
        have c2 := bof_cell hu.c2
        have c3 := bof_cell hu.c3
        have c4 := bof_cell hu.c4
        have e0 := bof_cell hux.c0
        have e1 := bof_cell hux.c1
        have e2 := bof_cell hux.c2
        have e3 := bof_cell hux.c3
        have e4 := bof_cell hux.c4
        simp only at c0 c1 c2 c3 c4 e0 e1 e2 e3 e4
        simp only [oneV] at ho
        have hkn : (k : Int) < (n : Int) := by omega
        have hk0 : decide ((k : Int) < 0) = false := decide_eq_false (by omega)
        clear hu hux hg hy hx hp
        cases hah : ahead (y1, y2, y3, y4, y5) (x1, x2, x3, x4, x5) with
        | true =>
          have HAH := Lib.hid hah
          simp only [hah] at ho
          have HO := Lib.hid ho
          clear ho hah
          go_upto_region 5 with fail
          refine wp_region_bof (by kernel_rfl) (by kernel_rfl) ?_
          repeat (go_big_quiet_step (first | (go_at_call 49; exact bof_call (HO.out _))))
          refine wpQuiet_nil ?_
          intro W3 hw'
          have HB3 := Lib.hid (HB.out.trans ((bof_below hw').mono HB.out.size))
          clear hw' c0 c1 c2 c3 c4 e0 e1 e2 e3 e4
          go_wp2_with fail
          go_roundw
          case rel => exact ⟨j + 1, by omega, by go_num, Lib.hid (.inr ⟨j, _, by omega, HY.out, rfl, first_step HY.out HP.out HAH.out⟩), HB3⟩
          case measure => simp [intOf]; omega
        | false =>
          have HAH := Lib.hid hah
          simp only [hah] at ho
          have HO := Lib.hid ho
          clear ho hah
          go_upto_region 5 with fail
          refine wp_region_bof (by kernel_rfl) (by kernel_rfl) ?_
          repeat (go_big_quiet_step (first | (go_at_call 49; exact bof_call (HO.out _))))
          refine wpQuiet_nil ?_
          intro W3 hw'
          have HB3 := Lib.hid (HB.out.trans ((bof_below hw').mono HB.out.size))
          clear hw' c0 c1 c2 c3 c4 e0 e1 e2 e3 e4
          go_wp2_with fail
          go_roundw
          case rel => exact ⟨j + 1, by omega, by go_num, Lib.hid (.inr ⟨k, _, by omega, HX.out, rfl, first_stay HY.out HP.out HAH.out⟩), HB3⟩
          case measure => simp [intOf]; omega
    · obtain rfl : j = n := by omega
      go_wp2_with fail
      go_ret
      refine ⟨_, rfl, ?_, HB.out⟩
      rcases HF.out with ⟨h0, hk⟩ | ⟨k, x, hkj, hx, hk, hp⟩
      · exact .inl ⟨List.eq_nil_of_length_eq_zero (by rw [HN.out, h0]), hk⟩
      · exact .inr ⟨k, x, hx, hk, fun y hy => hp y (by rw [List.take_of_length_le (by have := HN.out; omega)]; exact hy)⟩
end Go.Proofs.YtbmlgnmilolamaaDoor
