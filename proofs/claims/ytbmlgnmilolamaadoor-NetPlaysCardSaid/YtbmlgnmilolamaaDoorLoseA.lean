/-
  The closure of Lose; slices.IndexFunc with it. No statement is proved here.
-/
import Derived.Test.YtbmlgnmilolamaaDoorFlyW
namespace Go.Proofs.YtbmlgnmilolamaaDoor
open Go.RowKit
/-- Is it to this end? -/
def toE (e : Int) (x : Un) : Bool := x.2.2.2.1 == e
theorem isTo_any (x : Un) (e : Int) (cb : Nat) (w : World) (hc : w.cell? ⟨cb, 0, none⟩ = some (.int .i64 e)) :
    Calls Tryd.prog 32 #[oneV x, .pointer (some ⟨cb, 0, none⟩)] w fun en w' => en = .returned (.bool (toE e x)) ∧ Below w.heap.size w w' := by
  have hB : Below w.heap.size w (w.alloc (.cells (unC x).toArray 68)) := (Below.refl _ _).alloc (Nat.le_refl _) _
  have hc2 := (hB.cell (p := ⟨cb, 0, none⟩) (World.block_lt_of_cell? w _ hc)).trans hc
  have HB := Lib.hid hB
  obtain ⟨x1, x2, x3, x4, x5⟩ := x
  simp only [oneV, unC, toE] at *
  obtain ⟨D, hD⟩ : ∃ D, (x4 == e) = D := ⟨_, rfl⟩
  rw [hD]
  clear hB
  go_enter Tryd.func32, Tryd.ntmps32
  go_wp2_with fail
  go_ret
  exact ⟨rfl, HB.out⟩
/-- Where the first one to this end stands. -/
def idxE (e : Int) (l : List Un) : Int := match l.findIdx? (toE e) with
  | some i => (i : Int)
  | none => -1
theorem idx_none {e : Int} {l : List Un} (h : ∀ x ∈ l, toE e x = false) : idxE e l = -1 := by
  unfold idxE
  rw [List.findIdx?_eq_none_iff.2 (fun x hx => by simpa using h x hx)]
theorem idx_some {e : Int} {l : List Un} {i : Nat} {x : Un} (hx : l[i]? = some x) (hb : toE e x = true) (hp : ∀ y ∈ l.take i, toE e y = false) : idxE e l = (i : Int) := by
  have hi := (List.getElem?_eq_some_iff.1 hx).1
  have hv := (List.getElem?_eq_some_iff.1 hx).2
  unfold idxE
  rw [(List.findIdx?_eq_some_iff_getElem (xs := l) (p := toE e) (i := i)).2 ⟨hi, by rw [hv]; exact hb, fun j hj => by
    have : l[j] ∈ l.take i := List.mem_take_iff_getElem.2 ⟨j, by omega, rfl⟩
    have := hp _ this
    rw [this]; decide⟩]
set_option maxHeartbeats 4000000 in
set_option maxRecDepth 100000 in
theorem IndexF_any (e : Int) (cb : Nat) (l : List Un) (wv : Value) (w : World) (h : w.ownsRow 0 68 5 wv l.length (rowC unC l)) (hn : l.length ≤ 4096) (hc : w.cell? ⟨cb, 0, none⟩ = some (.int .i64 e)) :
    Calls Tryd.prog 48 #[wv, .func (.func 32) #[] #[.pointer (some ⟨cb, 0, none⟩)]] w fun en w' => en = .returned (.int .i64 (idxE e l)) ∧ Below w.heap.size w w' := by
  obtain ⟨a, cap, rfl, hcap, hcm, hv⟩ := way_view h
  have HV := Lib.hid hv
  have HC := Lib.hid hc
  obtain ⟨n, hnn⟩ : ∃ n, l.length = n := ⟨_, rfl⟩
  have HN := Lib.hid hnn
  rw [hnn] at hn hcap ⊢
  obtain ⟨R, hR⟩ : ∃ R, idxE e l = R := ⟨_, rfl⟩
  have HR := Lib.hid hR
  rw [hR]
  clear h hv hc hnn hR hcm
  go_enter Tryd.func48, Tryd.ntmps48
  go_wp2_with fail
  go_loopw [8] (fun i wr => ∃ j : Nat, j ≤ n ∧ i = .int .i64 j ∧ Hid (∀ y ∈ l.take j, toE e y = false) ∧ Hid (Below w.heap.size w wr)) (fun i _ => n - (intOf i).toNat)
  case atStart => exact ⟨0, Nat.zero_le _, rfl, Lib.hid (by simp), Lib.hid (Below.refl _ _)⟩
  case round =>
    obtain ⟨j, hj, rfl, HP, HB⟩ := hrel
    by_cases hlt : j < n
    · obtain ⟨g, rfl, hg⟩ := HV.out (by have := HN.out; omega)
      obtain ⟨x, hx⟩ : ∃ x, l[j]? = some x := ⟨_, List.getElem?_eq_getElem (by have := HN.out; omega)⟩
      obtain ⟨c0, c1, c2, c3, c4⟩ := (hg j x hx).below HB.out
      have HX := Lib.hid hx
      have HI := Lib.hid (isTo_any x e cb wr ((HB.out.cell (p := ⟨cb, 0, none⟩) (World.block_lt_of_cell? w _ HC.out)).trans HC.out))
      have hjn : (j : Int) < (n : Int) := by omega
      clear hg hx
      obtain ⟨x1, x2, x3, x4, x5⟩ := x
      simp only [oneV] at c0 c1 c2 c3 c4 HI
      cases ht : toE e (x1, x2, x3, x4, x5) with
      | true =>
        have HRJ : Hid (R = (j : Int)) := Lib.hid (by rw [← HR.out]; exact idx_some HX.out ht HP.out)
        rw [ht] at HI
        clear ht
        go_wp2_with fail
        refine HI.out.mono ?_; rintro en w1 ⟨rfl, hb⟩
        have HB2 := Lib.hid (HB.out.trans (hb.mono HB.out.size))
        clear hb
        go_wp2_with fail
        go_ret
        rw [HRJ.out]
        exact ⟨rfl, HB2.out⟩
      | false =>
        have HT := Lib.hid ht
        rw [ht] at HI
        clear ht
        go_wp2_with fail
        refine HI.out.mono ?_; rintro en w1 ⟨rfl, hb⟩
        have HB2 := Lib.hid (HB.out.trans (hb.mono HB.out.size))
        clear hb
        go_wp2_with fail
        go_roundw
        case rel =>
          refine ⟨j + 1, by omega, by go_num, Lib.hid (fun y hy => ?_), HB2⟩
          rw [List.take_add_one, HX.out, Option.toList_some] at hy
          rcases List.mem_append.1 hy with hy | hy
          · exact HP.out y hy
          · rw [List.mem_singleton.1 hy]; exact HT.out
        case measure => simp [intOf]; omega
    · obtain rfl : j = n := by omega
      have HRJ : Hid (R = -1) := Lib.hid (by rw [← HR.out]; exact idx_none (fun x hx => HP.out x (by rw [List.take_of_length_le (by have := HN.out; omega)]; exact hx)))
      go_wp2_with fail
      go_ret
      rw [HRJ.out]
      exact ⟨rfl, HB.out⟩
end Go.Proofs.YtbmlgnmilolamaaDoor
