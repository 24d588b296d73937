/-
  The document's Next and Flying. No statement is proved here.
-/
import Derived.Test.YtbmlgnmilolamaaDoorRefC
namespace Go.Proofs.YtbmlgnmilolamaaDoor
open Go.RowKit
/-- What the document's Next may do. -/
def RNextOf (ρ : NetS) (r : Option Pk × NetS) : Prop :=
  (ρ.way = [] ∧ r = (none, ρ)) ∨ ∃ (k : Nat) (x : Un), ρ.way[k]? = some x ∧ (∀ y ∈ ρ.way, ahead y x = false) ∧ r = if ρ.now < x.1 then (none, ρ) else (some x.2.2, { ρ with way := ρ.way.eraseIdx k })
def RNextIs (ρ : NetS) (w : World) (p : Nat) (fv wv : Value) (e : Ending) (w' : World) : Prop :=
  ∃ r, RNextOf ρ r ∧ RefTo w p fv wv r.2 w' ∧ e = .returned (.tuple #[nextV r.1, .bool r.1.isSome])
set_option maxHeartbeats 4000000 in
set_option maxRecDepth 100000 in
theorem rNext_at (ρ : NetS) (hlen : ρ.way.length ≤ 4096) (p : Nat) (fv wv : Value) (w : World) (h : RefAt w p fv wv ρ) :
    Calls Tryd.prog 15 #[.pointer (some ⟨p, 0, none⟩)] w (RNextIs ρ w p fv wv) := by
  have HN := Lib.hid h
  obtain ⟨wa, wcap, rfl, hwc, hwm, hv⟩ := rway_view h.hw
  obtain ⟨n, hn⟩ : ∃ n, ρ.way.length = n := ⟨_, rfl⟩
  rw [hn] at HN hv hlen ⊢
  have HV := Lib.hid hv
  have HNL := Lib.hid hn
  clear h hwc hv hn
  go_enter Tryd.func15, Tryd.ntmps15
  go_upto_region 1 with fail
  obtain ⟨W1, hW⟩ : ∃ W, w.alloc (.cells #[.int .i64 0, .int .i64 0, .string ⟨#[]⟩] 31) = W := ⟨_, rfl⟩
  have hz := PkZ.new w
  rw [hW] at hz
  rw [hW]
  have HZ := Lib.hid hz
  have hN1 := HN.out.below hz.b
  have HN1 := Lib.hid hN1
  have n4 : W1.cell? ⟨p, 4, none⟩ = some (.slice wa n wcap) := hN1.cell 4
  have HF := Lib.hid (rfirst_any ρ.way _ W1 hN1.hw (by have := HNL.out; omega))
  clear hz hN1 hW
  go_wp2_with (first | (go_at_call 34; refine HF.out.mono ?_; rintro e W2 ⟨v, rfl, hFA, hB2⟩))
  have HZ2 := Lib.hid (HZ.out.below hB2)
  have HN2 := Lib.hid (HN1.out.below hB2)
  rcases hFA with ⟨hnil, hvv⟩ | ⟨k, x, hk, hvv, hx⟩
  · subst hvv
    have HNIL := Lib.hid hnil
    clear hnil hB2 n4
    go_upto_region 2 with fail
    refine wp_region_bof (by kernel_rfl) (by kernel_rfl) ?_
    repeat (go_big_quiet_step (fail))
    refine wpQuiet_nil ?_
    intro W3 hw'
    have hb3 := bof_below hw'
    have HZ3 := Lib.hid (HZ2.out.below hb3)
    clear hw' hb3
    obtain ⟨c0, c1, c2, f0, f1, f2, _, _⟩ := HZ3.out
    go_wp2_with fail
    refine bodyPost_ret (v := .tuple #[pkV (0, 0, ⟨#[]⟩), .bool false]) (by simp [results, Tryd.results15, go_sem, asAddr, c0, c1, c2, pkV]) rfl ?_
    exact ⟨(none, ρ), .inl ⟨HNIL.out, rfl⟩, RefTo.same HN.out (((HZ3.out.b.setCell (Nat.le_refl _) _).setCell (Nat.le_refl _) _).setCell (Nat.le_refl _) _), rfl⟩
  · subst hvv
    have hkn : k < n := by have := (List.getElem?_eq_some_iff.1 hk).1; have := HNL.out; omega
    obtain ⟨g, rfl, hg⟩ := HV.out (by have := HNL.out; omega)
    have hu2 := hg k x hk
    have HU := Lib.hid hu2
    have hu := (hu2.below HZ.out.b).below hB2
    have HK := Lib.hid hk
    have HXX := Lib.hid hx
    obtain ⟨x1, x2, x3, x4, x5⟩ := x
    have m1 := bof_cell (HN2.out.cell 1)
    have m4 := bof_cell (HN2.out.cell 4)
    have u0 := bof_cell hu.c0
    have hkn2 : (k : Int) < (n : Int) := by omega
    have hk0 : decide ((k : Int) < 0) = false := decide_eq_false (by omega)
    clear hu hu2 hg hk hx n4
    simp only at u0
    by_cases hlt : ρ.now < x1
    · have hd2 : decide ((ρ.now : Int) < (x1 : Int)) = true := decide_eq_true (by omega)
      go_upto_region 2 with fail
      refine wp_region_bof (by kernel_rfl) (by kernel_rfl) ?_
      repeat (go_big_quiet_step (fail))
      refine wpQuiet_nil ?_
      intro W3 hw'
      have hb3 := bof_below hw'
      have HZ3 := Lib.hid (HZ2.out.below hb3)
      clear hw' hb3 m1 m4 u0
      obtain ⟨c0, c1, c2, f0, f1, f2, _, _⟩ := HZ3.out
      go_wp2_with fail
      refine bodyPost_ret (v := .tuple #[pkV (0, 0, ⟨#[]⟩), .bool false]) (by simp [results, Tryd.results15, go_sem, asAddr, c0, c1, c2, pkV]) rfl ?_
      exact ⟨(none, ρ), .inr ⟨k, _, HK.out, HXX.out, by rw [if_pos hlt]⟩, RefTo.same HN.out (((HZ3.out.b.setCell (Nat.le_refl _) _).setCell (Nat.le_refl _) _).setCell (Nat.le_refl _) _), rfl⟩
    · have hd2 : decide ((ρ.now : Int) < (x1 : Int)) = false := decide_eq_false (by omega)
      go_upto_region 2 with fail
      refine wp_region_bof (by kernel_rfl) (by kernel_rfl) ?_
      repeat (go_big_quiet_step (fail))
      refine wpQuiet_nil ?_
      intro W3 hw'
      have hb3 := bof_below hw'
      have HZ3 := Lib.hid (HZ2.out.below hb3)
      have HN3 := Lib.hid (HN2.out.below hb3)
      have n4 : W3.cell? ⟨p, 4, none⟩ = some (.slice (some ⟨g, 0, none⟩) n wcap) := HN3.out.cell 4
      clear hw' hb3 m1 m4 u0
      obtain ⟨_, _, v2, v3, v4⟩ := HU.out.below HZ3.out.b
      simp only at v2 v3 v4
      go_upto_region 5 with fail
      obtain ⟨W4, hW4⟩ : ∃ W, W3.alloc (.cells #[.int .i64 x3, .int .i64 x4, .string x5] 31) = W := ⟨_, rfl⟩
      have hB4 : Below W3.heap.size W3 W4 := by rw [← hW4]; exact (Below.refl _ _).alloc (Nat.le_refl _) _
      obtain ⟨qb, hqb⟩ : ∃ b, W3.heap.size = b := ⟨_, rfl⟩
      have hq : ∀ i v, (#[.int .i64 x3, .int .i64 x4, .string x5] : Array Value)[i]? = some v → W4.cell? ⟨qb, i, none⟩ = some v := fun i v h => by rw [← hW4, ← hqb, World.cell?_alloc_mark]; exact h
      have hwp : w.heap.size ≠ qb := by have := World.block_lt_of_cell? W3 _ HZ3.out.c0; simp only at this; omega
      have hpq : p ≠ qb := by have := HN3.out.lt; omega
      have hpw : p ≠ w.heap.size := by have := HN.out.lt; omega
      have HZ4 := Lib.hid (HZ3.out.below hB4)
      have HN4 := Lib.hid (HN3.out.below hB4)
      have hq0 := hq 0 _ rfl
      have hq1 := hq 1 _ rfl
      have hq2 := hq 2 _ rfl
      have HWO := Lib.hid (without_any ρ.way k _ W4 HN4.out.hw (by have := HNL.out; omega))
      obtain ⟨m, hm⟩ : ∃ m, (ρ.way.eraseIdx k).length = m := ⟨_, rfl⟩
      have n4 : W4.cell? ⟨p, 4, none⟩ = some (.slice (some ⟨g, 0, none⟩) n wcap) := HN4.out.cell 4
      have HM := Lib.hid hm
      rw [hW4]
      rw [hqb]
      clear hW4 hqb hq v2 v3 v4 hm
      go_wp2_with fail
      refine HWO.out.mono ?_
      rintro e W5 ⟨a, c, rfl, hU, hB5⟩
      have HU5 := Lib.hid hU
      have HZ5 := Lib.hid (HZ4.out.below hB5)
      have HN5 := Lib.hid (HN4.out.below hB5)
      have q0 := (hB5.cell (World.block_lt_of_cell? W4 _ hq0)).trans hq0
      have q1 := (hB5.cell (World.block_lt_of_cell? W4 _ hq1)).trans hq1
      have q2 := (hB5.cell (World.block_lt_of_cell? W4 _ hq2)).trans hq2
      obtain ⟨c0, c1, c2, f0, f1, f2, _, _⟩ := HZ5.out
      have k4 : W5.cell? ⟨p, 4, none⟩ = some (.slice (some ⟨g, 0, none⟩) n wcap) := HN5.out.cell 4
      have g4 : W5.frozen? ⟨p, 4, none⟩ = false := HN5.out.frozen 4
      have HEND : Hid (RefTo w p fv (.slice (some ⟨g, 0, none⟩) n wcap) { ρ with way := ρ.way.eraseIdx k } ((((W5.setCell ⟨p, 4, none⟩ (.slice a m c)).setCell ⟨w.heap.size, 0, none⟩ (.int .i64 x3)).setCell ⟨w.heap.size, 1, none⟩ (.int .i64 x4)).setCell ⟨w.heap.size, 2, none⟩ (.string x5))) := Lib.hid (by
        have hb := hU.base
        rw [HM.out] at hb
        have hw4 : w.heap.size ≤ W4.heap.size := HZ4.out.b.size
        have hp := HN.out.put 4 (.slice a m c) (.slice a m c) { ρ with way := ρ.way.eraseIdx k } W5 (Only.of_below HZ5.out.b) HN5.out.hp (by simp) (by show W5.ownsRow 0 78 5 (.slice a m c) (ρ.way.eraseIdx k).length _; rw [HM.out]; exact hb) rfl rfl (.inr (fun k hk => Nat.le_trans hw4 (by have := hU.lt; rw [HM.out] at this; exact (this k hk).1)))
        obtain ⟨cs, fr, ht⟩ := HZ5.out.t
        have s1 : ∀ (W : World) (i : Nat) (v : Value), Only (fun k => k = w.heap.size) W (W.setCell ⟨w.heap.size, i, none⟩ v) := fun W i v => (Only.refl (fun k => k = w.heap.size) W).setCell ⟨w.heap.size, i, none⟩ v (.inl rfl)
        have hO6 := ((s1 (W5.setCell ⟨p, 4, none⟩ (.slice a m c)) 0 (.int .i64 x3)).next (s1 _ 1 (.int .i64 x4))).next (s1 _ 2 (.string x5))
        exact hp.after hO6 (Nat.le_refl _) (by rw [Below.heap_setCell _ _ _ _ hpw.symm]; exact ht) (by decide) (by decide) (by decide))
      clear hU hB5 hq0 hq1 hq2 n4
      go_wp2_with fail
      refine bodyPost_ret (v := .tuple #[pkV (x3, x4, x5), .bool true]) (by simp [results, Tryd.results15, go_sem, asAddr, c0, c1, c2, pkV]) rfl ?_
      exact ⟨(some (x3, x4, x5), { ρ with way := ρ.way.eraseIdx k }), .inr ⟨k, _, HK.out, HXX.out, by rw [if_neg hlt]⟩, by rw [HM.out]; exact HEND.out, rfl⟩
end Go.Proofs.YtbmlgnmilolamaaDoor
