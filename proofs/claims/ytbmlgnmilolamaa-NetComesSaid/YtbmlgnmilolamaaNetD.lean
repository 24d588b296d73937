/-
  Laying a packet; Send. No statement is proved here.
-/
import Derived.Test.YtbmlgnmilolamaaInsertW
namespace Go.Proofs.Ytbmlgnmilolamaa
open Go.RowKit
theorem Only.of_alloc {S : Nat → Prop} (w : World) (o : Obj) : Only S w (w.alloc o) := (Only.refl S w).alloc o
set_option maxHeartbeats 4000000 in
set_option maxRecDepth 100000 in
theorem lay_at (σ : NetS) (x : Un) (p : Nat) (fv wv : Value) (w : World) (h : NetAt w p fv wv σ) (hs : Sorted σ.way) (hx : Sm x) (hl : ∀ y ∈ σ.way, Sm y) (hn : σ.way.length ≤ 4096) :
    Calls Try.prog 18 #[.pointer (some ⟨p, 0, none⟩), oneV x] w fun e w' => e = .returned (.tuple #[]) ∧ NetTo w p fv wv { σ with way := ins x σ.way } w' := by
  have HN := Lib.hid h
  have HS := Lib.hid (fun W hW => Search_any x σ.way wv W hW hs hx hl hn)
  have HNL := Lib.hid hn
  clear hs hx hl hn
  obtain ⟨x1, x2, x3, x4, x5⟩ := x
  obtain ⟨X, hX⟩ : ∃ X : Un, (x1, x2, x3, x4, x5) = X := ⟨_, rfl⟩
  simp only [oneV] at HS ⊢
  have HX := Lib.hid hX
  go_enter Try.func18, Try.ntmps18
  go_upto_region 1 with fail
  obtain ⟨W1, hW⟩ : ∃ W, w.alloc (.cells #[.int .i64 x1, .int .i64 x2, .int .i64 x3, .int .i64 x4, .string x5] 57) = W := ⟨_, rfl⟩
  obtain ⟨xb, hxb⟩ : ∃ b, w.heap.size = b := ⟨_, rfl⟩
  have hq : ∀ i v, (#[.int .i64 x1, .int .i64 x2, .int .i64 x3, .int .i64 x4, .string x5] : Array Value)[i]? = some v → W1.cell? ⟨xb, i, none⟩ = some v := fun i v h => by rw [← hW, ← hxb, World.cell?_alloc_mark]; exact h
  have HB1 : Hid (Below w.heap.size w W1) := Lib.hid (by rw [← hW]; exact (Below.refl _ _).alloc (Nat.le_refl _) _)
  have HN1 := Lib.hid (h.below HB1.out)
  have HXC : Hid (W1.cell? ⟨xb, 0, none⟩ = some (.int .i64 x1) ∧ W1.cell? ⟨xb, 1, none⟩ = some (.int .i64 x2) ∧ W1.cell? ⟨xb, 2, none⟩ = some (.int .i64 x3) ∧ W1.cell? ⟨xb, 3, none⟩ = some (.int .i64 x4) ∧ W1.cell? ⟨xb, 4, none⟩ = some (.string x5)) := Lib.hid ⟨hq 0 _ rfl, hq 1 _ rfl, hq 2 _ rfl, hq 3 _ rfl, hq 4 _ rfl⟩
  rw [hW]
  rw [hxb]
  clear hW hq hxb h
  obtain ⟨d0, d1, d2, d3, d4⟩ := HXC.out
  have e0 := bof_cell d0
  have e1 := bof_cell d1
  have e2 := bof_cell d2
  have e3 := bof_cell d3
  have e4 := bof_cell d4
  have n4 : W1.cell? ⟨p, 4, none⟩ = some wv := HN1.out.cell 4
  have m4 := bof_cell n4
  clear d0 d1 d2 d3 d4 n4
  have HSS : Hid (∀ q : BOf W1, Calls Try.prog 19 #[wv, .agg #[.int .i64 x1, .int .i64 x2, .int .i64 x3, .int .i64 x4, .string x5], .func (.func 20) #[] #[]] q.W (FoundIs (x1, x2, x3, x4, x5) σ.way q.W)) := Lib.hid (fun q => HS.out q.W (HN1.out.below q.h).hw)
  obtain ⟨k, hk⟩ : ∃ k, foundK (x1, x2, x3, x4, x5) σ.way = k := ⟨_, rfl⟩
  obtain ⟨f, hf⟩ : ∃ f, foundB (x1, x2, x3, x4, x5) σ.way = f := ⟨_, rfl⟩
  unfold FoundIs at HSS
  rw [hk, hf] at HSS
  have HK := Lib.hid hk
  clear hk hf
  refine wp_region_bof (by kernel_rfl) (by kernel_rfl) ?_
  repeat (go_big_quiet_step (first | (go_at_call 19; exact bof_call (HSS.out _))))
  refine wpQuiet_nil ?_
  intro W2 hw'
  have hb2 := bof_below hw'
  have HN2 := Lib.hid (HN1.out.below hb2)
  have HB2 := Lib.hid (HB1.out.trans (hb2.mono HB1.out.size))
  obtain ⟨d0, d1, d2, d3, d4⟩ := HXC.out
  have hxl := World.block_lt_of_cell? W1 _ d0
  have e0 := (hb2.cell (p := ⟨xb, 0, none⟩) hxl).trans d0
  have e1 := (hb2.cell (p := ⟨xb, 1, none⟩) hxl).trans d1
  have e2 := (hb2.cell (p := ⟨xb, 2, none⟩) hxl).trans d2
  have e3 := (hb2.cell (p := ⟨xb, 3, none⟩) hxl).trans d3
  have e4 := (hb2.cell (p := ⟨xb, 4, none⟩) hxl).trans d4
  clear d0 d1 d2 d3 d4 hxl hw' hb2 m4 HXC HSS HS
  have n4 : W2.cell? ⟨p, 4, none⟩ = some wv := HN2.out.cell 4
  have HI : Hid (∀ W : World, Only (fun _ => False) W2 W → W.heap[W2.heap.size]? = some (.cells #[.int .i64 x1, .int .i64 x2, .int .i64 x3, .int .i64 x4, .string x5] 57 (0, 0)) →
      Calls Try.prog 21 #[wv, .int .i64 k, .slice (some ⟨W2.heap.size, 0, none⟩) 1 1] W fun e w' => ∃ a n c, e = .returned (.slice a n c) ∧ w'.cell? ⟨p, 4, none⟩ = some wv ∧ w'.frozen? ⟨p, 4, none⟩ = false ∧ Hid (NetTo w p fv wv { σ with way := ins (x1, x2, x3, x4, x5) σ.way } (w'.setCell ⟨p, 4, none⟩ (.slice a n c)))) := Lib.hid (fun W hO hg => by
    have hNW := HN2.out.keep hO (fun h => h) (fun _ _ h => h) (fun _ _ h => h)
    have hc : ∀ i v, (#[.int .i64 x1, .int .i64 x2, .int .i64 x3, .int .i64 x4, .string x5] : Array Value)[i]? = some v → W.cell? ⟨W2.heap.size, i, none⟩ = some v := fun i v h => by rw [cell_of_row W _ i _ _ _ hg]; exact h
    have hne : wv.ownBlock ≠ some W2.heap.size := fun e => by
      obtain ⟨_, _, h2⟩ := ownsRow_type HN2.out.hw e
      have := (Array.getElem?_eq_some_iff.1 h2).1
      omega
    refine (Insert_any (x1, x2, x3, x4, x5) σ.way k wv W2.heap.size _ W hNW.hw (by rw [← HK.out]; exact foundK_le _ _) HNL.out ⟨by simpa using hc 0 _ rfl, hc 1 _ rfl, hc 2 _ rfl, hc 3 _ rfl, hc 4 _ rfl⟩ hg hne).mono ?_
    rintro e w' ⟨wv', rfl, h1, h2, h3⟩
    have hp : w'.heap[p]? = _ := h2.heap hNW.hp hNW.way_ne
    obtain ⟨a, n, c, rfl⟩ : ∃ a n c, wv' = .slice a n c := by
      rcases h1.2 with ⟨rfl, _⟩ | ⟨_, _, _, rfl, _⟩ <;> exact ⟨_, _, _, rfl⟩
    refine ⟨a, n, c, rfl, by rw [cell_of_row w' p 4 _ _ _ hp]; rfl, frozen_of_row w' p 4 _ _ hp, Lib.hid ?_⟩
    have hO2 : Only (foot p wv) w w' := ((Only.of_below (S := foot p wv) HB2.out).trans hO (fun _ h => h.elim)).trans h2 (fun i hi => .inl (.inr hi))
    rw [← HK.out, ins_found] at h1
    refine HN.out.put 4 _ _ _ w' hO2 hp rfl (by rw [length_ins]; exact h1) rfl rfl ?_
    rcases h3 with h3 | h3
    · exact .inl h3
    · exact .inr (fun i hi => Nat.le_trans (Nat.le_trans HB2.out.size hO.size) (h3 i hi)))
  have HI2 := Lib.hid (HI.out (W2.alloc (.cells #[.int .i64 x1, .int .i64 x2, .int .i64 x3, .int .i64 x4, .string x5] 57)).drew ⟨rfl, rfl, rfl, by simp [World.drew], fun j hj _ => Below.heap_alloc W2 _ j hj⟩ (heap_alloc_new W2 _))
  have n5 : (W2.alloc (.cells #[.int .i64 x1, .int .i64 x2, .int .i64 x3, .int .i64 x4, .string x5] 57)).cell? ⟨p, 4, none⟩ = some wv := by rw [World.cell?_alloc_lt _ _ ⟨p, 4, none⟩ HN2.out.lt]; exact n4
  go_upto_region 2 with fail
  go_region_with (first | (go_at_call 21; refine HI2.out.mono ?_; rintro e w' ⟨a, n, c, rfl, hc4, hf4, HT⟩))
  all_goals (go_wp2_with fail)
  all_goals (go_end0; exact ⟨rfl, HT.out⟩)
end Go.Proofs.Ytbmlgnmilolamaa
