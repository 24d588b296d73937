/-
  Next. No statement is proved here.
-/
import Derived.Test.YtbmlgnmilolamaaInsertW
namespace Go.Proofs.Ytbmlgnmilolamaa
open Go.RowKit
def nextV : Option Pk → Value
  | none => pkV (0, 0, ⟨#[]⟩)
  | some q => pkV q
def NextIs (r : Option Pk × NetS) (w : World) (p : Nat) (fv wv : Value) (e : Ending) (w' : World) : Prop :=
  NetTo w p fv wv r.2 w' ∧ e = .returned (.tuple #[nextV r.1, .bool r.1.isSome])
theorem bof_none {w : World} {p : Nat} {fv wv : Value} {σ : NetS} (h : NetAt w p fv wv σ) (q : BOf w) : Calls Try.prog 16 #[.pointer (some ⟨p, 0, none⟩)] q.W fun e w' => e = .returned (.bool false) ∧ ∃ r : BOf w, w' = r.W :=
  bof_call ((none_at (h.below q.h)).mono fun _ _ ⟨he, hw⟩ => ⟨he, by rw [← hw]; exact Below.refl _ _⟩)
/-- The result's cells, all zero. -/
structure PkZ (w W : World) : Prop where
  c0 : W.cell? ⟨w.heap.size, 0, none⟩ = some (.int .i64 0)
  c1 : W.cell? ⟨w.heap.size, 1, none⟩ = some (.int .i64 0)
  c2 : W.cell? ⟨w.heap.size, 2, none⟩ = some (.string ⟨#[]⟩)
  f0 : W.frozen? ⟨w.heap.size, 0, none⟩ = false
  f1 : W.frozen? ⟨w.heap.size, 1, none⟩ = false
  f2 : W.frozen? ⟨w.heap.size, 2, none⟩ = false
  b : Below w.heap.size w W
  t : ∃ cs fr, W.heap[w.heap.size]? = some (.cells cs 33 fr)
theorem PkZ.new (w : World) : PkZ w (w.alloc (.cells #[.int .i64 0, .int .i64 0, .string ⟨#[]⟩] 33)) := by
  refine ⟨?_, ?_, ?_, ?_, ?_, ?_, (Below.refl _ _).alloc (Nat.le_refl _) _, ⟨_, _, heap_alloc_new w _⟩⟩
  all_goals first | (rw [World.cell?_alloc_mark]; rfl) | (rw [World.frozen?_alloc_mark]; rfl)
theorem PkZ.below {w W W' : World} (h : PkZ w W) (hb : Below W.heap.size W W') : PkZ w W' :=
  have hlt := World.block_lt_of_cell? W _ h.c0
  ⟨(hb.cell (p := ⟨w.heap.size, 0, none⟩) hlt).trans h.c0, (hb.cell (p := ⟨w.heap.size, 1, none⟩) hlt).trans h.c1, (hb.cell (p := ⟨w.heap.size, 2, none⟩) hlt).trans h.c2,
   (hb.frozen (p := ⟨w.heap.size, 0, none⟩) hlt).trans h.f0, (hb.frozen (p := ⟨w.heap.size, 1, none⟩) hlt).trans h.f1, (hb.frozen (p := ⟨w.heap.size, 2, none⟩) hlt).trans h.f2, h.b.trans (hb.mono h.b.size), by
     obtain ⟨cs, fr, ht⟩ := h.t
     exact ⟨cs, fr, (hb.block _ hlt).trans ht⟩⟩
set_option maxHeartbeats 4000000 in
set_option maxRecDepth 100000 in
theorem Next_none (σ : NetS) (p : Nat) (fv wv : Value) (w : World) (h : NetAt w p fv wv σ) (hlen : σ.way.length ≤ 4096) (hno : ∀ x, σ.way[0]? = some x → σ.now < x.1) :
    Calls Try.prog 7 #[.pointer (some ⟨p, 0, none⟩)] w (NextIs (none, σ) w p fv wv) := by
  have HN := Lib.hid h
  obtain ⟨wa, wcap, rfl, hwc, hwm, hv⟩ := way_view h.hw
  obtain ⟨n, hn⟩ : ∃ n, σ.way.length = n := ⟨_, rfl⟩
  rw [hn] at HN hv hlen ⊢
  have HV := Lib.hid hv
  have HNL := Lib.hid hn
  have HNO := Lib.hid hno
  clear h hwc hv hn hno
  go_enter Try.func7, Try.ntmps7
  go_upto_region 1 with fail
  obtain ⟨W1, hW⟩ : ∃ W, w.alloc (.cells #[.int .i64 0, .int .i64 0, .string ⟨#[]⟩] 33) = W := ⟨_, rfl⟩
  have hz := PkZ.new w
  rw [hW] at hz
  rw [hW]
  have HZ := Lib.hid hz
  have hN1 := HN.out.below hz.b
  have HN1 := Lib.hid hN1
  have n1 : W1.cell? ⟨p, 1, none⟩ = some (.int .i64 σ.now) := hN1.cell 1
  have n4 : W1.cell? ⟨p, 4, none⟩ = some (.slice wa n wcap) := hN1.cell 4
  have m1 := bof_cell n1
  have m4 := bof_cell n4
  clear hz hN1 n1 n4 hW
  by_cases h0 : n = 0
  · subst h0
    refine wp_region_bof (by kernel_rfl) (by kernel_rfl) ?_
    repeat (go_big_quiet_step (first | (go_at_call 16; exact bof_none HN1.out _)))
    refine wpQuiet_nil ?_
    intro W3 hw'
    have hb3 := bof_below hw'
    have HZ3 := Lib.hid (HZ.out.below hb3)
    clear hw' hb3 m1 m4
    obtain ⟨c0, c1, c2, f0, f1, f2, _, _⟩ := HZ3.out
    go_wp2_with fail
    refine bodyPost_ret (v := .tuple #[pkV (0, 0, ⟨#[]⟩), .bool false]) (by simp [results, Try.results7, go_sem, asAddr, c0, c1, c2, pkV]) rfl ?_
    exact ⟨NetTo.same HN.out (((HZ3.out.b.setCell (Nat.le_refl _) _).setCell (Nat.le_refl _) _).setCell (Nat.le_refl _) _), rfl⟩
  · have hd1 : ((n : Int) == 0) = false := beq_eq_false_iff_ne.2 (by omega)
    obtain ⟨g, rfl, hg⟩ := HV.out (by omega)
    obtain ⟨x, hx⟩ : ∃ x, σ.way[0]? = some x := ⟨_, List.getElem?_eq_getElem (by have := HNL.out; omega)⟩
    have hu := (hg 0 x hx).below HZ.out.b
    have hlt := HNO.out x hx
    obtain ⟨x1, x2, x3, x4, x5⟩ := x
    have u0 := bof_cell hu.c0
    simp only [Nat.zero_mul] at u0 hlt
    have hd2 : decide ((σ.now : Int) < (x1 : Int)) = true := decide_eq_true (by omega)
    have hn0 : (0 : Int) < (n : Int) := by omega
    clear hu hg hx
    refine wp_region_bof (by kernel_rfl) (by kernel_rfl) ?_
    repeat (go_big_quiet_step (first | (go_at_call 16; exact bof_none HN1.out _)))
    refine wpQuiet_nil ?_
    intro W3 hw'
    have hb3 := bof_below hw'
    have HZ3 := Lib.hid (HZ.out.below hb3)
    clear hw' hb3 m1 m4
    obtain ⟨c0, c1, c2, f0, f1, f2, _, _⟩ := HZ3.out
    go_wp2_with fail
    refine bodyPost_ret (v := .tuple #[pkV (0, 0, ⟨#[]⟩), .bool false]) (by simp [results, Try.results7, go_sem, asAddr, c0, c1, c2, pkV]) rfl ?_
    exact ⟨NetTo.same HN.out (((HZ3.out.b.setCell (Nat.le_refl _) _).setCell (Nat.le_refl _) _).setCell (Nat.le_refl _) _), rfl⟩
theorem NetAt.drew {w : World} {p : Nat} {fv wv : Value} {σ : NetS} (h : NetAt w p fv wv σ) : NetAt w.drew p fv wv σ := ⟨h.pos, h.hp, h.hf, h.hw⟩
set_option maxHeartbeats 4000000 in
set_option maxRecDepth 100000 in
theorem Next_some (σ : NetS) (x : Un) (r : List Un) (p : Nat) (fv wv : Value) (w : World) (h : NetAt w p fv wv σ) (hlen : σ.way.length ≤ 4096) (hway : σ.way = x :: r) (hno : x.1 ≤ σ.now) :
    Calls Try.prog 7 #[.pointer (some ⟨p, 0, none⟩)] w (NextIs (some x.2.2, { σ with way := r }) w p fv wv) := by
  have HN := Lib.hid h
  have HWAY := Lib.hid hway
  obtain ⟨n, hn⟩ : ∃ n, σ.way.length = n := ⟨_, rfl⟩
  have hnr : n = r.length + 1 := by rw [← hn, hway]; rfl
  obtain ⟨g, cap, cur, rfl, hg, hcap, hcm, hcs, htake⟩ : ∃ g cap cur, wv = .slice (some ⟨g, 0, none⟩) n cap ∧ w.heap[g]? = some (.cells cur 57 (0, 0)) ∧ n ≤ cap ∧ cap ≤ maxLen ∧ cur.size = cap * 5 ∧ cur.toList.take (n * 5) = rowC unC σ.way := by
    rcases h.hw.2 with ⟨_, h0⟩ | ⟨g, cap, cur, h1, _, h3⟩
    · omega
    · rw [hn] at h1 h3
      exact ⟨g, cap, cur, h1, h3⟩
  obtain ⟨x1, x2, x3, x4, x5⟩ := x
  have hrow : ∀ j v, (rowC unC σ.way)[j]? = some v → w.cell? ⟨g, j, none⟩ = some v := fun j v hj => by
    rw [cell_of_row w g _ cur _ _ hg, ← Array.getElem?_toList]
    rw [← htake, List.getElem?_take] at hj
    split at hj
    · exact hj
    · cases hj
  rw [hway, rowC_cons] at hrow
  have HU : Hid (w.cell? ⟨g, 0, none⟩ = some (.int .i64 x1) ∧ w.cell? ⟨g, 2, none⟩ = some (.int .i64 x3) ∧ w.cell? ⟨g, 3, none⟩ = some (.int .i64 x4) ∧ w.cell? ⟨g, 4, none⟩ = some (.string x5)) := Lib.hid ⟨hrow 0 _ rfl, hrow 2 _ rfl, hrow 3 _ rfl, hrow 4 _ rfl⟩
  have HSRC : Hid (∀ j v, (rowC unC r)[j]? = some v → w.cell? ⟨g, 5 + j, none⟩ = some v) := Lib.hid (fun j v hj => hrow (5 + j) v (by
    rw [List.getElem?_append_right (by rw [unC_len]; omega), unC_len, Nat.add_sub_cancel_left]
    exact hj))
  have HG := Lib.hid hg
  have HCS := Lib.hid hcs
  have HNN := Lib.hid hn
  have hgl : g < w.heap.size := (Array.getElem?_eq_some_iff.1 hg).1
  have HSZ : Hid ((Try.prog.info? 57).map (·.size) = some 5) := Lib.hid (by
    obtain ⟨i0, hi, _, h1, _⟩ := info_parts info_one
    rw [hi]; simp [h1])
  unfold maxLen at hcm
  have HNR := Lib.hid hnr
  have hnpos : 0 < n := by omega
  simp only at hno
  clear h hway hrow htake hg hcs
  rw [hn] at hlen
  clear hn hnr
  go_enter Try.func7, Try.ntmps7
  go_upto_region 1 with fail
  obtain ⟨W1, hW⟩ : ∃ W, w.alloc (.cells #[.int .i64 0, .int .i64 0, .string ⟨#[]⟩] 33) = W := ⟨_, rfl⟩
  have hz := PkZ.new w
  rw [hW] at hz
  rw [hW]
  have HZ := Lib.hid hz
  have hN1 := HN.out.below hz.b
  have HN1 := Lib.hid hN1
  have n1 : W1.cell? ⟨p, 1, none⟩ = some (.int .i64 σ.now) := hN1.cell 1
  have n4 : W1.cell? ⟨p, 4, none⟩ = some (.slice (some ⟨g, 0, none⟩) n cap) := hN1.cell 4
  have m1 := bof_cell n1
  have m4 := bof_cell n4
  have u0 := bof_cell ((hz.b.cell (p := ⟨g, 0, none⟩) hgl).trans HU.out.1)
  clear hz hN1 n1 n4 hW
  have hd1 : ((n : Int) == 0) = false := beq_eq_false_iff_ne.2 (by omega)
  have hd2 : decide ((σ.now : Int) < (x1 : Int)) = false := decide_eq_false (by omega)
  have hn0 : (0 : Int) < (n : Int) := by omega
  refine wp_region_bof (by kernel_rfl) (by kernel_rfl) ?_
  repeat (go_big_quiet_step (first | (go_at_call 16; exact bof_none HN1.out _)))
  refine wpQuiet_nil ?_
  intro W3 hw'
  have hb3 := bof_below hw'
  have HZ3 := Lib.hid (HZ.out.below hb3)
  have hN3 := HN1.out.below hb3
  clear hw' hb3 m1 m4 u0
  have n4 : W3.cell? ⟨p, 4, none⟩ = some (.slice (some ⟨g, 0, none⟩) n cap) := hN3.cell 4
  have v2 := (HZ3.out.b.cell (p := ⟨g, 2, none⟩) hgl).trans HU.out.2.1
  have v3 := (HZ3.out.b.cell (p := ⟨g, 3, none⟩) hgl).trans HU.out.2.2.1
  have v4 := (HZ3.out.b.cell (p := ⟨g, 4, none⟩) hgl).trans HU.out.2.2.2
  clear hN3
  go_upto_region 4 with fail
  obtain ⟨W4, hW⟩ : ∃ W, W3.alloc (.cells #[.int .i64 x3, .int .i64 x4, .string x5] 33) = W := ⟨_, rfl⟩
  have hB4 : Below W3.heap.size W3 W4 := by rw [← hW]; exact (Below.refl _ _).alloc (Nat.le_refl _) _
  obtain ⟨qb, hqb⟩ : ∃ b, W3.heap.size = b := ⟨_, rfl⟩
  have hq : ∀ i v, (#[.int .i64 x3, .int .i64 x4, .string x5] : Array Value)[i]? = some v → W4.cell? ⟨qb, i, none⟩ = some v := fun i v h => by rw [← hW, ← hqb, World.cell?_alloc_mark]; exact h
  have hqg : g ≠ qb := by have := HZ3.out.b.size; omega
  have hqp : p ≠ qb := by have := HN.out.lt; have := HZ3.out.b.size; omega
  have hwp : w.heap.size ≠ qb := by have := World.block_lt_of_cell? W3 _ HZ3.out.c0; simp only at this; omega
  have hq0 := hq 0 _ rfl
  have hq1 := hq 1 _ rfl
  have hq2 := hq 2 _ rfl
  have HZ4 := Lib.hid (HZ3.out.below hB4)
  have HN4 := Lib.hid (HN.out.below HZ4.out.b)
  have HG4 : Hid (W4.heap[g]? = some (.cells cur 57 (0, 0))) := Lib.hid ((HZ4.out.b.block g hgl).trans HG.out)
  rw [hW]
  rw [hqb]
  clear hW hqb hq hB4 n4 v2 v3 v4
  obtain ⟨W5, hW5⟩ : ∃ W5, W5 = W4.drew.setRow g (cur.toList.take 0 ++ rowC unC r ++ cur.toList.drop (0 + (rowC unC r).length)).toArray := ⟨_, rfl⟩
  have hrl : (rowC unC r).length = (n - 1) * 5 := by rw [rowC_length unC 5 unC_len]; have := HNR.out; omega
  have hcp : ∀ o : Nat, (n ≠ 1 → o = 5) → ∀ ty dc sc, (Builtin.copy_ #[51, 51] ty #[.slice (some ⟨g, 0, none⟩) n dc, .slice (some ⟨g, o, none⟩) (n - 1) sc]).run Try.prog W4.drew = .ok (goInt ((n - 1 : Nat) : Nat)) W5 := fun o ho ty dc sc => by
    have := run_copy_k (P := Try.prog) W4.drew 51 51 ty 57 g 0 n dc ⟨g, o, none⟩ (n - 1) sc cur 57 (n - 1) 5 (rowC unC r) Try.underlying51 HSZ.out HG4.out (by simp only [Nat.min_def]; split <;> omega) hrl (fun j v hj => by
      by_cases h1 : n = 1
      · rw [h1] at hrl
        have := (List.getElem?_eq_some_iff.1 hj).1
        omega
      · rw [ho h1, show (⟨g, 5, none⟩ : Addr).add j = ⟨g, 5 + j, none⟩ by unfold Addr.add; split <;> simp_all]
        exact (HZ4.out.b.cell (p := ⟨g, 5 + j, none⟩) hgl).trans (HSRC.out j v hj)) (by rw [hrl, HCS.out]; omega) (rowC_one _)
    rw [this, hW5]
  have hO5 : Only (fun i => i = g) W4 W5 := by
    rw [hW5]
    exact (show Only (fun i => i = g) W4 W4.drew from ⟨rfl, rfl, rfl, Nat.le_refl _, fun _ _ _ => rfl⟩).setRow g _ (.inl rfl)
  have hpg : p ≠ g := fun e => HN.out.way_ne (by rw [e]; rfl)
  have hwg : w.heap.size ≠ g := by omega
  have HO5 := Lib.hid hO5
  have q0 : W5.cell? ⟨qb, 0, none⟩ = some (.int .i64 x3) := hO5.cell hq0 (fun h => hqg h.symm)
  have q1 : W5.cell? ⟨qb, 1, none⟩ = some (.int .i64 x4) := hO5.cell hq1 (fun h => hqg h.symm)
  have q2 : W5.cell? ⟨qb, 2, none⟩ = some (.string x5) := hO5.cell hq2 (fun h => hqg h.symm)
  have c0 := hO5.cell HZ4.out.c0 hwg
  have c1 := hO5.cell HZ4.out.c1 hwg
  have c2 := hO5.cell HZ4.out.c2 hwg
  have hzl : w.heap.size < W4.heap.size := World.block_lt_of_cell? W4 _ HZ4.out.c0
  have f0 := (hO5.frozen (a := ⟨w.heap.size, 0, none⟩) hzl hwg).trans HZ4.out.f0
  have f1 := (hO5.frozen (a := ⟨w.heap.size, 1, none⟩) hzl hwg).trans HZ4.out.f1
  have f2 := (hO5.frozen (a := ⟨w.heap.size, 2, none⟩) hzl hwg).trans HZ4.out.f2
  have k4 : W5.cell? ⟨p, 4, none⟩ = some (.slice (some ⟨g, 0, none⟩) n cap) := hO5.cell (HN4.out.cell 4) hpg
  have g4 : W5.frozen? ⟨p, 4, none⟩ = false := (hO5.frozen (a := ⟨p, 4, none⟩) HN4.out.lt hpg).trans (HN4.out.frozen 4)
  have HP5 : Hid (W5.heap[p]? = _) := Lib.hid (hO5.heap HN4.out.hp hpg)
  have HR5 : Hid (W5.ownsRow 0 57 5 (.slice (some ⟨g, 0, none⟩) (n - 1) cap) r.length (rowC unC r)) := Lib.hid (by
    have hl : (cur.toList.take 0 ++ rowC unC r ++ cur.toList.drop (0 + (rowC unC r).length) : List Value).length = cap * 5 := by
      rw [List.take_zero, List.nil_append, List.length_append, List.length_drop, Array.length_toList (xs := cur), HCS.out, hrl]; omega
    refine ⟨rowC_length unC 5 unC_len r, .inr ⟨g, cap, _, by rw [HNR.out]; rfl, Nat.zero_le _, by rw [hW5]; exact setRow_heap W4.drew g cur _ _ _ HG4.out, by have := HNR.out; omega, by unfold maxLen; exact hcm, by rw [List.size_toArray]; exact hl, ?_⟩⟩
    rw [List.take_zero, List.nil_append, ← rowC_length unC 5 unC_len r]
    exact List.take_left)
  have n4 : W4.cell? ⟨p, 4, none⟩ = some (.slice (some ⟨g, 0, none⟩) n cap) := HN4.out.cell 4
  have hw1 : IntKind.i64.wrap ((n : Int) - 1) = ((n - 1 : Nat) : Int) := by rw [IntKind.wrap_i64]; omega
  have hn1 : (1 : Int) ≤ (n : Int) := by omega
  have HEND : Hid (∀ wf : World, wf.os = W5.os → wf.tape = W5.tape → wf.output = W5.output → wf.heap = ((((W5.setCell ⟨p, 4, none⟩ (.slice (some ⟨g, 0, none⟩) (n - 1) cap)).setCell ⟨w.heap.size, 0, none⟩ (.int .i64 x3)).setCell ⟨w.heap.size, 1, none⟩ (.int .i64 x4)).setCell ⟨w.heap.size, 2, none⟩ (.string x5)).heap → NetTo w p fv (.slice (some ⟨g, 0, none⟩) n cap) { σ with way := r } wf) := Lib.hid (fun wf e1 e2 e3 e4 => by
    have hOf : Only (foot p (.slice (some ⟨g, 0, none⟩) n cap)) w W5 := (Only.of_below (S := foot p (.slice (some ⟨g, 0, none⟩) n cap)) HZ4.out.b).trans hO5 (fun i hi => .inl (.inr (by rw [hi]; rfl)))
    have hp := HN.out.put (wv' := .slice (some ⟨g, 0, none⟩) (n - 1) cap) 4 (.slice (some ⟨g, 0, none⟩) (n - 1) cap) { σ with way := r } W5 hOf HP5.out (by simp) HR5.out rfl rfl (.inl rfl)
    obtain ⟨cs, fr, ht⟩ := HZ4.out.t
    have ht5 := hO5.heap ht hwg
    have s1 : ∀ (W : World) (i : Nat) (v : Value), Only (fun k => k = w.heap.size) W (W.setCell ⟨w.heap.size, i, none⟩ v) := fun W i v => (Only.refl (fun k => k = w.heap.size) W).setCell ⟨w.heap.size, i, none⟩ v (.inl rfl)
    have hO6 := ((s1 (W5.setCell ⟨p, 4, none⟩ (.slice (some ⟨g, 0, none⟩) (n - 1) cap)) 0 (.int .i64 x3)).next (s1 _ 1 (.int .i64 x4))).next (s1 _ 2 (.string x5))
    have hpw : w.heap.size ≠ p := by have := HN.out.lt; omega
    have hfin := hp.after hO6 (Nat.le_refl _) (by rw [Below.heap_setCell _ _ _ _ hpw]; exact ht5) (by decide) (by decide) (by decide)
    obtain ⟨wv', k1, k2, k3⟩ := hfin
    refine ⟨wv', ⟨k1.pos, by rw [e4]; exact k1.hp, ?_, ?_⟩, ⟨e1.trans k2.os, e2.trans k2.tape, e3.trans k2.output, by rw [e4]; exact k2.size, fun k hk hS => by rw [e4]; exact k2.block k hk hS⟩, k3⟩
    · exact ownsRow_keep (S := fun _ => False) k1.hf ⟨e1, e2, e3, by rw [e4]; exact Nat.le_refl _, fun _ _ _ => by rw [e4]⟩ (fun _ _ h => h)
    · exact ownsRow_keep (S := fun _ => False) k1.hw ⟨e1, e2, e3, by rw [e4]; exact Nat.le_refl _, fun _ _ _ => by rw [e4]⟩ (fun _ _ h => h))
  clear hO5 hW5 hrl hq0 hq1 hq2 HG4
  by_cases hc1 : cap = 1
  · subst hc1
    obtain rfl : n = 1 := by omega
    have hcp2 := hcp 0 (fun h => absurd (by omega) h) 3 1 0
    clear hcp
    go_region_law (refine step_copy_runI rfl _ _ 51 51 rfl _ _ (by simp [Act.eval, Act.put]) (by simp [Act.eval, Act.put]) hcp2 ?_)
    all_goals (go_upto_region 5 with fail)
    all_goals go_region
    all_goals (go_wp2_with fail)
    all_goals (refine bodyPost_ret (v := .tuple #[pkV (x3, x4, x5), .bool true]) (by simp [results, Try.results7, go_sem, asAddr, c0, c1, c2, pkV]) rfl ?_)
    all_goals exact ⟨HEND.out _ rfl rfl rfl rfl, rfl⟩
  · have hcp2 := hcp 5 (fun _ => rfl) 3 cap (cap - 1)
    clear hcp
    go_region_law (refine step_copy_runI rfl _ _ 51 51 rfl _ _ (by simp [Act.eval, Act.put]) (by simp [Act.eval, Act.put]) hcp2 ?_)
    all_goals (go_upto_region 5 with fail)
    all_goals go_region
    all_goals (go_wp2_with fail)
    all_goals (refine bodyPost_ret (v := .tuple #[pkV (x3, x4, x5), .bool true]) (by simp [results, Try.results7, go_sem, asAddr, c0, c1, c2, pkV]) rfl ?_)
    all_goals exact ⟨HEND.out _ rfl rfl rfl rfl, rfl⟩
theorem Next_at (σ : NetS) (ok : NetOK σ) (p : Nat) (fv wv : Value) (w : World) (h : NetAt w p fv wv σ) :
    Calls Try.prog 7 #[.pointer (some ⟨p, 0, none⟩)] w (NextIs σ.next w p fv wv) := by
  unfold NetS.next
  split
  · next e => exact Next_none σ p fv wv w h ok.len (fun x hx => by rw [e] at hx; cases hx)
  · next x r e =>
    by_cases hl : σ.now < x.1
    · rw [if_pos hl]
      exact Next_none σ p fv wv w h ok.len (fun y hy => by rw [e] at hy; cases hy; exact hl)
    · rw [if_neg hl]
      exact Next_some σ x r p fv wv w h ok.len e (by omega)
end Go.Proofs.Ytbmlgnmilolamaa
