/-
  code.Reader.Uint. No statement is proved here.
-/
import Derived.Test.YtnfknbjdggkdpaaDoorKeepW
import Derived.Test.YtnfknbjdggkdpaaDoorErrVal
namespace Go.Proofs.YtnfknbjdggkdpaaDoor
open Go.RowKit
/-- All old blocks but g and b are as they were. -/
structure But2 (w w' : World) (g b : Nat) : Prop where
  os : w'.os = w.os
  tape : w'.tape = w.tape
  output : w'.output = w.output
  size : w.heap.size ≤ w'.heap.size
  block : ∀ k, k < w.heap.size → k ≠ g → k ≠ b → w'.heap[k]? = w.heap[k]?
theorem But2.refl (w : World) (g b : Nat) : But2 w w g b := ⟨rfl, rfl, rfl, Nat.le_refl _, fun _ _ _ _ => rfl⟩
theorem But2.of {w w' : World} {g b : Nat} (h : w.grownBy w' (some g)) : But2 w w' g b := ⟨h.os, h.tape, h.output, h.size, fun k hk hg _ => h.block k hk (by simpa using hg)⟩
theorem But2.set {w w' : World} {g b : Nat} (h : But2 w w' g b) (a : Addr) (ha : a.block = g ∨ a.block = b) (u : Value) : But2 w (w'.setCell a u) g b :=
  ⟨h.os, h.tape, h.output, by simpa [World.setCell] using h.size, fun k hk hg hb => by
    rw [Below.heap_setCell _ _ _ _ (by rcases ha with ha | ha <;> omega)]
    exact h.block k hk hg hb⟩
theorem But2.drewN {w w' : World} {g b : Nat} (h : But2 w w' g b) (n : Nat) : But2 w (w'.drewN n) g b := by
  have hb := below_drewN (Below.refl w'.heap.size w') n
  exact ⟨hb.os.trans h.os, hb.tape.trans h.tape, hb.output.trans h.output, Nat.le_trans h.size hb.size, fun k hk h1 h2 => (hb.block k (Nat.lt_of_lt_of_le hk h.size)).trans (h.block k hk h1 h2)⟩
/-- From a world in which b is new: what came before is as it was, but g. -/
theorem But2.out {w W w' : World} {g b : Nat} (h0 : Below w.heap.size w W) (hb : w.heap.size ≤ b) (h : But2 W w' g b) : w.grownBy w' (some g) :=
  ⟨h.os.trans h0.os, h.tape.trans h0.tape, h.output.trans h0.output, Nat.le_trans h0.size h.size, fun k hk hg => (h.block k (Nat.lt_of_lt_of_le hk h0.size) (by simpa using hg) (by omega)).trans (h0.block k hk)⟩
theorem but_below {w w1 w' : World} {r : Option Nat} (h : w.grownBy w1 r) (hb : Below w1.heap.size w1 w') : w.grownBy w' r :=
  ⟨hb.os.trans h.os, hb.tape.trans h.tape, hb.output.trans h.output, Nat.le_trans h.size hb.size, fun k hk hne => (hb.block k (Nat.lt_of_lt_of_le hk h.size)).trans (h.block k hk hne)⟩
theorem heap_size_set (w : World) (a : Addr) (u : Value) : (w.setCell a u).heap.size = w.heap.size := by simp [World.setCell]
theorem RAt.setO {w : World} {g b : Nat} {s : ByteArray} {at_ : Nat} (h : RAt w g s at_) (hne : g ≠ b) (u : Value) : RAt (w.setCell ⟨b, 0, none⟩ u) g s at_ := by
  refine ⟨?_, ?_, ?_⟩
  · rw [World.cell?_setCell_other _ _ _ _ (by intro e; injection e with e1 _; exact hne e1.symm)]; exact h.1
  · rw [World.cell?_setCell_other _ _ _ _ (by intro e; injection e with e1 _; exact hne e1.symm)]; exact h.2.1
  · rw [World.frozen?_setCell]; exact h.2.2
theorem but_setN {w w' : World} {r : Option Nat} (h : w.grownBy w' r) (b : Nat) (u : Value) (hb : w.heap.size ≤ b) : w.grownBy (w'.setCell ⟨b, 0, none⟩ u) r :=
  ⟨h.os, h.tape, h.output, by simpa [World.setCell] using h.size, fun k hk hne => by
    rw [Below.heap_setCell _ _ _ _ (by simp only; omega)]
    exact h.block k hk hne⟩
theorem FaultAt.setO {w : World} {b : Nat} {c at_ : Int} {p : Nat} {v u : Value} (h : FaultAt w b c at_) (hv : w.cell? ⟨p, 0, none⟩ = some v) (hn : ∀ z : Int, v ≠ .int .i64 z) : FaultAt (w.setCell ⟨p, 0, none⟩ u) b c at_ := by
  have hne : b ≠ p := by
    intro e
    subst e
    exact hn _ (Option.some.inj (hv.symm.trans h.1))
  obtain ⟨h1, h2, h3, h4⟩ := h
  have key : ∀ j, (w.setCell ⟨p, 0, none⟩ u).cell? ⟨b, j, none⟩ = w.cell? ⟨b, j, none⟩ := fun j => World.cell?_setCell_other _ _ _ _ (by intro e; injection e with e1 _; exact hne e1.symm)
  exact ⟨(key 0).trans h1, (key 1).trans h2, (key 2).trans h3, (key 3).trans h4⟩
/-- What a closure leaves: its number c0; its answer x in the cell b; the reader, k further on, or somewhere. -/
def RBox (x : Value) (c0 k g b : Nat) (s : ByteArray) (at_ : Nat) (W : World) (c : Nat) (w' : World) : Prop :=
  c = c0 ∧ w'.cell? ⟨b, 0, none⟩ = some x ∧ w'.frozen? ⟨b, 0, none⟩ = false ∧ (c0 = 0 → RAt w' g s (at_ + k)) ∧ (∃ j, RAt w' g s j) ∧ But2 W w' g b
theorem boxes3 (w : World) (x y z : Value) (t1 t2 t3 : TypeId) :
    (((w.alloc (.cells #[x] t1)).alloc (.cells #[y] t2)).alloc (.cells #[z] t3)).cell? ⟨w.heap.size, 0, none⟩ = some x ∧
    (((w.alloc (.cells #[x] t1)).alloc (.cells #[y] t2)).alloc (.cells #[z] t3)).cell? ⟨w.heap.size + 1, 0, none⟩ = some y ∧
    (((w.alloc (.cells #[x] t1)).alloc (.cells #[y] t2)).alloc (.cells #[z] t3)).cell? ⟨w.heap.size + 1 + 1, 0, none⟩ = some z ∧
    (((w.alloc (.cells #[x] t1)).alloc (.cells #[y] t2)).alloc (.cells #[z] t3)).frozen? ⟨w.heap.size + 1 + 1, 0, none⟩ = false ∧
    Below w.heap.size w (((w.alloc (.cells #[x] t1)).alloc (.cells #[y] t2)).alloc (.cells #[z] t3)) ∧
    (((w.alloc (.cells #[x] t1)).alloc (.cells #[y] t2)).alloc (.cells #[z] t3)).heap.size = w.heap.size + 3 := by
  have s1 : (w.alloc (.cells #[x] t1)).heap.size = w.heap.size + 1 := by simp
  have s2 : ((w.alloc (.cells #[x] t1)).alloc (.cells #[y] t2)).heap.size = w.heap.size + 1 + 1 := by simp
  refine ⟨?_, ?_, ?_, ?_, ?_, by simp⟩
  · rw [World.cell?_alloc_lt _ _ _ (by simp; omega), World.cell?_alloc_lt _ _ _ (by simp), World.cell?_alloc_mark]; rfl
  · rw [World.cell?_alloc_lt _ _ _ (by simp), ← s1, World.cell?_alloc_mark]; rfl
  · rw [← s2, World.cell?_alloc_mark]; rfl
  · rw [← s2, World.frozen?_alloc_mark]; rfl
  · exact (((Below.refl _ _).alloc (Nat.le_refl _) _).alloc (by simp) _).alloc (by simp; omega) _
set_option maxHeartbeats 1000000 in
theorem Uint1_any (most g b0 b1 b2 : Nat) (s : ByteArray) (at_ x c k : Nat) (w : World) (u : Value) (hN : numR most (s.data.toList.drop at_) = (x, c, k)) (hm : most < 18446744073709551616) (hs : s.size ≤ 140737488355328) (ha : at_ ≤ s.size) (hr : RAt w g s at_)
    (h0 : w.cell? ⟨b0, 0, none⟩ = some (.pointer (some ⟨g, 0, none⟩))) (h1 : w.cell? ⟨b1, 0, none⟩ = some (.int .u64 most)) (h2 : w.cell? ⟨b2, 0, none⟩ = some u) (hf : w.frozen? ⟨b2, 0, none⟩ = false) (hg : g ≠ b2) :
    Calls Tryd.prog 45 #[.pointer (some ⟨b0, 0, none⟩), .pointer (some ⟨b1, 0, none⟩), .pointer (some ⟨b2, 0, none⟩)] w (DoIs g s (RBox (.int .u64 x) c k g b2 s at_ w)) := by
  have hN0 := number_any most g s at_ w hm hs ha hr
  unfold NumIs at hN0
  rw [hN] at hN0
  have HN := Lib.hid hN0
  clear hr hN hN0
  go_enter Tryd.func45, Tryd.ntmps45
  go_wp2_with fail
  refine HN.out.mono ?_; rintro e w1 ⟨k', hk, rfl, hc, hr1, hg1⟩
  have hblk := hg1.block b2 (World.block_lt_of_cell? w _ h2) (by simpa using fun e => hg e.symm)
  have h2' : w1.cell? ⟨b2, 0, none⟩ = some u := (World.cell?_of_block (a := ⟨b2, 0, none⟩) hblk).trans h2
  have hf' : w1.frozen? ⟨b2, 0, none⟩ = false := (World.frozen?_of_block (a := ⟨b2, 0, none⟩) hblk).trans hf
  have HC := Lib.hid hc
  have HR1 := Lib.hid hr1
  have HG1 := Lib.hid hg1
  clear hc hr1 hg1 hblk
  go_wp2_with fail
  go_ret
  refine ⟨c, rfl, ⟨rfl, by rw [World.cell?_setCell_same _ _ _ h2'], by rw [World.frozen?_setCell]; exact hf', fun h0 => ?_, ⟨_, HR1.out.setO hg _⟩, (But2.of HG1.out).set _ (.inr rfl) _⟩, _, HR1.out.setO hg _⟩
  rw [← HC.out h0]
  exact HR1.out.setO hg _
/-- What a method of a reader answers: x and an error of number c (0: none); the reader k further on, or where it was. -/
def MethodIs (x : Value) (c k g : Nat) (s : ByteArray) (at_ : Nat) (w : World) (e : Ending) (w' : World) : Prop :=
  ∃ E, e = .returned (.tuple #[x, E]) ∧ ErrVal w' E c at_ ∧ RAt w' g s (if c = 0 then at_ + k else at_) ∧ w.grownBy w' (some g)
theorem ErrVal.setO {w : World} {E : Value} {c : Nat} {at_ : Int} {p : Nat} {v u : Value} (h : ErrVal w E c at_) (hv : w.cell? ⟨p, 0, none⟩ = some v) (hn : ∀ z : Int, v ≠ .int .i64 z) : ErrVal (w.setCell ⟨p, 0, none⟩ u) E c at_ := by
  rcases h with h | ⟨h1, h2, b, h3, h4⟩
  · exact .inl h
  · exact .inr ⟨h1, h2, b, h3, h4.setO hv hn⟩
def KeepBox (x : Value) (c k g b : Nat) (s : ByteArray) (at_ : Nat) (w : World) (e : Ending) (w' : World) : Prop :=
  ∃ E, e = .returned E ∧ ErrVal w' E c at_ ∧ w'.cell? ⟨b, 0, none⟩ = some x ∧ w'.frozen? ⟨b, 0, none⟩ = false ∧ RAt w' g s (if c = 0 then at_ + k else at_) ∧ w.grownBy w' (some g)
theorem keep_box (F : FuncId) (caps : Array Value) (x : Value) (c k g b : Nat) (s : ByteArray) (at_ : Nat) (w W : World) (hB : Below w.heap.size w W) (hb : w.heap.size ≤ b) (hg : g < w.heap.size) (hr : RAt W g s at_)
    (hcf : ∀ w, (callFunc F caps).run Tryd.prog w = .ok (.enter F caps) w) (hdo : Calls Tryd.prog F caps W (DoIs g s (RBox x c k g b s at_ W))) (hc100 : c < 100) :
    Calls Tryd.prog 44 #[.pointer (some ⟨g, 0, none⟩), .func (.func F) #[] caps] W (KeepBox x c k g b s at_ w) := by
  refine (keep_any F caps g s at_ W _ hr hcf hdo).mono ?_
  rintro e w1 (⟨⟨rfl, hx, hxf, h0, _, hG⟩, rfl⟩ | ⟨c', w2, bb, hc0, ⟨rfl, hx, hxf, _, ⟨j, hk⟩, hG⟩, rfl, hF, hbb⟩)
  · exact ⟨_, rfl, .inl ⟨rfl, rfl⟩, hx, hxf, h0 rfl, hG.out hB hb⟩
  · have hk2 := (hk.set at_).below (w' := w1) (by rw [heap_size_set]; exact hbb)
    have hlt2 := World.block_lt_of_cell? w2 _ hx
    refine ⟨_, rfl, .inr ⟨hc0, hc100, bb, rfl, hF⟩, ?_, ?_, by rw [if_neg hc0]; exact hk2, but_below (w1 := w2.setCell ⟨g, 1, none⟩ (.int .i64 (at_ : Int))) (but_set (hG.out hB hb) 1 _) (by rw [heap_size_set]; exact hbb)⟩
    · rw [hbb.cell (p := ⟨b, 0, none⟩) hlt2, World.cell?_setCell_other _ _ _ _ (by intro e; injection e with e1 e2; omega)]
      exact hx
    · rw [hbb.frozen (p := ⟨b, 0, none⟩) hlt2, World.frozen?_setCell]
      exact hxf
set_option maxHeartbeats 1000000 in
set_option maxRecDepth 100000 in
theorem RUint_any (most g : Nat) (s : ByteArray) (at_ x c k : Nat) (w : World) (hN : numR most (s.data.toList.drop at_) = (x, c, k)) (hm : most < 18446744073709551616) (hs : s.size ≤ 140737488355328) (ha : at_ ≤ s.size) (hr : RAt w g s at_) :
    Calls Tryd.prog 20 #[.pointer (some ⟨g, 0, none⟩), .int .u64 most] w (MethodIs (.int .u64 x) c k g s at_ w) := by
  have hlt := hr.lt
  have HR := Lib.hid hr
  have HNN := Lib.hid hN
  have hc100 : c < 100 := by have := (numR_len most (s.data.toList.drop at_)).2.2.2.1; rw [hN] at this; exact this
  clear hr hN
  go_enter Tryd.func20, Tryd.ntmps20
  go_wp2_with fail
  obtain ⟨W, hW⟩ : ∃ W, ((w.alloc (.cells #[.pointer (some ⟨g, 0, none⟩)] 30)).alloc (.cells #[.int .u64 most] 22)).alloc (.cells #[.int .u64 0] 22) = W := ⟨_, rfl⟩
  obtain ⟨c0, c1, c2, cf, hB, hz⟩ := boxes3 w (.pointer (some ⟨g, 0, none⟩)) (.int .u64 most) (.int .u64 0) 30 22 22
  rw [hW] at c0 c1 c2 cf hB hz ⊢
  have hr1 := HR.out.below hB
  refine (keep_box _ _ (.int .u64 x) c k g _ s at_ w W hB (by omega) hlt hr1 (enter45 _) (Uint1_any most g w.heap.size (w.heap.size + 1) (w.heap.size + 1 + 1) s at_ x c k W _ HNN.out hm hs ha hr1 c0 c1 c2 cf (by omega)) hc100).mono ?_
  clear hr1 c0 c1 c2 cf hW
  rintro e w1 ⟨E, rfl, hE, hx, hxf, hR, hO⟩
  have HE := Lib.hid hE
  have HR1 := Lib.hid hR
  have HO := Lib.hid hO
  clear hE hR hO
  go_wp2_with fail
  have hcell : (w1.setCell ⟨w.heap.size + 1 + 1, 0, none⟩ (.int .u64 (x : Int))).cell? ⟨w.heap.size + 1 + 1, 0, none⟩ = some (.int .u64 (x : Int)) := by rw [World.cell?_setCell_same _ _ _ hx]
  refine bodyPost_ret (v := .tuple #[.int .u64 x, E]) (by simp [results, Tryd.results20, go_sem, asAddr, hcell]) rfl ⟨E, rfl, HE.out.setO hx ?_, HR1.out.setO (by omega) _, but_setN HO.out _ _ (by omega)⟩
  intro z e; cases e
theorem RUint_nil (most : Nat) (w : World) : Calls Tryd.prog 20 #[.pointer none, .int .u64 most] w fun e w' => ∃ E, e = .returned (.tuple #[.int .u64 0, E]) ∧ ErrVal w' E 1 (-1) ∧ Below w.heap.size w w' := by
  go_enter Tryd.func20, Tryd.ntmps20
  go_wp2_with fail
  obtain ⟨W, hW⟩ : ∃ W, ((w.alloc (.cells #[.pointer none] 30)).alloc (.cells #[.int .u64 most] 22)).alloc (.cells #[.int .u64 0] 22) = W := ⟨_, rfl⟩
  obtain ⟨c0, c1, c2, cf, hB, hz⟩ := boxes3 w (.pointer none) (.int .u64 most) (.int .u64 0) 30 22 22
  rw [hW] at c0 c1 c2 cf hB hz ⊢
  refine (keep_nil _ _).mono ?_
  rintro e w1 ⟨b, rfl, hF, hb⟩
  have hlt : w.heap.size + 1 + 1 < W.heap.size := by omega
  have hx : w1.cell? ⟨w.heap.size + 1 + 1, 0, none⟩ = some (.int .u64 0) := (hb.cell (p := ⟨w.heap.size + 1 + 1, 0, none⟩) hlt).trans c2
  have hxf : w1.frozen? ⟨w.heap.size + 1 + 1, 0, none⟩ = false := (hb.frozen (p := ⟨w.heap.size + 1 + 1, 0, none⟩) hlt).trans cf
  have hO := hB.trans (hb.mono (by omega))
  have HF := Lib.hid hF
  clear hF hb c0 c1 c2 cf hW
  go_wp2_with fail
  have hcell : (w1.setCell ⟨w.heap.size + 1 + 1, 0, none⟩ (.int .u64 0)).cell? ⟨w.heap.size + 1 + 1, 0, none⟩ = some (.int .u64 0) := by rw [World.cell?_setCell_same _ _ _ hx]
  refine bodyPost_ret (v := .tuple #[.int .u64 0, .iface 115 (.pointer (some ⟨b, 0, none⟩))]) (by simp [results, Tryd.results20, go_sem, asAddr, hcell]) rfl ⟨_, rfl, .inr ⟨by decide, by decide, b, rfl, HF.out.setO hx ?_⟩, hO.setCell (by simp only; omega) _⟩
  intro z e; cases e
theorem End_nil (w : World) : Calls Tryd.prog 42 #[.pointer none] w fun e w' => ∃ E, e = .returned E ∧ ErrVal w' E 1 (-1) ∧ Below w.heap.size w w' := by
  go_enter Tryd.func42, Tryd.ntmps42
  go_wp2_with fail
  have hB : Below w.heap.size w (w.alloc (.cells #[.pointer none] 30)) := (Below.refl _ _).alloc (Nat.le_refl _) _
  refine (keep_nil _ _).mono ?_
  rintro e w1 ⟨b, rfl, hF, hb⟩
  have hO := hB.trans (hb.mono hB.size)
  have HF := Lib.hid hF
  clear hF hb
  go_wp2_with fail
  go_ret
  exact ⟨_, rfl, .inr ⟨by decide, by decide, b, rfl, HF.out⟩, hO⟩
end Go.Proofs.YtnfknbjdggkdpaaDoor
