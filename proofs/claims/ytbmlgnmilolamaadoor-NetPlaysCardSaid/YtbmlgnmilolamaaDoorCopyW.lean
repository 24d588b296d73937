/-
  slices.Clone of those under way; Copy. No statement is proved here.
-/
import Derived.Test.YtbmlgnmilolamaaDoorLoseW
namespace Go.Proofs.YtbmlgnmilolamaaDoor
open Go.RowKit
def CloneOIs (l : List Un) (w : World) (e : Ending) (w' : World) : Prop :=
  ∃ a cap, e = .returned (.slice a l.length cap) ∧ w'.ownsRow 0 68 5 (.slice a l.length cap) l.length (rowC unC l) ∧ Below w.heap.size w w' ∧ (∀ g, (Value.slice a l.length cap).ownBlock = some g → w.heap.size ≤ g)
set_option maxHeartbeats 2000000 in
theorem CloneO_any (l : List Un) (wv : Value) (w : World) (h : w.ownsRow 0 68 5 wv l.length (rowC unC l)) (hl : l.length ≤ 5000) :
    Calls Tryd.prog 36 #[wv] w (CloneOIs l w) := by
  rcases h.2 with ⟨rfl, h0⟩ | ⟨g, cap, cur, rfl, _, hg, h1, h2, h3, h4⟩
  · have hfs : l = [] := List.eq_nil_of_length_eq_zero h0
    subst hfs
    have q := fun W => Lib.run_eql_slice_nil (P := Tryd.prog) W 54 _ none 0 0 0 0 Tryd.underlying54
    clear h
    go_enter Tryd.func36, Tryd.ntmps36
    go_wp2_with fail
    go_ret
    exact ⟨none, 0, rfl, World.ownsRow_nil _ _ _ _, Below.refl _ _, fun g hg => by cases hg⟩
  · have hnews : ∀ j u, (rowC unC l)[j]? = some u → w.cell? ((⟨g, 0, none⟩ : Addr).add j) = some u := h.cells (g := g) rfl
    obtain ⟨i0, hi, hz0, hz1, hz2⟩ := info_parts info_one
    obtain ⟨W1, hW1⟩ : ∃ W1, w.alloc (.cells #[] 68) = W1 := ⟨_, rfl⟩
    have hown : W1.ownsRow 0 68 5 (.slice (some ⟨w.heap.size, 0, none⟩) 0 0) 0 [] := by rw [← hW1]; exact World.ownsRow_made w #[] 0 (Nat.zero_le _) (Nat.zero_le _) rfl
    have hB : Below w.heap.size w W1 := by rw [← hW1]; exact (Below.refl _ _).alloc (Nat.le_refl _) _
    have hsz : W1.heap.size = w.heap.size + 1 := by rw [← hW1]; simp
    obtain ⟨v', w', hrun, g2, g3, g4⟩ := append_row (P := Tryd.prog) W1 54 54 68 i0 _ 5 48 Tryd.underlying54 hi hz0 hz1 hz2 rfl (by decide) _ 0 [] hown ⟨g, 0, none⟩ l.length cap (rowC unC l) (rowC_length unC 5 unC_len l) (fun j u hu => (hB.cell (World.block_lt_of_cell? w _ (hnews j u hu))).trans (hnews j u hu)) (rowC_one l) (by unfold maxLen; omega) (by omega)
    have HRUN := Lib.hid hrun
    have HE : Hid (CloneOIs l w (.returned v') w') := Lib.hid (by
      have hb : Below w.heap.size w w' := hB.grown g3 (by omega) (fun k hk => by simp [Value.ownBlock] at hk; omega)
      rw [Nat.zero_add, List.nil_append] at g2
      obtain ⟨a', c', rfl⟩ : ∃ a c, v' = .slice a l.length c := by
        rcases g2.2 with ⟨rfl, h0⟩ | ⟨g, c, _, rfl, _⟩
        · exact ⟨none, 0, by rw [h0]⟩
        · exact ⟨_, _, rfl⟩
      refine ⟨a', c', rfl, g2, hb, fun g hg => ?_⟩
      rcases g4 with g4 | g4
      · rw [hg] at g4
        injection g4 with g4
        exact Nat.le_of_eq g4.symm
      · have := g4 g hg
        omega)
    have q := fun W n => Lib.run_eql_slice_nil (P := Tryd.prog) W 54 _ (some ⟨g, 0, none⟩) n cap 0 0 Tryd.underlying54
    obtain ⟨n, hn⟩ : ∃ n, l.length = n := ⟨_, rfl⟩
    rw [hn] at HRUN ⊢
    clear h hrun g2 g3 g4 hown hB hnews hi hz0 hz1 hz2 hsz h1 h2 h3 h4 hg hn hl
    subst hW1
    go_enter Tryd.func36, Tryd.ntmps36
    go_wp2_with (at_builtin; refine wpList_append_run rfl _ _ 54 54 rfl _ _ rfl rfl HRUN.out ?_)
    go_ret
    exact HE.out
def faI (f : Fa) : FaI := (f.1, (f.2.1 : Int), (f.2.2 : Int))
theorem row_faI (l : List Fa) : rowC faIC (l.map faI) = rowC faC l := by
  induction l with
  | nil => rfl
  | cons f l ih => rw [List.map_cons, rowC_cons, rowC_cons, ih]; rfl
theorem faRow_of {w : World} {l : List Fa} {a : Option Addr} {c : Nat} (h : w.ownsRow 0 44 3 (.slice a l.length c) l.length (rowC faC l)) : FaRow w a l.length (l.map faI) := by
  refine ⟨List.length_map .., fun hl => ?_⟩
  obtain ⟨a', c', e, _, _, hv⟩ := fate_view h
  injection e with e1 _ _
  subst e1
  obtain ⟨g, rfl, hg⟩ := hv hl
  refine ⟨g, 0, rfl, fun i f hf => ?_⟩
  rw [List.getElem?_map] at hf
  obtain ⟨f', hf', rfl⟩ := Option.map_eq_some_iff.1 hf
  obtain ⟨c0, c1, c2⟩ := hg i f' hf'
  rw [Nat.zero_add]
  exact ⟨c0, c1, c2⟩
def CopyIs (σ : NetS) (w : World) (e : Ending) (w' : World) : Prop :=
  ∃ p fv wv, e = .returned (.pointer (some ⟨p, 0, none⟩)) ∧ NetAt w' p fv wv σ ∧ Below w.heap.size w w' ∧ w.heap.size ≤ p ∧ (∀ g, wv.ownBlock = some g → w.heap.size ≤ g)
set_option maxHeartbeats 4000000 in
set_option maxRecDepth 100000 in
theorem Copy_at (σ : NetS) (ok : NetOK σ) (hfl : σ.fates.length ≤ 1000) (p : Nat) (fv wv : Value) (w : World) (h : NetAt w p fv wv σ) :
    Calls Tryd.prog 18 #[.pointer (some ⟨p, 0, none⟩)] w (CopyIs σ w) := by
  have HN := Lib.hid h
  have HLEN := Lib.hid ok.len
  have H1 := Lib.hid (none_at h)
  obtain ⟨fa, fcap, rfl, _, hfm, _⟩ := fate_view h.hf
  obtain ⟨wa, wcap, rfl, _, hwm, _⟩ := way_view h.hw
  obtain ⟨n, hn⟩ : ∃ n, σ.fates.length = n := ⟨_, rfl⟩
  obtain ⟨m, hm⟩ : ∃ m, σ.way.length = m := ⟨_, rfl⟩
  have HNF := Lib.hid hn
  have HNW := Lib.hid hm
  rw [hn] at hfl
  have c0 : w.cell? ⟨p, 0, none⟩ = some (.int .i64 σ.ends) := h.cell 0
  have c1 : w.cell? ⟨p, 1, none⟩ = some (.int .i64 σ.now) := h.cell 1
  have c2 : w.cell? ⟨p, 2, none⟩ = some (.int .i64 σ.sent) := h.cell 2
  have c3 : w.cell? ⟨p, 3, none⟩ = some (.slice fa n fcap) := by rw [← hn]; exact h.cell 3
  have c4 : w.cell? ⟨p, 4, none⟩ = some (.slice wa m wcap) := by rw [← hm]; exact h.cell 4
  clear h ok hn hm
  go_enter Tryd.func18, Tryd.ntmps18
  go_wp2_with fail
  refine H1.out.mono ?_; rintro e w' ⟨rfl, rfl⟩
  go_upto_region 4 with fail
  obtain ⟨W1, hW⟩ : ∃ W, w.alloc (.cells #[.int .i64 σ.ends, .int .i64 σ.now, .int .i64 σ.sent, .slice fa n fcap, .slice wa m wcap] 56) = W := ⟨_, rfl⟩
  obtain ⟨cb, hcb⟩ : ∃ b, w.heap.size = b := ⟨_, rfl⟩
  have hB1 : Below w.heap.size w W1 := by rw [← hW]; exact (Below.refl _ _).alloc (Nat.le_refl _) _
  have HC1 : Hid (W1.heap[cb]? = some (.cells #[.int .i64 σ.ends, .int .i64 σ.now, .int .i64 σ.sent, .slice fa n fcap, .slice wa m wcap] 56 (0, 0))) := Lib.hid (by rw [← hW, ← hcb]; exact heap_alloc_new w _)
  have HB1 := Lib.hid hB1
  have HN1 := Lib.hid (HN.out.below hB1)
  rw [HNF.out, HNW.out] at HN1
  have hpl := HN1.out.lt
  rw [hW]
  rw [hcb]
  have k3 : W1.cell? ⟨p, 3, none⟩ = some (.slice fa n fcap) := HN1.out.cell 3
  have k4 : W1.cell? ⟨p, 4, none⟩ = some (.slice wa m wcap) := HN1.out.cell 4
  have HCF : Hid (Calls Tryd.prog 25 #[.slice fa n fcap] W1.drew fun e w' => ∃ a c, e = .returned (.slice a n c) ∧ w'.cell? ⟨p, 4, none⟩ = some (.slice wa m wcap) ∧ Hid (w'.ownsRow 0 44 3 (.slice a n c) n (rowC faC σ.fates) ∧ Below W1.heap.size W1 w')) := Lib.hid (by
    have hr := faRow_of (show W1.ownsRow 0 44 3 (.slice fa σ.fates.length fcap) σ.fates.length (rowC faC σ.fates) by have := HN1.out.hf; rw [HNF.out] at this ⊢; exact this)
    rw [HNF.out] at hr
    refine (CloneF_any fa n fcap (σ.fates.map faI) W1.drew hr hfl).mono ?_
    rintro e w' ⟨a, c, rfl, hown, hb, _⟩
    rw [List.length_map, HNF.out, row_faI] at hown
    rw [List.length_map, HNF.out]
    have hb' : Below W1.heap.size W1 w' := ⟨hb.os, hb.tape, hb.output, hb.size, hb.block⟩
    exact ⟨a, c, rfl, (hb'.cell (p := ⟨p, 4, none⟩) hpl).trans k4, hown, hb'⟩)
  have HCO : Hid (∀ W, Below W1.heap.size W1 W → Calls Tryd.prog 36 #[.slice wa m wcap] W fun e w' => ∃ a c, e = .returned (.slice a m c) ∧ w'.cell? ⟨cb, 3, none⟩ = some (.slice fa n fcap) ∧ w'.cell? ⟨cb, 4, none⟩ = some (.slice wa m wcap) ∧ w'.frozen? ⟨cb, 3, none⟩ = false ∧ w'.frozen? ⟨cb, 4, none⟩ = false ∧ Hid (w'.ownsRow 0 68 5 (.slice a m c) m (rowC unC σ.way) ∧ Below W.heap.size W w' ∧ ∀ g, (Value.slice a m c).ownBlock = some g → W.heap.size ≤ g)) := Lib.hid (fun W hW => by
    have hw := (HN1.out.below hW).hw
    refine (CloneO_any σ.way (.slice wa m wcap) W hw (by have := HLEN.out; omega)).mono ?_
    rintro e w' ⟨a, c, rfl, hown, hb, hge⟩
    rw [HNW.out] at hown hge ⊢
    have hc : w'.heap[cb]? = _ := ((hW.trans (hb.mono hW.size)).block cb (Array.getElem?_eq_some_iff.1 HC1.out).1).trans HC1.out
    exact ⟨a, c, rfl, by rw [cell_of_row w' cb 3 _ _ _ hc]; rfl, by rw [cell_of_row w' cb 4 _ _ _ hc]; rfl, frozen_of_row w' cb 3 _ _ hc, frozen_of_row w' cb 4 _ _ hc, hown, hb, hge⟩)
  have HCBW : Hid (w.heap.size = cb) := Lib.hid hcb
  have HPOS := Lib.hid HN1.out.pos
  have HEND : Hid (∀ (a2 : Option Addr) (c2 : Nat) (w2 : World) (a3 : Option Addr) (c3 : Nat) (w3 : World), (w2.ownsRow 0 44 3 (.slice a2 n c2) n (rowC faC σ.fates) ∧ Below W1.heap.size W1 w2) → (w3.ownsRow 0 68 5 (.slice a3 m c3) m (rowC unC σ.way) ∧ Below w2.heap.size w2 w3 ∧ ∀ g, (Value.slice a3 m c3).ownBlock = some g → w2.heap.size ≤ g) →
      CopyIs σ w (.returned (.pointer (some ⟨cb, 0, none⟩))) ((w3.setCell ⟨cb, 3, none⟩ (.slice a2 n c2)).setCell ⟨cb, 4, none⟩ (.slice a3 m c3))) := Lib.hid (fun a2 c2 w2 a3 c3 w3 h2 h3 => by
    obtain ⟨h2a, h2b⟩ := h2
    obtain ⟨h3a, h3b, h3c⟩ := h3
    have hc3 : w3.heap[cb]? = _ := ((h2b.trans (h3b.mono h2b.size)).block cb (Array.getElem?_eq_some_iff.1 HC1.out).1).trans HC1.out
    have s1 : ∀ (W : World) (i : Nat) (v : Value), Only (fun k => k = cb) W (W.setCell ⟨cb, i, none⟩ v) := fun W i v => (Only.refl (fun k => k = cb) W).setCell ⟨cb, i, none⟩ v (.inl rfl)
    have hO := (s1 w3 3 (.slice a2 n c2)).next (s1 _ 4 (.slice a3 m c3))
    have hf3 := ownsRow_keep (S := fun _ => False) h2a (Only.of_below h3b) (fun _ _ h => h)
    refine ⟨cb, .slice a2 n c2, .slice a3 m c3, rfl, ⟨HPOS.out, ?_, ?_, ?_⟩, ?_, by rw [HCBW.out]; exact Nat.le_refl _, fun g hg => Nat.le_trans (Nat.le_trans HB1.out.size h2b.size) (h3c g hg)⟩
    · rw [heap_setCell_same _ _ _ _ _ _ (heap_setCell_same _ _ _ _ _ _ hc3)]
      rfl
    · rw [HNF.out]
      refine ownsRow_keep hf3 hO (fun g hg e => ?_)
      subst e
      obtain ⟨_, _, hx⟩ := ownsRow_type hf3 hg
      exact heap_ne hx hc3 (by decide) rfl
    · rw [HNW.out]
      refine ownsRow_keep h3a hO (fun g hg e => ?_)
      subst e
      obtain ⟨_, _, hx⟩ := ownsRow_type h3a hg
      exact heap_ne hx hc3 (by decide) rfl
    · have hb := HB1.out.trans ((h2b.trans (h3b.mono h2b.size)).mono HB1.out.size)
      exact (hb.setCell (by rw [HCBW.out]; exact Nat.le_refl _) _).setCell (by rw [HCBW.out]; exact Nat.le_refl _) _)
  clear hW hB1 hcb c0 c1 c2 c3 c4
  go_region_with (first
    | (go_at_call 25; refine HCF.out.mono ?_; rintro e w2 ⟨a2, c2, rfl, j4, HF2⟩)
    | (go_at_call 36; refine (HCO.out _ HF2.out.2).mono ?_; rintro e w3 ⟨a3, c3, rfl, d3, d4, f3, f4, HO3⟩))
  all_goals (go_wp2_with fail)
  all_goals go_ret
  all_goals exact HEND.out _ _ _ _ _ _ HF2.out HO3.out
theorem mine_copy {w0 w : World} {p : Nat} {σ : NetS} (hfl : σ.fates.length ≤ 1000) (h : Mine w0 w p σ) :
    Calls Tryd.prog 18 #[.pointer (some ⟨p, 0, none⟩)] w fun e w' => ∃ p', e = .returned (.pointer (some ⟨p', 0, none⟩)) ∧ Mine w w' p' σ ∧ Below w.heap.size w w' := by
  obtain ⟨h1, h2, h3, fv, wv, h4, h5⟩ := h
  refine (Copy_at σ h2 hfl p fv wv w h4).mono ?_
  rintro e w' ⟨p', fv', wv', rfl, hN, hb, hp, hg⟩
  exact ⟨p', rfl, ⟨hb, h2, hp, fv', wv', hN, hg⟩, hb⟩
/-- What lies behind w lies behind w0. -/
theorem Mine.since {w0 w w' : World} {p : Nat} {σ : NetS} (h : Mine w w' p σ) (hb : Below w0.heap.size w0 w) : Mine w0 w' p σ := by
  obtain ⟨h1, h2, h3, fv, wv, h4, h5⟩ := h
  exact ⟨hb.trans (h1.mono hb.size), h2, Nat.le_trans hb.size h3, fv, wv, h4, fun g hg => Nat.le_trans hb.size (h5 g hg)⟩
end Go.Proofs.YtbmlgnmilolamaaDoor
