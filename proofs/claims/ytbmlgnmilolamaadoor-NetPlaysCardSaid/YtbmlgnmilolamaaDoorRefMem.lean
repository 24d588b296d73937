/-
  The document's net in memory. No statement is proved here.
-/
import Derived.Test.YtbmlgnmilolamaaDoorCopyW
import Derived.Test.YtbmlgnmilolamaaDoorCodeN
namespace Go.Proofs.YtbmlgnmilolamaaDoor
open Go.RowKit
/-- A net in memory: its struct, its fates, what is under way. -/
structure RefAt (w : World) (p : Nat) (fv wv : Value) (σ : NetS) : Prop where
  pos : 0 < σ.ends
  hp : w.heap[p]? = some (.cells #[.int .i64 σ.ends, .int .i64 σ.now, .int .i64 σ.sent, fv, wv] 50 (0, 0))
  hf : w.ownsRow 0 44 3 fv σ.fates.length (rowC faC σ.fates)
  hw : w.ownsRow 0 78 5 wv σ.way.length (rowC unC σ.way)
theorem RefAt.cell {w : World} {p : Nat} {fv wv : Value} {σ : NetS} (h : RefAt w p fv wv σ) (i : Nat) : w.cell? ⟨p, i, none⟩ = (#[.int .i64 σ.ends, .int .i64 σ.now, .int .i64 σ.sent, fv, wv] : Array Value)[i]? := cell_of_row w p i _ _ _ h.hp
theorem RefAt.frozen {w : World} {p : Nat} {fv wv : Value} {σ : NetS} (h : RefAt w p fv wv σ) (i : Nat) : w.frozen? ⟨p, i, none⟩ = false := frozen_of_row w p i _ _ h.hp
theorem RefAt.lt {w : World} {p : Nat} {fv wv : Value} {σ : NetS} (h : RefAt w p fv wv σ) : p < w.heap.size := (Array.getElem?_eq_some_iff.1 h.hp).1
theorem RefAt.way_ne {w : World} {p : Nat} {fv wv : Value} {σ : NetS} (h : RefAt w p fv wv σ) : wv.ownBlock ≠ some p := fun e => by
  obtain ⟨cs, fr, hc⟩ := ownsRow_type h.hw e
  exact heap_ne hc h.hp (by decide) rfl
theorem RefAt.fate_ne {w : World} {p : Nat} {fv wv : Value} {σ : NetS} (h : RefAt w p fv wv σ) : ∀ g, fv.ownBlock = some g → ¬ foot p wv g := fun g hg hf => by
  obtain ⟨cs, fr, hc⟩ := ownsRow_type h.hf hg
  rcases hf with rfl | hf
  · exact heap_ne hc h.hp (by decide) rfl
  · obtain ⟨cs2, fr2, hc2⟩ := ownsRow_type h.hw hf
    exact heap_ne hc hc2 (by decide) rfl
theorem RefAt.keep {S : Nat → Prop} {w w' : World} {p : Nat} {fv wv : Value} {σ : NetS} (h : RefAt w p fv wv σ) (ho : Only S w w') (h1 : ¬ S p) (h2 : ∀ g, fv.ownBlock = some g → ¬ S g) (h3 : ∀ g, wv.ownBlock = some g → ¬ S g) : RefAt w' p fv wv σ :=
  ⟨h.pos, ho.heap h.hp h1, ownsRow_keep h.hf ho h2, ownsRow_keep h.hw ho h3⟩
theorem RefAt.below {w w' : World} {p : Nat} {fv wv : Value} {σ : NetS} (h : RefAt w p fv wv σ) (hb : Below w.heap.size w w') : RefAt w' p fv wv σ :=
  h.keep (S := fun _ => False) (Only.of_below hb) (fun h => h) (fun _ _ h => h) (fun _ _ h => h)
/-- Where a call of a net leads. -/
def RefTo (w : World) (p : Nat) (fv wv : Value) (σ' : NetS) (w' : World) : Prop :=
  ∃ wv', RefAt w' p fv wv' σ' ∧ Only (foot p wv) w w' ∧ (wv'.ownBlock = wv.ownBlock ∨ ∀ k, wv'.ownBlock = some k → w.heap.size ≤ k)
theorem RefTo.trans {w w1 w2 : World} {p : Nat} {fv wv wv1 : Value} {σ2 : NetS} (h2 : Only (foot p wv) w w1) (h3 : wv1.ownBlock = wv.ownBlock ∨ ∀ k, wv1.ownBlock = some k → w.heap.size ≤ k)
    (k : RefTo w1 p fv wv1 σ2 w2) : RefTo w p fv wv σ2 w2 := by
  obtain ⟨wv2, k1, k2, k3⟩ := k
  refine ⟨wv2, k1, h2.trans k2 (fun i hi => ?_), ?_⟩
  · rcases hi with rfl | hi
    · exact .inl (.inl rfl)
    · rcases h3 with h3 | h3
      · exact .inl (.inr (h3.symm.trans hi))
      · exact .inr (h3 i hi)
  · rcases k3 with k3 | k3
    · rcases h3 with h3 | h3
      · exact .inl (k3.trans h3)
      · exact .inr (fun i hi => h3 i (k3.symm.trans hi))
    · exact .inr (fun i hi => Nat.le_trans h2.size (k3 i hi))
theorem RefTo.same {w w' : World} {p : Nat} {fv wv : Value} {σ : NetS} (h : RefAt w p fv wv σ) (hb : Below w.heap.size w w') : RefTo w p fv wv σ w' := ⟨wv, h.below hb, Only.of_below hb, .inl rfl⟩
/-- Behind it a block of another type is written. -/
theorem RefTo.after {w w1 w2 : World} {p : Nat} {fv wv : Value} {σ : NetS} {b : Nat} {cs : Array Value} {T : TypeId} {fr : Nat × Nat} (h : RefTo w p fv wv σ w1) (ho : Only (fun k => k = b) w1 w2) (hb : w.heap.size ≤ b) (ht : w1.heap[b]? = some (.cells cs T fr))
    (h1 : T ≠ 50) (h2 : T ≠ 78) (h3 : T ≠ 44) : RefTo w p fv wv σ w2 := by
  obtain ⟨wv', k1, k2, k3⟩ := h
  refine ⟨wv', k1.keep ho (heap_ne k1.hp ht h1.symm) (fun g hg => ?_) (fun g hg => ?_), k2.trans ho (fun i hi => .inr (by rw [hi]; exact hb)), k3⟩
  · obtain ⟨_, _, hc⟩ := ownsRow_type k1.hf hg
    exact heap_ne hc ht h3.symm
  · obtain ⟨_, _, hc⟩ := ownsRow_type k1.hw hg
    exact heap_ne hc ht h2.symm
/-- A number of the struct is written. -/
theorem RefAt.put {w : World} {p : Nat} {fv wv : Value} {σ : NetS} (h : RefAt w p fv wv σ) (i : Nat) (v wv' : Value) (σ' : NetS) (w1 : World) (hO : Only (foot p wv) w w1) (hrow : w1.heap[p]? = some (.cells #[.int .i64 σ.ends, .int .i64 σ.now, .int .i64 σ.sent, fv, wv] 50 (0, 0)))
    (hc : (#[.int .i64 σ.ends, .int .i64 σ.now, .int .i64 σ.sent, fv, wv] : Array Value).setIfInBounds i v = #[.int .i64 σ'.ends, .int .i64 σ'.now, .int .i64 σ'.sent, fv, wv'])
    (hw : w1.ownsRow 0 78 5 wv' σ'.way.length (rowC unC σ'.way)) (he : σ'.ends = σ.ends) (hfa : σ'.fates = σ.fates) (hfr : wv'.ownBlock = wv.ownBlock ∨ ∀ k, wv'.ownBlock = some k → w.heap.size ≤ k) : RefTo w p fv wv σ' (w1.setCell ⟨p, i, none⟩ v) := by
  have hO2 : Only (foot p wv) w (w1.setCell ⟨p, i, none⟩ v) := hO.setCell _ _ (.inl (.inl rfl))
  refine ⟨wv', ⟨by rw [he]; exact h.pos, ?_, ?_, ?_⟩, hO2, hfr⟩
  · rw [heap_setCell_same _ _ _ _ _ _ hrow, hc]
  · rw [hfa]
    exact ownsRow_keep h.hf hO2 h.fate_ne
  · refine ownsRow_keep (S := fun k => k = p) hw ((Only.refl _ _).setCell _ _ (.inl rfl)) (fun g hg e => ?_)
    subst e
    obtain ⟨cs, fr, hc2⟩ := ownsRow_type hw hg
    exact heap_ne hc2 hrow (by decide) rfl
theorem rway_view {w : World} {l : List Un} {wv : Value} (h : w.ownsRow 0 78 5 wv l.length (rowC unC l)) :
    ∃ a cap, wv = .slice a l.length cap ∧ l.length ≤ cap ∧ cap ≤ maxLen ∧ (0 < l.length → ∃ g, a = some ⟨g, 0, none⟩ ∧ ∀ j y, l[j]? = some y → UnAt w g j y) := by
  rcases h.2 with ⟨rfl, h0⟩ | ⟨g, cap, cur, rfl, _, hg, h1, h2, h3, htake⟩
  · exact ⟨none, 0, by rw [h0], by omega, Nat.zero_le _, fun h => by omega⟩
  · refine ⟨some ⟨g, 0, none⟩, cap, rfl, h1, h2, fun _ => ⟨g, rfl, fun j y hy => ?_⟩⟩
    have key : ∀ i v, (unC y)[i]? = some v → w.cell? ⟨g, j * 5 + i, none⟩ = some v := fun i v hv => by
      have hr := rowC_at unC 5 unC_len l j i y v hy hv
      have hlt : j * 5 + i < l.length * 5 := by
        have := (List.getElem?_eq_some_iff.1 hr).1
        rw [rowC_length unC 5 unC_len] at this
        exact this
      rw [cell_of_row w g _ cur _ _ hg, ← Array.getElem?_toList]
      rw [← htake, List.getElem?_take, if_pos hlt] at hr
      exact hr
    exact ⟨key 0 _ rfl, key 1 _ rfl, key 2 _ rfl, key 3 _ rfl, key 4 _ rfl⟩
/-- Blocks of other types are as they were. -/
def RKept (w w' : World) : Prop := ∀ (b : Nat) (cs : Array Value) (T : TypeId) (fr : Nat × Nat), w.heap[b]? = some (.cells cs T fr) → T ≠ 50 → T ≠ 78 → w'.heap[b]? = some (.cells cs T fr)
theorem RKept.of_to {w w' : World} {p : Nat} {fv wv : Value} {σ σ' : NetS} (h : RefAt w p fv wv σ) (hT : RefTo w p fv wv σ' w') : RKept w w' := fun i cs T fr hi h1 h2 => by
  obtain ⟨_, _, k2, _⟩ := hT
  refine k2.heap hi (fun hf => ?_)
  rcases hf with rfl | hf
  · exact heap_ne hi h.hp h1 rfl
  · obtain ⟨_, _, hc⟩ := ownsRow_type h.hw hf
    exact heap_ne hi hc h2 rfl
theorem RKept.of_below {w w' : World} (h : Below w.heap.size w w') : RKept w w' := fun i _ _ _ hi _ _ => (h.block i (Array.getElem?_eq_some_iff.1 hi).1).trans hi
theorem ownsRow_at {w w' : World} {e : TypeId} {k : Nat} {v : Value} {n : Nat} {xs : List Value} (h : w.ownsRow 0 e k v n xs) (hk : ∀ (b : Nat) (cs : Array Value), w.heap[b]? = some (.cells cs e (0, 0)) → w'.heap[b]? = some (.cells cs e (0, 0))) : w'.ownsRow 0 e k v n xs := by
  refine ⟨h.1, ?_⟩
  rcases h.2 with hn | ⟨g, cap, cur, rfl, hb, hg, rest⟩
  · exact .inl hn
  · exact .inr ⟨g, cap, cur, rfl, hb, hk g _ hg, rest⟩
/-- What the program does to its net leaves the document's alone, and the other way round. -/
theorem RefAt.kept {w w' : World} {p : Nat} {fv wv : Value} {σ : NetS} (h : RefAt w p fv wv σ) (k : Kept w w') : RefAt w' p fv wv σ :=
  ⟨h.pos, k _ _ _ _ h.hp (by decide) (by decide), ownsRow_at h.hf (fun b cs hb => k b cs _ _ hb (by decide) (by decide)), ownsRow_at h.hw (fun b cs hb => k b cs _ _ hb (by decide) (by decide))⟩
theorem NetAt.rkept {w w' : World} {p : Nat} {fv wv : Value} {σ : NetS} (h : NetAt w p fv wv σ) (k : RKept w w') : NetAt w' p fv wv σ :=
  ⟨h.pos, k _ _ _ _ h.hp (by decide) (by decide), ownsRow_at h.hf (fun b cs hb => k b cs _ _ hb (by decide) (by decide)), ownsRow_at h.hw (fun b cs hb => k b cs _ _ hb (by decide) (by decide))⟩
end Go.Proofs.YtbmlgnmilolamaaDoor
