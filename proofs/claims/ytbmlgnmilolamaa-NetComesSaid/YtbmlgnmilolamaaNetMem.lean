/-
  A net in memory: what lies where; what a call leaves alone. No statement is proved here.
-/
import Derived.Test.YtbmlgnmilolamaaNetPlain
import Derived.Test.YtbmlgnmilolamaaBofW
import Derived.Laws.CopyOwn
import Derived.Laws.AppendOwn
import Derived.Laws.StructEq
namespace Go.Proofs.Ytbmlgnmilolamaa
open Go.RowKit
/-- Nothing turns but blocks of S and new ones. -/
structure Only (S : Nat → Prop) (w w' : World) : Prop where
  os : w'.os = w.os
  tape : w'.tape = w.tape
  output : w'.output = w.output
  size : w.heap.size ≤ w'.heap.size
  block : ∀ k, k < w.heap.size → ¬ S k → w'.heap[k]? = w.heap[k]?
theorem Only.refl (S : Nat → Prop) (w : World) : Only S w w := ⟨rfl, rfl, rfl, Nat.le_refl _, fun _ _ _ => rfl⟩
theorem Only.trans {S T : Nat → Prop} {a b c : World} (h : Only S a b) (k : Only T b c) (hT : ∀ i, T i → S i ∨ a.heap.size ≤ i) : Only S a c :=
  ⟨k.os.trans h.os, k.tape.trans h.tape, k.output.trans h.output, Nat.le_trans h.size k.size, fun i hi hS => (k.block i (Nat.lt_of_lt_of_le hi h.size) (fun ht => by
    rcases hT i ht with h1 | h1
    · exact hS h1
    · omega)).trans (h.block i hi hS)⟩
theorem Only.next {S : Nat → Prop} {a b c : World} (h : Only S a b) (k : Only S b c) : Only S a c := h.trans k (fun _ h => .inl h)
theorem Only.mono {S T : Nat → Prop} {a b : World} (h : Only S a b) (hT : ∀ i, S i → T i ∨ a.heap.size ≤ i) : Only T a b :=
  ⟨h.os, h.tape, h.output, h.size, fun i hi hS => h.block i hi (fun hs => by
    rcases hT i hs with h1 | h1
    · exact hS h1
    · omega)⟩
theorem Only.of_below {S : Nat → Prop} {w w' : World} (h : Below w.heap.size w w') : Only S w w' := ⟨h.os, h.tape, h.output, h.size, fun k hk _ => h.block k hk⟩
theorem Only.of_grown {S : Nat → Prop} {w w' : World} {row : Option Nat} (h : w.grownBy w' row) (hr : ∀ k, row = some k → S k) : Only S w w' :=
  ⟨h.os, h.tape, h.output, h.size, fun k hk hS => h.block k hk (fun e => hS (hr k e.symm))⟩
theorem Only.setCell {S : Nat → Prop} {w w' : World} (h : Only S w w') (a : Addr) (v : Value) (ha : S a.block ∨ w.heap.size ≤ a.block) : Only S w (w'.setCell a v) :=
  ⟨h.os, h.tape, h.output, by simpa using h.size, fun k hk hS => by
    rw [Below.heap_setCell _ _ _ _ (fun e => by
      rcases ha with ha | ha
      · exact hS (e ▸ ha)
      · omega)]
    exact h.block k hk hS⟩
theorem Only.setRow {S : Nat → Prop} {w w' : World} (h : Only S w w') (g : Nat) (cs : Array Value) (ha : S g ∨ w.heap.size ≤ g) : Only S w (w'.setRow g cs) :=
  ⟨h.os, h.tape, h.output, by simpa using h.size, fun k hk hS => by
    rw [setRow_other _ _ _ _ (fun e => by
      rcases ha with ha | ha
      · exact hS (e ▸ ha)
      · omega)]
    exact h.block k hk hS⟩
theorem Only.drewN {S : Nat → Prop} {w w' : World} (h : Only S w w') (n : Nat) : Only S w (w'.drewN n) := ⟨h.os, h.tape, h.output, h.size, h.block⟩
theorem Only.alloc {S : Nat → Prop} {w w' : World} (h : Only S w w') (o : Obj) : Only S w (w'.alloc o) :=
  ⟨h.os, h.tape, h.output, Nat.le_trans h.size (by simp), fun k hk hS => (Below.heap_alloc w' o k (Nat.lt_of_lt_of_le hk h.size)).trans (h.block k hk hS)⟩
theorem Only.below {S : Nat → Prop} {w w' : World} (h : Only S w w') {B : Nat} (hB : B ≤ w.heap.size) (hS : ∀ k, S k → B ≤ k) : Below B w w' :=
  ⟨h.os, h.tape, h.output, h.size, fun k hk => h.block k (by omega) (fun hs => by have := hS k hs; omega)⟩
theorem Only.heap {S : Nat → Prop} {w w' : World} (h : Only S w w') {k : Nat} {o : Obj} (ho : w.heap[k]? = some o) (hS : ¬ S k) : w'.heap[k]? = some o :=
  (h.block k (Array.getElem?_eq_some_iff.1 ho).1 hS).trans ho
theorem Only.cell {S : Nat → Prop} {w w' : World} (h : Only S w w') {a : Addr} {v : Value} (hv : w.cell? a = some v) (hS : ¬ S a.block) : w'.cell? a = some v :=
  (World.cell?_of_block (h.block a.block (World.block_lt_of_cell? w a hv) hS)).trans hv
theorem Only.frozen {S : Nat → Prop} {w w' : World} (h : Only S w w') {a : Addr} (hv : a.block < w.heap.size) (hS : ¬ S a.block) : w'.frozen? a = w.frozen? a :=
  World.frozen?_of_block (h.block a.block hv hS)
theorem ownsRow_keep {S : Nat → Prop} {w w' : World} {e : TypeId} {k : Nat} {v : Value} {n : Nat} {xs : List Value} (h : w.ownsRow 0 e k v n xs) (ho : Only S w w') (hS : ∀ g, v.ownBlock = some g → ¬ S g) : w'.ownsRow 0 e k v n xs := by
  refine ⟨h.1, ?_⟩
  rcases h.2 with hn | ⟨g, cap, cur, rfl, hb, hg, rest⟩
  · exact .inl hn
  · exact .inr ⟨g, cap, cur, rfl, hb, ho.heap hg (hS g rfl), rest⟩
/-- A row that lies in a block of this type. -/
theorem ownsRow_type {w : World} {e : TypeId} {k : Nat} {v : Value} {n : Nat} {xs : List Value} (h : w.ownsRow 0 e k v n xs) {g : Nat} (hg : v.ownBlock = some g) : ∃ cs fr, w.heap[g]? = some (.cells cs e fr) := by
  rcases h.2 with ⟨rfl, _⟩ | ⟨g', cap, cur, rfl, _, hgg, _⟩
  · simp [Value.ownBlock] at hg
  · simp [Value.ownBlock] at hg
    subst hg
    exact ⟨_, _, hgg⟩
theorem heap_ne {w : World} {a b : Nat} {x y : Array Value} {s t : TypeId} {f g : Nat × Nat} (ha : w.heap[a]? = some (.cells x s f)) (hb : w.heap[b]? = some (.cells y t g)) (h : s ≠ t) : a ≠ b := by
  intro e
  subst e
  have := ha.symm.trans hb
  injection this with this
  injection this with _ h2 _
  exact h h2
def pkV (p : Pk) : Value := .agg #[.int .i64 p.1, .int .i64 p.2.1, .string p.2.2]
def oneV (x : Un) : Value := .agg #[.int .i64 x.1, .int .i64 x.2.1, .int .i64 x.2.2.1, .int .i64 x.2.2.2.1, .string x.2.2.2.2]
def unC (x : Un) : List Value := [.int .i64 x.1, .int .i64 x.2.1, .int .i64 x.2.2.1, .int .i64 x.2.2.2.1, .string x.2.2.2.2]
def faC (f : Fa) : List Value := [.bool f.1, .int .i64 f.2.1, .int .i64 f.2.2]
def faV (f : Fa) : Value := .agg #[.bool f.1, .int .i64 f.2.1, .int .i64 f.2.2]
def rowC {α : Type} (f : α → List Value) (l : List α) : List Value := l.flatMap f
theorem rowC_length {α : Type} (f : α → List Value) (k : Nat) (hk : ∀ x, (f x).length = k) : ∀ l : List α, (rowC f l).length = l.length * k
  | [] => by simp [rowC]
  | x :: l => by
    have := rowC_length f k hk l
    rw [rowC, List.flatMap_cons, List.length_append, hk, List.length_cons, Nat.succ_mul]
    rw [rowC] at this
    omega
theorem rowC_append {α : Type} (f : α → List Value) (a b : List α) : rowC f (a ++ b) = rowC f a ++ rowC f b := by simp [rowC]
theorem rowC_cons {α : Type} (f : α → List Value) (a : α) (b : List α) : rowC f (a :: b) = f a ++ rowC f b := by simp [rowC]
theorem rowC_at {α : Type} (f : α → List Value) (k : Nat) (hk : ∀ x, (f x).length = k) : ∀ (l : List α) (j i : Nat) (x : α) (v : Value), l[j]? = some x → (f x)[i]? = some v → (rowC f l)[j * k + i]? = some v
  | [], j, _, _, _, h, _ => by simp at h
  | y :: l, 0, i, x, v, h, hv => by
    simp at h
    subst h
    have hi : i < k := by rw [← hk y]; exact (List.getElem?_eq_some_iff.1 hv).1
    rw [rowC_cons, Nat.zero_mul, Nat.zero_add, List.getElem?_append_left (by rw [hk]; exact hi)]
    exact hv
  | y :: l, j + 1, i, x, v, h, hv => by
    have ih := rowC_at f k hk l j i x v (by simpa using h) hv
    rw [rowC_cons, List.getElem?_append_right (by rw [hk, Nat.succ_mul]; omega), hk, show (j + 1) * k + i - k = j * k + i by rw [Nat.succ_mul]; omega]
    exact ih
theorem rowC_take {α : Type} (f : α → List Value) (k : Nat) (hk : ∀ x, (f x).length = k) : ∀ (l : List α) (n : Nat), (rowC f l).take (n * k) = rowC f (l.take n)
  | [], n => by simp [rowC]
  | x :: l, 0 => by simp [rowC]
  | x :: l, n + 1 => by
    have ih := rowC_take f k hk l n
    rw [rowC_cons, List.take_succ_cons, rowC_cons, show (n + 1) * k = (f x).length + n * k by rw [hk, Nat.succ_mul]; omega, List.take_length_add_append, ih]
theorem rowC_drop {α : Type} (f : α → List Value) (k : Nat) (hk : ∀ x, (f x).length = k) : ∀ (l : List α) (n : Nat), (rowC f l).drop (n * k) = rowC f (l.drop n)
  | [], n => by simp [rowC]
  | x :: l, 0 => by simp [rowC]
  | x :: l, n + 1 => by
    have ih := rowC_drop f k hk l n
    rw [rowC_cons, List.drop_succ_cons, show (n + 1) * k = (f x).length + n * k by rw [hk, Nat.succ_mul]; omega, List.drop_length_add_append, ih]
theorem unC_len (x : Un) : (unC x).length = 5 := rfl
theorem faC_len (x : Fa) : (faC x).length = 3 := rfl
/-- A net in memory: its struct, its fates, what is under way. -/
structure NetAt (w : World) (p : Nat) (fv wv : Value) (σ : NetS) : Prop where
  pos : 0 < σ.ends
  hp : w.heap[p]? = some (.cells #[.int .i64 σ.ends, .int .i64 σ.now, .int .i64 σ.sent, fv, wv] 53 (0, 0))
  hf : w.ownsRow 0 24 3 fv σ.fates.length (rowC faC σ.fates)
  hw : w.ownsRow 0 57 5 wv σ.way.length (rowC unC σ.way)
/-- What a call of a net may turn. -/
def foot (p : Nat) (wv : Value) : Nat → Prop := fun k => k = p ∨ wv.ownBlock = some k
theorem NetAt.cell {w : World} {p : Nat} {fv wv : Value} {σ : NetS} (h : NetAt w p fv wv σ) (i : Nat) : w.cell? ⟨p, i, none⟩ = (#[.int .i64 σ.ends, .int .i64 σ.now, .int .i64 σ.sent, fv, wv] : Array Value)[i]? := cell_of_row w p i _ _ _ h.hp
theorem NetAt.frozen {w : World} {p : Nat} {fv wv : Value} {σ : NetS} (h : NetAt w p fv wv σ) (i : Nat) : w.frozen? ⟨p, i, none⟩ = false := frozen_of_row w p i _ _ h.hp
theorem NetAt.lt {w : World} {p : Nat} {fv wv : Value} {σ : NetS} (h : NetAt w p fv wv σ) : p < w.heap.size := (Array.getElem?_eq_some_iff.1 h.hp).1
theorem NetAt.way_ne {w : World} {p : Nat} {fv wv : Value} {σ : NetS} (h : NetAt w p fv wv σ) : wv.ownBlock ≠ some p := fun e => by
  obtain ⟨cs, fr, hc⟩ := ownsRow_type h.hw e
  exact heap_ne hc h.hp (by decide) rfl
theorem NetAt.fate_ne {w : World} {p : Nat} {fv wv : Value} {σ : NetS} (h : NetAt w p fv wv σ) : ∀ g, fv.ownBlock = some g → ¬ foot p wv g := fun g hg hf => by
  obtain ⟨cs, fr, hc⟩ := ownsRow_type h.hf hg
  rcases hf with rfl | hf
  · exact heap_ne hc h.hp (by decide) rfl
  · obtain ⟨cs2, fr2, hc2⟩ := ownsRow_type h.hw hf
    exact heap_ne hc hc2 (by decide) rfl
theorem NetAt.keep {S : Nat → Prop} {w w' : World} {p : Nat} {fv wv : Value} {σ : NetS} (h : NetAt w p fv wv σ) (ho : Only S w w') (h1 : ¬ S p) (h2 : ∀ g, fv.ownBlock = some g → ¬ S g) (h3 : ∀ g, wv.ownBlock = some g → ¬ S g) : NetAt w' p fv wv σ :=
  ⟨h.pos, ho.heap h.hp h1, ownsRow_keep h.hf ho h2, ownsRow_keep h.hw ho h3⟩
theorem NetAt.below {w w' : World} {p : Nat} {fv wv : Value} {σ : NetS} (h : NetAt w p fv wv σ) (hb : Below w.heap.size w w') : NetAt w' p fv wv σ :=
  h.keep (S := fun _ => False) (Only.of_below hb) (fun h => h) (fun _ _ h => h) (fun _ _ h => h)
/-- Where a call of a net leads. -/
def NetTo (w : World) (p : Nat) (fv wv : Value) (σ' : NetS) (w' : World) : Prop :=
  ∃ wv', NetAt w' p fv wv' σ' ∧ Only (foot p wv) w w' ∧ (wv'.ownBlock = wv.ownBlock ∨ ∀ k, wv'.ownBlock = some k → w.heap.size ≤ k)
theorem NetTo.trans {w w1 w2 : World} {p : Nat} {fv wv wv1 : Value} {σ2 : NetS} (h2 : Only (foot p wv) w w1) (h3 : wv1.ownBlock = wv.ownBlock ∨ ∀ k, wv1.ownBlock = some k → w.heap.size ≤ k)
    (k : NetTo w1 p fv wv1 σ2 w2) : NetTo w p fv wv σ2 w2 := by
  obtain ⟨wv2, k1, k2, k3⟩ := k
  refine ⟨wv2, k1, h2.trans k2 (fun i hi => ?_), ?_⟩
  · rcases hi with rfl | hi
    · exact .inl (.inl rfl)
    · rcases h3 with h3 | h3
      · exact .inl (.inr (h3.symm.trans hi))
      · exact .inr (h3 i hi)
  · rcases k3 with k3 | k3
    · rcases h3 with h3 | h3
      · exact .inl (k3.trans h3)
      · exact .inr (fun i hi => h3 i (k3.symm.trans hi))
    · exact .inr (fun i hi => Nat.le_trans h2.size (k3 i hi))
theorem NetTo.same {w w' : World} {p : Nat} {fv wv : Value} {σ : NetS} (h : NetAt w p fv wv σ) (hb : Below w.heap.size w w') : NetTo w p fv wv σ w' := ⟨wv, h.below hb, Only.of_below hb, .inl rfl⟩
/-- Behind it a block of another type is written. -/
theorem NetTo.after {w w1 w2 : World} {p : Nat} {fv wv : Value} {σ : NetS} {b : Nat} {cs : Array Value} {T : TypeId} {fr : Nat × Nat} (h : NetTo w p fv wv σ w1) (ho : Only (fun k => k = b) w1 w2) (hb : w.heap.size ≤ b) (ht : w1.heap[b]? = some (.cells cs T fr))
    (h1 : T ≠ 53) (h2 : T ≠ 57) (h3 : T ≠ 24) : NetTo w p fv wv σ w2 := by
  obtain ⟨wv', k1, k2, k3⟩ := h
  refine ⟨wv', k1.keep ho (heap_ne k1.hp ht h1.symm) (fun g hg => ?_) (fun g hg => ?_), k2.trans ho (fun i hi => .inr (by rw [hi]; exact hb)), k3⟩
  · obtain ⟨_, _, hc⟩ := ownsRow_type k1.hf hg
    exact heap_ne hc ht h3.symm
  · obtain ⟨_, _, hc⟩ := ownsRow_type k1.hw hg
    exact heap_ne hc ht h2.symm
/-- A number of the struct is written. -/
theorem NetAt.put {w : World} {p : Nat} {fv wv : Value} {σ : NetS} (h : NetAt w p fv wv σ) (i : Nat) (v wv' : Value) (σ' : NetS) (w1 : World) (hO : Only (foot p wv) w w1) (hrow : w1.heap[p]? = some (.cells #[.int .i64 σ.ends, .int .i64 σ.now, .int .i64 σ.sent, fv, wv] 53 (0, 0)))
    (hc : (#[.int .i64 σ.ends, .int .i64 σ.now, .int .i64 σ.sent, fv, wv] : Array Value).setIfInBounds i v = #[.int .i64 σ'.ends, .int .i64 σ'.now, .int .i64 σ'.sent, fv, wv'])
    (hw : w1.ownsRow 0 57 5 wv' σ'.way.length (rowC unC σ'.way)) (he : σ'.ends = σ.ends) (hfa : σ'.fates = σ.fates) (hfr : wv'.ownBlock = wv.ownBlock ∨ ∀ k, wv'.ownBlock = some k → w.heap.size ≤ k) : NetTo w p fv wv σ' (w1.setCell ⟨p, i, none⟩ v) := by
  have hO2 : Only (foot p wv) w (w1.setCell ⟨p, i, none⟩ v) := hO.setCell _ _ (.inl (.inl rfl))
  refine ⟨wv', ⟨by rw [he]; exact h.pos, ?_, ?_, ?_⟩, hO2, hfr⟩
  · rw [heap_setCell_same _ _ _ _ _ _ hrow, hc]
  · rw [hfa]
    exact ownsRow_keep h.hf hO2 h.fate_ne
  · refine ownsRow_keep (S := fun k => k = p) hw ((Only.refl _ _).setCell _ _ (.inl rfl)) (fun g hg e => ?_)
    subst e
    obtain ⟨cs, fr, hc2⟩ := ownsRow_type hw hg
    exact heap_ne hc2 hrow (by decide) rfl
end Go.Proofs.Ytbmlgnmilolamaa
