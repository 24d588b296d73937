/-
  Fates compared; a list of fates of one's own that is written over; a list of steps. No statement is proved here.
-/
import Derived.Test.YtbmlgnmilolamaaDoorPairW
namespace Go.Proofs.YtbmlgnmilolamaaDoor
open Go.RowKit
theorem run_eql_fate (w : World) (x y : FaI) : (binOp .eql 44 (.agg #[.bool x.1, .int .i64 x.2.1, .int .i64 x.2.2]) (.agg #[.bool y.1, .int .i64 y.2.1, .int .i64 y.2.2])).run Tryd.prog w = .ok (.bool (decide (x = y))) w := by
  obtain ⟨x1, x2, x3⟩ := x
  obtain ⟨y1, y2, y3⟩ := y
  rw [run_eql_struct, run_equalIn_agg _ _ _ _ _ (by kernel_rfl) (by kernel_rfl)]
  have h3 : Tryd.prog.underlying 3 = some (.int .i64) := by kernel_rfl
  have h9 : Tryd.prog.underlying 4 = some .bool := by kernel_rfl
  have hfl : (Tryd.prog.fieldsOf 44).toList.map (fun f => (decide (f.name = "_"), f.type, f.offset)) = [(false, 4, 0), (false, 3, 1), (false, 3, 2)] := by kernel_rfl
  match hfs : (Tryd.prog.fieldsOf 44).toList, hfl with
  | [f1, f2, f3], h =>
    simp only [List.map_cons, List.map_nil, List.cons.injEq, Prod.mk.injEq, decide_eq_false_iff_not, and_true] at h
    obtain ⟨⟨n1, t1, o1⟩, ⟨n2, t2, o2⟩, n3, t3, o3⟩ := h
    simp [Op.eqFields, n1, n2, n3, t1, t2, t3, o1, o2, o3, go_sem, h3, h9]
    by_cases h1 : x1 = y1 <;> by_cases h2 : x2 = y2 <;> by_cases h3 : x3 = y3 <;> simp [h1, h2, h3]
  | [], h => simp at h
  | [_], h => simp at h
  | [_, _], h => simp at h
  | _ :: _ :: _ :: _ :: _, h => simp at h
theorem run_neq_fate (w : World) (x y : FaI) : (binOp .neq 44 (.agg #[.bool x.1, .int .i64 x.2.1, .int .i64 x.2.2]) (.agg #[.bool y.1, .int .i64 y.2.1, .int .i64 y.2.2])).run Tryd.prog w = .ok (.bool (!decide (x = y))) w := by
  have h := run_eql_fate w x y
  rw [run_eql_struct] at h
  rw [run_neq_struct]
  revert h
  generalize (Op.equalIn 10000 44 _ _).run Tryd.prog w = r
  intro h
  cases r with
  | ok b w2 =>
    simp only [Result.andThen_ok] at h ⊢
    injection h with h1 h2
    injection h1 with h1
    rw [h1, h2]
  | halt x w2 => simp [Result.andThen] at h
theorem run_neq_fate_same (w : World) (x : FaI) : (binOp .neq 44 (.agg #[.bool x.1, .int .i64 x.2.1, .int .i64 x.2.2]) (.agg #[.bool x.1, .int .i64 x.2.1, .int .i64 x.2.2])).run Tryd.prog w = .ok (.bool false) w := by
  have h := run_neq_fate w x x
  rwa [decide_eq_true rfl] at h
/-- From the place j on the block holds these fates, and may be written. -/
def Seen (w : World) (g : Nat) (fs : List FaI) (j : Nat) : Prop := ∃ cs : Array Value, w.heap[g]? = some (.cells cs 44 (0, 0)) ∧ fs.length * 3 ≤ cs.size ∧ ∀ i f, j ≤ i → fs[i]? = some f → cs[i * 3]? = some (.bool f.1) ∧ cs[i * 3 + 1]? = some (.int .i64 f.2.1) ∧ cs[i * 3 + 2]? = some (.int .i64 f.2.2)
theorem Seen.get {w : World} {g : Nat} {fs : List FaI} {j : Nat} {f : FaI} (h : Seen w g fs j) (hf : fs[j]? = some f) :
    w.cell? ⟨g, j * 3, none⟩ = some (.bool f.1) ∧ w.cell? ⟨g, j * 3 + 1, none⟩ = some (.int .i64 f.2.1) ∧ w.cell? ⟨g, j * 3 + 2, none⟩ = some (.int .i64 f.2.2) ∧ w.frozen? ⟨g, j * 3, none⟩ = false ∧ w.frozen? ⟨g, j * 3 + 1, none⟩ = false ∧ w.frozen? ⟨g, j * 3 + 2, none⟩ = false := by
  obtain ⟨cs, h1, h2, h3⟩ := h
  obtain ⟨a, b, c⟩ := h3 j f (Nat.le_refl _) hf
  exact ⟨by rw [cell_of_row w g _ _ _ _ h1]; exact a, by rw [cell_of_row w g _ _ _ _ h1]; exact b, by rw [cell_of_row w g _ _ _ _ h1]; exact c, frozen_of_row w g _ _ _ h1, frozen_of_row w g _ _ _ h1, frozen_of_row w g _ _ _ h1⟩
theorem row_setCell {w : World} {g i : Nat} {cs : Array Value} {T : TypeId} (h : w.heap[g]? = some (.cells cs T (0, 0))) (v : Value) : (w.setCell ⟨g, i, none⟩ v).heap[g]? = some (.cells (cs.setIfInBounds i v) T (0, 0)) := by
  exact heap_setCell_same _ _ _ _ _ _ h
theorem Seen.put {w : World} {g : Nat} {fs : List FaI} {j : Nat} (h : Seen w g fs j) (v0 v1 v2 : Value) : Seen (((w.setCell ⟨g, j * 3, none⟩ v0).setCell ⟨g, j * 3 + 1, none⟩ v1).setCell ⟨g, j * 3 + 2, none⟩ v2) g fs (j + 1) := by
  obtain ⟨cs, h1, h2, h3⟩ := h
  refine ⟨_, row_setCell (row_setCell (row_setCell h1 v0) v1) v2, by simpa using h2, fun i f hi hf => ?_⟩
  obtain ⟨a, b, c⟩ := h3 i f (by omega) hf
  simp only [Array.getElem?_setIfInBounds]
  refine ⟨?_, ?_, ?_⟩
  · rw [if_neg (by omega), if_neg (by omega), if_neg (by omega)]; exact a
  · rw [if_neg (by omega), if_neg (by omega), if_neg (by omega)]; exact b
  · rw [if_neg (by omega), if_neg (by omega), if_neg (by omega)]; exact c
theorem Seen.only {S : Nat → Prop} {w w' : World} {g : Nat} {fs : List FaI} {j : Nat} (h : Seen w g fs j) (ho : Only S w w') (hS : ¬ S g) : Seen w' g fs j := by
  obtain ⟨cs, h1, h2⟩ := h
  exact ⟨cs, ho.heap h1 hS, h2⟩
theorem seen_view {w : World} {l : List FaI} {v : Value} (h : w.ownsRow 0 44 3 v l.length (rowC faIC l)) :
    ∃ a cap, v = .slice a l.length cap ∧ l.length ≤ cap ∧ cap ≤ maxLen ∧ (0 < l.length → ∃ g, a = some ⟨g, 0, none⟩ ∧ Seen w g l 0) := by
  rcases h.2 with ⟨rfl, h0⟩ | ⟨g, cap, cur, rfl, _, hg, h1, h2, h3, htake⟩
  · exact ⟨none, 0, by rw [h0], by omega, Nat.zero_le _, fun h => by omega⟩
  · refine ⟨some ⟨g, 0, none⟩, cap, rfl, h1, h2, fun _ => ⟨g, rfl, cur, hg, by rw [h3]; exact Nat.mul_le_mul_right _ h1, fun j y _ hy => ?_⟩⟩
    have key : ∀ i v, (faIC y)[i]? = some v → cur[j * 3 + i]? = some v := fun i v hv => by
      have hr := rowC_at faIC 3 faIC_len l j i y v hy hv
      have hlt : j * 3 + i < l.length * 3 := by
        have := (List.getElem?_eq_some_iff.1 hr).1
        rw [rowC_length faIC 3 faIC_len] at this
        exact this
      rw [← Array.getElem?_toList]
      rw [← htake, List.getElem?_take, if_pos hlt] at hr
      exact hr
    exact ⟨key 0 _ rfl, key 1 _ rfl, key 2 _ rfl⟩
theorem FaRow.at {w : World} {a : Option Addr} {len : Nat} {fs : List FaI} (h : FaRow w a len fs) {j : Nat} (hj : j < len) : ∃ b off f, a = some ⟨b, off, none⟩ ∧ fs[j]? = some f ∧ w.cell? ⟨b, off + j * 3, none⟩ = some (.bool f.1) ∧ w.cell? ⟨b, off + j * 3 + 1, none⟩ = some (.int .i64 f.2.1) ∧ w.cell? ⟨b, off + j * 3 + 2, none⟩ = some (.int .i64 f.2.2) := by
  obtain ⟨h1, h2⟩ := h
  obtain ⟨b, off, rfl, h3⟩ := h2 (by omega)
  have hf : fs[j]? = some (fs[j]'(by omega)) := List.getElem?_eq_getElem _
  exact ⟨b, off, _, rfl, hf, h3 j _ hf⟩
/-- A step of the script. -/
abbrev Stp := Int × Int × Int × ByteArray
def StpRow (w : World) (a : Option Addr) (len : Nat) (ss : List Stp) : Prop :=
  ss.length = len ∧ (∀ s ∈ ss, s.2.2.2.size ≤ 140737488355328) ∧ (0 < len → ∃ b off, a = some ⟨b, off, none⟩ ∧ ∀ i s, ss[i]? = some s → w.cell? ⟨b, off + i * 4, none⟩ = some (.int .i64 s.1) ∧ w.cell? ⟨b, off + i * 4 + 1, none⟩ = some (.int .i64 s.2.1) ∧ w.cell? ⟨b, off + i * 4 + 2, none⟩ = some (.int .i64 s.2.2.1) ∧ w.cell? ⟨b, off + i * 4 + 3, none⟩ = some (.string s.2.2.2))
theorem StpRow.below {w w' : World} {a : Option Addr} {len : Nat} {ss : List Stp} (h : StpRow w a len ss) (hb : Below w.heap.size w w') : StpRow w' a len ss := by
  obtain ⟨h1, h0, h2⟩ := h
  refine ⟨h1, h0, fun hl => ?_⟩
  obtain ⟨b, off, e, hc⟩ := h2 hl
  refine ⟨b, off, e, fun i s hi => ?_⟩
  obtain ⟨c0, c1, c2, c3⟩ := hc i s hi
  have hlt := World.block_lt_of_cell? w _ c0
  have key : ∀ o, w'.cell? ⟨b, o, none⟩ = w.cell? ⟨b, o, none⟩ := fun o => hb.cell (p := ⟨b, o, none⟩) hlt
  exact ⟨(key _).trans c0, (key _).trans c1, (key _).trans c2, (key _).trans c3⟩
theorem StpRow.at {w : World} {a : Option Addr} {len : Nat} {ss : List Stp} (h : StpRow w a len ss) {j : Nat} (hj : j < len) : ∃ b off d x y s, a = some ⟨b, off, none⟩ ∧ s.size ≤ 140737488355328 ∧ w.cell? ⟨b, off + j * 4, none⟩ = some (.int .i64 d) ∧ w.cell? ⟨b, off + j * 4 + 1, none⟩ = some (.int .i64 x) ∧ w.cell? ⟨b, off + j * 4 + 2, none⟩ = some (.int .i64 y) ∧ w.cell? ⟨b, off + j * 4 + 3, none⟩ = some (.string s) := by
  obtain ⟨h1, h0, h2⟩ := h
  obtain ⟨b, off, rfl, h3⟩ := h2 (by omega)
  have hs : ss[j]? = some (ss[j]'(by omega)) := List.getElem?_eq_getElem _
  exact ⟨b, off, _, _, _, _, rfl, h0 _ (List.mem_of_getElem? hs), h3 j _ hs⟩
/-- The step in a block of its own. -/
def StpAt (w : World) (t : Nat) (d x y : Int) (s : ByteArray) : Prop := w.heap[t]? = some (.cells #[.int .i64 d, .int .i64 x, .int .i64 y, .string s] 46 (0, 0))
theorem StpAt.kept {w w' : World} {t : Nat} {d x y : Int} {s : ByteArray} (h : StpAt w t d x y s) (k : Kept w w') : StpAt w' t d x y s := k _ _ _ _ h (by decide) (by decide)
theorem StpAt.rkept {w w' : World} {t : Nat} {d x y : Int} {s : ByteArray} (h : StpAt w t d x y s) (k : RKept w w') : StpAt w' t d x y s := k _ _ _ _ h (by decide) (by decide)
theorem StpAt.below {w w' : World} {t : Nat} {d x y : Int} {s : ByteArray} (h : StpAt w t d x y s) (k : Below w.heap.size w w') : StpAt w' t d x y s := h.kept (Kept.of_below k)
theorem StpAt.get {w : World} {t : Nat} {d x y : Int} {s : ByteArray} (h : StpAt w t d x y s) : w.cell? ⟨t, 0, none⟩ = some (.int .i64 d) ∧ w.cell? ⟨t, 1, none⟩ = some (.int .i64 x) ∧ w.cell? ⟨t, 2, none⟩ = some (.int .i64 y) ∧ w.cell? ⟨t, 3, none⟩ = some (.string s) :=
  ⟨by rw [cell_of_row w t 0 _ _ _ h]; rfl, by rw [cell_of_row w t 1 _ _ _ h]; rfl, by rw [cell_of_row w t 2 _ _ _ h]; rfl, by rw [cell_of_row w t 3 _ _ _ h]; rfl⟩
theorem FltAt.below {w w' : World} {b : Nat} {c at_ : Int} (h : FltAt w b c at_) (hb : Below w.heap.size w w') : FltAt w' b c at_ := by
  obtain ⟨c0, c1, c2, c3⟩ := h
  have hlt := World.block_lt_of_cell? w _ c0
  have key : ∀ o, w'.cell? ⟨b, o, none⟩ = w.cell? ⟨b, o, none⟩ := fun o => hb.cell (p := ⟨b, o, none⟩) hlt
  exact ⟨(key _).trans c0, (key _).trans c1, (key _).trans c2, (key _).trans c3⟩
/-- What the two makers give. -/
def newC (k : Int) (fs : List FaI) : Nat := if newBad k fs = none then 0 else 2
def newA (k : Int) (fs : List FaI) : Int := (newBad k fs).getD (-1)
def NewV (k : Int) (fs : List FaI) (w w' : World) (v8 v9 : Value) : Prop :=
  Below w.heap.size w w' ∧ ((newBad k fs = none ∧ v9 = .nilIface ∧ (∀ f ∈ fs, faOk f) ∧ 1 ≤ k ∧ k ≤ 64 ∧ ∃ p fv, v8 = .pointer (some ⟨p, 0, none⟩) ∧ w.heap.size ≤ p ∧ NetAt w' p fv (.slice none 0 0) ⟨k.toNat, 0, 0, fs.map faN, []⟩ ∧ (∀ g, fv.ownBlock = some g → w.heap.size ≤ g)) ∨
    (∃ at_ b, newBad k fs = some at_ ∧ v8 = .pointer none ∧ v9 = .iface 69 (.pointer (some ⟨b, 0, none⟩)) ∧ FltAt w' b 2 at_))
theorem new_v (k : Int) (a : Option Addr) (len cap : Nat) (fs : List FaI) (w : World) (h : FaRow w a len fs) (hl : len ≤ 1000) :
    Calls Tryd.prog 6 #[.int .i64 k, .slice a len cap] w fun e w' => ∃ v8 v9, e = .returned (.tuple #[v8, v9]) ∧ NewV k fs w w' v8 v9 := by
  refine (New_at k a len cap fs w h hl).mono ?_
  rintro e w' ⟨hb, ⟨h1, h2, h3, h4, p, fv, rfl, h5, h6, h7⟩ | ⟨at_, b, h1, rfl, h2⟩⟩
  · exact ⟨_, _, rfl, hb, .inl ⟨h1, rfl, h2, h3, h4, p, fv, rfl, h5, h6, h7⟩⟩
  · exact ⟨_, _, rfl, hb, .inr ⟨at_, b, h1, rfl, rfl, h2⟩⟩
/-- Both were made, behind the block 'B'. -/
def Made (k : Int) (fs : List FaI) (B : Nat) (w : World) (v8 v10 : Value) : Prop :=
  (v8 = .pointer none ∧ v10 = .pointer none) ∨
    ∃ p q fv fr, v8 = .pointer (some ⟨p, 0, none⟩) ∧ v10 = .pointer (some ⟨q, 0, none⟩) ∧ (∀ f ∈ fs, faOk f) ∧ B ≤ p ∧ B ≤ q ∧ NetAt w p fv (.slice none 0 0) ⟨k.toNat, 0, 0, fs.map faN, []⟩ ∧ RefAt w q fr (.slice none 0 0) ⟨k.toNat, 0, 0, fs.map faN, []⟩ ∧ (∀ g, fv.ownBlock = some g → B ≤ g) ∧ (∀ g, fr.ownBlock = some g → B ≤ g)
theorem new_r {k : Int} {fs : List FaI} {w w1 : World} {v8 v9 : Value} (hv : NewV k fs w w1 v8 v9) (a : Option Addr) (len cap : Nat) (h : FaRow w1 a len fs) (hl : len ≤ 1000) :
    Calls Tryd.prog 13 #[.int .i64 k, .slice a len cap] w1 fun e w' => ∃ v10, e = .returned (.tuple #[v10, .int .i64 (newC k fs), .int .i64 (newA k fs)]) ∧ Below w1.heap.size w1 w' ∧ Made k fs w.heap.size w' v8 v10 ∧
      ((newBad k fs = none ∧ v9 = .nilIface) ∨ ∃ b, newBad k fs ≠ none ∧ v9 = .iface 69 (.pointer (some ⟨b, 0, none⟩)) ∧ FltAt w' b 2 (newA k fs)) := by
  refine (rNew_at k a len cap fs w1 h hl).mono ?_
  obtain ⟨hb0, hv⟩ := hv
  rintro e w' ⟨hb, ⟨h1, q, fr, rfl, h5, h6, h7⟩ | ⟨at_, h1, rfl⟩⟩
  · rcases hv with ⟨_, rfl, k2, k3, k4, p, fv, rfl, k5, k6, k7⟩ | ⟨at_, b, k1, _⟩
    · refine ⟨_, by rw [newC, newA, if_pos h1, h1]; rfl, hb, .inr ⟨p, q, fv, fr, rfl, rfl, k2, k5, Nat.le_trans hb0.size h5, k6.below hb, h6, k7, fun g hg => Nat.le_trans hb0.size (h7 g hg)⟩, .inl ⟨h1, rfl⟩⟩
    · rw [h1] at k1; cases k1
  · rcases hv with ⟨k1, _⟩ | ⟨at2, b, k1, rfl, rfl, k2⟩
    · rw [h1] at k1; cases k1
    · rw [h1] at k1
      injection k1 with k1
      subst k1
      have hn : newBad k fs ≠ none := by rw [h1]; simp
      refine ⟨_, by rw [newC, newA, if_neg hn, h1]; rfl, hb, .inl ⟨rfl, rfl⟩, .inr ⟨b, hn, rfl, ?_⟩⟩
      rw [newA, h1]
      exact k2.below hb
theorem code_new {k : Int} {fs : List FaI} {w : World} {v9 : Value} (h : (newBad k fs = none ∧ v9 = .nilIface) ∨ ∃ b, newBad k fs ≠ none ∧ v9 = .iface 69 (.pointer (some ⟨b, 0, none⟩)) ∧ FltAt w b 2 (newA k fs)) (hH : Handle w) :
    Calls Tryd.prog 8 #[v9] w (CodeIs (newC k fs) (newA k fs) w) := by
  rcases h with ⟨h, rfl⟩ | ⟨b, h, rfl, hF⟩
  · rw [newC, newA, if_pos h, h]
    exact code_nil w
  · rw [newC, if_neg h]
    exact code_fault b 2 _ w hF hH
theorem Made.only {k : Int} {fs : List FaI} {B g : Nat} {w w' : World} {v8 v10 : Value} (h : Made k fs B w v8 v10) (hg : g < B) (ho : Only (fun x => x = g) w w') : Made k fs B w' v8 v10 := by
  rcases h with h | ⟨p, q, fv, fr, h1, h2, h3, h4, h5, h6, h7, h8, h9⟩
  · exact .inl h
  · refine .inr ⟨p, q, fv, fr, h1, h2, h3, h4, h5, h6.keep ho (by omega) (fun x hx => by have := h8 x hx; omega) (fun x hx => by cases hx), h7.keep ho (by omega) (fun x hx => by have := h9 x hx; omega) (fun x hx => by cases hx), h8, h9⟩
theorem Made.below {k : Int} {fs : List FaI} {B : Nat} {w w' : World} {v8 v10 : Value} (h : Made k fs B w v8 v10) (hb : Below w.heap.size w w') : Made k fs B w' v8 v10 := by
  rcases h with h | ⟨p, q, fv, fr, h1, h2, h3, h4, h5, h6, h7, h8, h9⟩
  · exact .inl h
  · exact .inr ⟨p, q, fv, fr, h1, h2, h3, h4, h5, h6.below hb, h7.below hb, h8, h9⟩
/-- Both pointers are nil, or neither. -/
theorem Made.nils {k : Int} {fs : List FaI} {B : Nat} {w : World} {v8 v10 : Value} (h : Made k fs B w v8 v10) :
    ∃ b : Bool, (∀ W, (binOp .eql 22 v8 (.pointer none)).run Tryd.prog W = .ok (.bool b) W) ∧ (∀ W, (binOp .eql 40 v10 (.pointer none)).run Tryd.prog W = .ok (.bool b) W) ∧ ((b = true ∧ v8 = .pointer none ∧ v10 = .pointer none) ∨ (b = false ∧ ∃ p q, v8 = .pointer (some ⟨p, 0, none⟩) ∧ v10 = .pointer (some ⟨q, 0, none⟩))) := by
  rcases h with ⟨rfl, rfl⟩ | ⟨p, q, fv, fr, rfl, rfl, _⟩
  · exact ⟨true, fun W => by go_simp, fun W => by go_simp, .inl ⟨rfl, rfl, rfl⟩⟩
  · exact ⟨false, fun W => by go_simp, fun W => by go_simp, .inr ⟨rfl, p, q, rfl, rfl⟩⟩
theorem Made.play {k : Int} {fs : List FaI} {B p q : Nat} {w0 w : World} (h : Made k fs B w (.pointer (some ⟨p, 0, none⟩)) (.pointer (some ⟨q, 0, none⟩))) (hB : w0.heap.size ≤ B) (hb : Below w0.heap.size w0 w) (hl : fs.length ≤ 500) : Play w0 w p q 0 := by
  rcases h with ⟨h, _⟩ | ⟨p', q', fv, fr, h1, h2, h3, h4, h5, h6, h7, h8, h9⟩
  · cases h
  · injection h1 with h1; injection h1 with h1; injection h1 with h1
    injection h2 with h2; injection h2 with h2; injection h2 with h2
    subst h1 h2
    exact ⟨_, _, ⟨rfl, rfl, rfl, rfl, List.Perm.refl _⟩, ⟨⟨hb, fresh_ok _ _ h3, Nat.le_trans hB h4, fv, _, h6, fun g hg => by cases hg⟩, Nat.le_trans hB h5, fr, _, h7, fun g hg => by cases hg⟩, Nat.le_refl _, Nat.le_refl _, by rw [List.length_map]; exact hl⟩
end Go.Proofs.YtbmlgnmilolamaaDoor
