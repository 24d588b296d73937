/-
  slices.Insert of one among those under way. No statement is proved here.
-/
import Derived.Test.YtbmlgnmilolamaaCopyK
import Derived.Test.YtbmlgnmilolamaaNetB
import Derived.Lib.Overlaps
import Derived.Deep.RegionLaw
namespace Go.Proofs.Ytbmlgnmilolamaa
open Go.RowKit
def InsIs (x : Un) (l : List Un) (k : Nat) (wv : Value) (w : World) (e : Ending) (w' : World) : Prop :=
  ∃ wv', e = .returned wv' ∧ w'.ownsRow 0 57 5 wv' (l.length + 1) (rowC unC (l.take k ++ x :: l.drop k)) ∧ Only (fun i => wv.ownBlock = some i) w w' ∧ (wv'.ownBlock = wv.ownBlock ∨ ∀ i, wv'.ownBlock = some i → w.heap.size ≤ i)
theorem UnAt.news {w : World} {g : Nat} {x : Un} (h : UnAt w g 0 x) : ∀ j u, (unC x)[j]? = some u → w.cell? ((⟨g, 0, none⟩ : Addr).add j) = some u := by
  intro j u hu
  rw [show (⟨g, 0, none⟩ : Addr).add j = ⟨g, j, none⟩ by unfold Addr.add; split <;> simp_all]
  obtain ⟨c0, c1, c2, c3, c4⟩ := h
  simp only [Nat.zero_mul, Nat.zero_add] at c0 c1 c2 c3 c4
  match j, hu with
  | 0, hu => cases hu; exact c0
  | 1, hu => cases hu; exact c1
  | 2, hu => cases hu; exact c2
  | 3, hu => cases hu; exact c3
  | 4, hu => cases hu; exact c4
theorem unC_one (x : Un) : ∀ v ∈ unC x, v.oneCell' = true := by simp [unC, Value.oneCell']
theorem rowC_one (l : List Un) : ∀ v ∈ rowC unC l, v.oneCell' = true := by
  intro v hv
  obtain ⟨x, _, h⟩ := List.mem_flatMap.1 hv
  exact unC_one x v h
set_option maxHeartbeats 4000000 in
set_option maxRecDepth 100000 in
theorem Insert_end (x : Un) (l : List Un) (wv : Value) (vb : Nat) (w : World) (h : w.ownsRow 0 57 5 wv l.length (rowC unC l)) (hn : l.length ≤ 4096) (hx : UnAt w vb 0 x) :
    Calls Try.prog 21 #[wv, .int .i64 l.length, .slice (some ⟨vb, 0, none⟩) 1 1] w (InsIs x l l.length wv w) := by
  obtain ⟨i0, hi, hz0, hz1, hz2⟩ := info_parts info_one
  obtain ⟨v', w', hrun, hown, hgr, hfr⟩ := append_row (P := Try.prog) w 51 51 57 i0 _ 5 48 Try.underlying51 hi hz0 hz1 hz2 rfl (by decide) wv l.length (rowC unC l) h ⟨vb, 0, none⟩ 1 1 (unC x) rfl hx.news (unC_one x) (by unfold maxLen; omega) (by omega)
  have HRUN := Lib.hid hrun
  have HE : Hid (InsIs x l l.length wv w (.returned v') w') := Lib.hid ⟨v', rfl, by rw [List.take_of_length_le (Nat.le_refl _), List.drop_of_length_le (Nat.le_refl _), rowC_append]; simpa [rowC] using hown, Only.of_grown hgr (fun _ h => h), hfr⟩
  obtain ⟨a, cap, rfl, hcap, hcm, hv⟩ := way_view h
  obtain ⟨n, hnn⟩ : ∃ n, l.length = n := ⟨_, rfl⟩
  rw [hnn] at hcap hn HRUN HE hv ⊢
  unfold maxLen at hcm
  clear h hrun hown hgr hfr hi hz0 hz1 hz2 hx hnn
  cases a with
  | none =>
    have h0 : n = 0 := by
      rcases Nat.eq_zero_or_pos n with h | h
      · exact h
      · obtain ⟨g, h1, _⟩ := hv h
        cases h1
    subst h0
    clear hv
    go_enter Try.func21, Try.ntmps21
    go_wp2_with (at_builtin; refine wpList_append_run rfl _ _ 51 51 rfl _ _ rfl rfl HRUN.out ?_)
    go_ret
    exact HE.out
  | some ad =>
    obtain ⟨ab, ao, asp⟩ := ad
    clear hv
    go_enter Try.func21, Try.ntmps21
    go_wp2_with (at_builtin; refine wpList_append_run rfl _ _ 51 51 rfl _ _ rfl rfl HRUN.out ?_)
    all_goals (go_ret; exact HE.out)
theorem shift_plain (C A B X : List Value) (hA : C.take A.length = A) (hfit : A.length + X.length + B.length ≤ C.length) :
    (((C.take (A.length + X.length) ++ B ++ C.drop (A.length + X.length + B.length)).take A.length ++ X ++ (C.take (A.length + X.length) ++ B ++ C.drop (A.length + X.length + B.length)).drop (A.length + X.length)).take (A.length + X.length + B.length) = A ++ X ++ B) ∧
    ((C.take (A.length + X.length) ++ B ++ C.drop (A.length + X.length + B.length)).take A.length ++ X ++ (C.take (A.length + X.length) ++ B ++ C.drop (A.length + X.length + B.length)).drop (A.length + X.length)).length = C.length := by
  have e1 : (C.take (A.length + X.length) ++ B ++ C.drop (A.length + X.length + B.length)).take A.length = A := by
    rw [List.append_assoc, List.take_append_of_le_length (by rw [List.length_take]; omega), List.take_take, Nat.min_eq_left (by omega), hA]
  have e2 : (C.take (A.length + X.length) ++ B ++ C.drop (A.length + X.length + B.length)).drop (A.length + X.length) = B ++ C.drop (A.length + X.length + B.length) := by
    rw [List.append_assoc, List.drop_append_of_le_length (by rw [List.length_take]; omega), List.drop_of_length_le (by rw [List.length_take]; omega), List.nil_append]
  rw [e1, e2]
  refine ⟨?_, ?_⟩
  · rw [← List.append_assoc, List.take_append_of_le_length (by simp; omega), List.take_of_length_le (by simp; omega)]
  · simp; omega
theorem sizeOf_one (w : World) : (Go.sizeOf 57).run Try.prog w = .ok 5 w := by kernel_rfl
set_option maxHeartbeats 4000000 in
set_option maxRecDepth 100000 in
theorem Insert_shift (x : Un) (l : List Un) (k g cap vb : Nat) (cur xc : Array Value) (w : World) (hg : w.heap[g]? = some (.cells cur 57 (0, 0))) (hcap : cap ≤ maxLen) (hcs : cur.size = cap * 5) (htake : cur.toList.take (l.length * 5) = rowC unC l) (hk : k < l.length) (hroom : l.length + 1 ≤ cap) (hn : l.length ≤ 4096)
    (hx : UnAt w vb 0 x) (hxg : w.heap[vb]? = some (.cells xc 57 (0, 0))) (hne : vb ≠ g) :
    Calls Try.prog 21 #[.slice (some ⟨g, 0, none⟩) l.length cap, .int .i64 k, .slice (some ⟨vb, 0, none⟩) 1 1] w (InsIs x l k (.slice (some ⟨g, 0, none⟩) l.length cap) w) := by
  obtain ⟨n, hnn⟩ : ∃ n, l.length = n := ⟨_, rfl⟩
  have hov : ∀ lb cb, (callFunc 22 #[.slice (some ⟨vb, 0, none⟩) 1 1, .slice (some ⟨g, (k + 1) * 5, none⟩) lb cb]).run Try.prog w = .ok (.value (.bool false)) w := fun lb cb => by
    rw [run_callFunc_extern Try.func22 (by kernel_rfl) (by kernel_rfl) (by kernel_rfl) (e := Extern.SlicesOverlaps.overlaps #[51, 51] #[4]) (by kernel_rfl),
      Lib.run_overlaps_apart w 51 4 57 Try.underlying51 5 sizeOf_one ⟨vb, 0, none⟩ ⟨g, (k + 1) * 5, none⟩ 1 1 lb cb hne 57 57 xc.size cur.size (by simp [World.shape?, hxg]) (by simp [World.shape?, hg]) (by omega) (frozen_of_row _ _ _ _ _ hxg) (frozen_of_row _ _ _ _ _ hxg)]
    rfl
  have hA : (rowC unC (l.take k)).length = k * 5 := by rw [rowC_length unC 5 unC_len, List.length_take]; congr 1; omega
  have hBl : (rowC unC (l.drop k)).length = (n - k) * 5 := by rw [rowC_length unC 5 unC_len, List.length_drop, hnn]
  have hAC : cur.toList.take (k * 5) = rowC unC (l.take k) := by
    rw [← rowC_take unC 5 unC_len, ← htake, List.take_take]
    congr 1
    omega
  rw [hnn] at hk hroom hn htake ⊢
  have hcsrc : ∀ j v, (rowC unC (l.drop k))[j]? = some v → w.cell? ((⟨g, k * 5, none⟩ : Addr).add j) = some v := fun j v hj => by
    rw [show (⟨g, k * 5, none⟩ : Addr).add j = ⟨g, k * 5 + j, none⟩ by unfold Addr.add; split <;> simp_all]
    rw [cell_of_row w g _ cur _ _ hg, ← Array.getElem?_toList]
    have hjl := (List.getElem?_eq_some_iff.1 hj).1
    rw [← rowC_drop unC 5 unC_len, List.getElem?_drop, ← htake, List.getElem?_take] at hj
    split at hj
    · exact hj
    · cases hj
  obtain ⟨hS1, hS2⟩ := shift_plain cur.toList (rowC unC (l.take k)) (rowC unC (l.drop k)) (unC x) (by rw [hA]; exact hAC) (by rw [hA, hBl, unC_len, Array.length_toList, hcs]; omega)
  rw [hA, hBl, unC_len] at hS1 hS2
  have hsz : (Try.prog.info? 57).map (·.size) = some 5 := by
    obtain ⟨i0, hi, _, h1, _⟩ := info_parts info_one
    rw [hi]; simp [h1]
  obtain ⟨R1, hR1⟩ : ∃ R1, R1 = cur.toList.take (k * 5 + 5) ++ rowC unC (l.drop k) ++ cur.toList.drop (k * 5 + 5 + (n - k) * 5) := ⟨_, rfl⟩
  rw [← hR1] at hS1 hS2
  obtain ⟨W1, hW1⟩ : ∃ W1, W1 = w.drew.setRow g R1.toArray := ⟨_, rfl⟩
  have hcp1 : ∀ ty dl dc sl sc, Nat.min sl dl = n - k → (Builtin.copy_ #[51, 51] ty #[.slice (some ⟨g, (k + 1) * 5, none⟩) dl dc, .slice (some ⟨g, k * 5, none⟩) sl sc]).run Try.prog w.drew = .ok (goInt ((n - k : Nat) : Nat)) W1 := fun ty dl dc sl sc hm => by
    have := run_copy_k (P := Try.prog) w.drew 51 51 ty 57 g ((k + 1) * 5) dl dc ⟨g, k * 5, none⟩ sl sc cur 57 (n - k) 5 (rowC unC (l.drop k)) Try.underlying51 hsz hg hm hBl hcsrc (by rw [hBl, hcs]; omega) (rowC_one _)
    rw [this, hW1, hR1, hBl, show (k + 1) * 5 = k * 5 + 5 by omega]
  have hg1 : W1.heap[g]? = some (.cells R1.toArray 57 (0, 0)) := by rw [hW1]; exact setRow_heap w.drew g cur _ _ _ hg
  have hR1l : R1.length = cur.size := by
    rw [hR1, List.length_append, List.length_append, List.length_take, List.length_drop, hBl, Array.length_toList, hcs]; omega
  obtain ⟨W2, hW2⟩ : ∃ W2, W2 = W1.setRow g (R1.take (k * 5) ++ unC x ++ R1.drop (k * 5 + 5)).toArray := ⟨_, rfl⟩
  have hxc1 : ∀ j u, (unC x)[j]? = some u → W1.cell? ((⟨vb, 0, none⟩ : Addr).add j) = some u := fun j u hu => by
    have := hx.news j u hu
    rw [show (⟨vb, 0, none⟩ : Addr).add j = ⟨vb, j, none⟩ by unfold Addr.add; split <;> simp_all] at this ⊢
    rw [hW1, World.cell?_of_block (w := w.drew) (setRow_other w.drew g vb _ hne)]
    exact this
  have hcp2 : ∀ ty dl dc, Nat.min 1 dl = 1 → (Builtin.copy_ #[51, 51] ty #[.slice (some ⟨g, k * 5, none⟩) dl dc, .slice (some ⟨vb, 0, none⟩) 1 1]).run Try.prog W1 = .ok (goInt 1) W2 := fun ty dl dc hm => by
    have := run_copy_k (P := Try.prog) W1 51 51 ty 57 g (k * 5) dl dc ⟨vb, 0, none⟩ 1 1 R1.toArray 57 1 5 (unC x) Try.underlying51 hsz hg1 hm rfl hxc1 (by rw [unC_len, List.size_toArray, hR1l, hcs]; omega) (unC_one x)
    rw [this, hW2]
    rfl
  have HE : Hid (InsIs x l k (.slice (some ⟨g, 0, none⟩) n cap) w (.returned (.slice (some ⟨g, 0, none⟩) (n + 1) cap)) W2) := Lib.hid (by
    refine ⟨_, rfl, ⟨?_, .inr ⟨g, cap, _, by rw [hnn], Nat.zero_le _, by rw [hW2]; exact setRow_heap W1 g _ _ _ _ hg1, by rw [hnn]; exact hroom, by unfold maxLen; exact hcap, ?_, ?_⟩⟩, ?_, .inl rfl⟩
    · rw [rowC_length unC 5 unC_len, List.length_append, List.length_cons, List.length_take, List.length_drop]; congr 1; omega
    · rw [List.size_toArray, hS2, Array.length_toList, hcs]
    · rw [hnn, show (n + 1) * 5 = k * 5 + 5 + (n - k) * 5 by omega]
      show List.take _ (R1.take (k * 5) ++ unC x ++ R1.drop (k * 5 + 5)) = _
      rw [hS1, rowC_append, rowC_cons, List.append_assoc]
    · rw [hW2, hW1]
      exact ((show Only (fun i => (Value.slice (some ⟨g, 0, none⟩) n cap).ownBlock = some i) w w.drew from ⟨rfl, rfl, rfl, Nat.le_refl _, fun _ _ _ => rfl⟩).setRow g _ (.inl rfl)).setRow g _ (.inl rfl))
  unfold maxLen at hcap
  have hw1 : IntKind.i64.wrap ((k : Int) + 1) = (k : Int) + 1 := by rw [IntKind.wrap_i64]; omega
  have hb1 : (0 : Int) ≤ (k : Int) + 1 := by omega
  have htn : ((k : Int) + 1).toNat = k + 1 := by omega
  have hb2 : ¬ (cap = k + 1) := by omega
  have hb3 : (k : Int) + 1 ≤ (n : Int) + 1 := by omega
  have hb4 : ¬ (cap = k) := by omega
  have hb5 : (k : Int) ≤ (n : Int) + 1 := by omega
  clear hS1 hS2 hR1 hW1 hW2 hg1 hR1l hxc1 hcsrc hAC hA hBl htake hx hxg hsz hg hcs
  go_enter Try.func21, Try.ntmps21
  go_wp2_with (simp only [hov])
  go_region_law (refine step_copy_runI rfl _ _ 51 51 rfl _ _ (by simp [Act.eval, Act.put]) (by simp [Act.eval, Act.put]) (hcp1 3 (n - k) (cap - (k + 1)) (n + 1 - k) (cap - k) (by simp only [Nat.min_def]; split <;> omega)) ?_)
  go_upto_region 16 with fail
  go_wp2_with (refine wpList_copy_runI _ rfl _ _ 51 51 rfl (.slice (some ⟨g, k * 5, none⟩) (n + 1 - k) (cap - k)) (.slice (some ⟨vb, 0, none⟩) 1 1) rfl rfl (hcp2 3 (n + 1 - k) (cap - k) (by simp only [Nat.min_def]; split <;> omega)) ?_)
  go_ret
  exact HE.out
theorem grow_plain (R A B X : List Value) (hA : R.take A.length = A) (hfit : A.length + X.length + B.length ≤ R.length) :
    (((R.take A.length ++ X ++ R.drop (A.length + X.length)).take (A.length + X.length) ++ B ++ (R.take A.length ++ X ++ R.drop (A.length + X.length)).drop (A.length + X.length + B.length)).take (A.length + X.length + B.length) = A ++ X ++ B) ∧
    ((R.take A.length ++ X ++ R.drop (A.length + X.length)).take (A.length + X.length) ++ B ++ (R.take A.length ++ X ++ R.drop (A.length + X.length)).drop (A.length + X.length + B.length)).length = R.length := by
  have e1 : (R.take A.length ++ X ++ R.drop (A.length + X.length)).take (A.length + X.length) = A ++ X := by
    rw [hA, List.take_append_of_le_length (by simp), List.take_of_length_le (by simp)]
  rw [e1]
  refine ⟨?_, ?_⟩
  · rw [List.take_append_of_le_length (by simp; omega), List.take_of_length_le (by simp; omega)]
  · simp [hA]; omega
set_option maxHeartbeats 4000000 in
set_option maxRecDepth 100000 in
theorem Insert_grow (x : Un) (l : List Un) (k g cap vb : Nat) (cur xc : Array Value) (w : World) (hg : w.heap[g]? = some (.cells cur 57 (0, 0))) (_hcap : cap ≤ maxLen) (_hcs : cur.size = cap * 5) (htake : cur.toList.take (l.length * 5) = rowC unC l) (hk : k < l.length) (hfull : l.length ≤ cap) (hroom : cap < l.length + 1) (hn : l.length ≤ 4096)
    (hx : UnAt w vb 0 x) (hxg : w.heap[vb]? = some (.cells xc 57 (0, 0))) :
    Calls Try.prog 21 #[.slice (some ⟨g, 0, none⟩) l.length cap, .int .i64 k, .slice (some ⟨vb, 0, none⟩) 1 1] w (InsIs x l k (.slice (some ⟨g, 0, none⟩) l.length cap) w) := by
  obtain ⟨n, hnn⟩ : ∃ n, l.length = n := ⟨_, rfl⟩
  obtain ⟨i0, hi, hz0, hz1, hz2⟩ := info_parts info_one
  have hA : (rowC unC (l.take k)).length = k * 5 := by rw [rowC_length unC 5 unC_len, List.length_take]; congr 1; omega
  have hBl : (rowC unC (l.drop k)).length = (n - k) * 5 := by rw [rowC_length unC 5 unC_len, List.length_drop, hnn]
  have hgl : g < w.heap.size := (Array.getElem?_eq_some_iff.1 hg).1
  have hvl : vb < w.heap.size := (Array.getElem?_eq_some_iff.1 hxg).1
  have hrow : ∀ j v, (rowC unC l)[j]? = some v → w.cell? ⟨g, j, none⟩ = some v := fun j v hj => by
    rw [cell_of_row w g _ cur _ _ hg, ← Array.getElem?_toList]
    rw [← htake, List.getElem?_take] at hj
    split at hj
    · exact hj
    · cases hj
  have hadd : ∀ b o j, (⟨b, o, none⟩ : Addr).add j = ⟨b, o + j, none⟩ := fun b o j => by unfold Addr.add; split <;> simp_all
  have hasrc : ∀ j v, (rowC unC (l.take k))[j]? = some v → w.cell? ⟨g, j, none⟩ = some v := fun j v hj => hrow j v (by
    rw [← rowC_take unC 5 unC_len, List.getElem?_take] at hj
    split at hj
    · exact hj
    · cases hj)
  have hcsrc : ∀ j v, (rowC unC (l.drop k))[j]? = some v → w.cell? ⟨g, k * 5 + j, none⟩ = some v := fun j v hj => hrow _ v (by
    rw [← rowC_drop unC 5 unC_len, List.getElem?_drop] at hj
    exact hj)
  rw [hnn] at hk hfull hroom hn ⊢
  have hsz : (Try.prog.info? 57).map (·.size) = some 5 := by rw [hi]; simp [hz1]
  have hold : (Builtin.firstCells i0.size k (.slice (some ⟨g, 0, none⟩) k cap)).run Try.prog w.drew = .ok (rowC unC (l.take k)).toArray w.drew := by
    rw [hz1]
    exact run_firstCells_some w.drew 5 k ⟨g, 0, none⟩ k cap _ hA (fun j v hj => by rw [hadd, Nat.zero_add]; exact hasrc j v hj)
  have hkk : (n : Int) + 1 - (k : Int) = ((n + 1 - k : Nat) : Int) := by omega
  have hik : k + (n + 1 - k) = n + 1 := by omega
  obtain ⟨G, hG⟩ : ∃ G, G = grownCap w (n + 1) cap 57 := ⟨_, rfl⟩
  have hGn : n + 1 ≤ G := by rw [hG]; exact grownCap_ge w _ _ _
  have hGm : G ≤ maxLen := by rw [hG]; exact grownCap_le_maxLen w (n + 1) cap 57 (by unfold maxLen; omega)
  obtain ⟨Z, hZ⟩ : ∃ Z : Value, Z = .agg #[.int .i64 0, .int .i64 0, .int .i64 0, .int .i64 0, .string ByteArray.empty] := ⟨_, rfl⟩
  have hZc : Z.cells.size = 5 := by rw [hZ]; rfl
  obtain ⟨R0, hR0⟩ : ∃ R0 : Array Value, R0 = (rowC unC (l.take k)).toArray ++ Builtin.zeroCells Z.cells (n + 1 - k) ++ Builtin.zeroCells Z.cells (G - (n + 1)) := ⟨_, rfl⟩
  have hR0s : R0.size = G * 5 := by
    rw [hR0, Array.size_append, Array.size_append, size_zeroCells, size_zeroCells, hZc, List.size_toArray, hA]; omega
  have hR0t : R0.toList.take (k * 5) = rowC unC (l.take k) := by
    rw [hR0, Array.toList_append, Array.toList_append, List.append_assoc]
    exact List.take_left' hA
  obtain ⟨Wa, hWa⟩ : ∃ Wa, Wa = w.drew.alloc (.cells R0 57) := ⟨_, rfl⟩
  have hrz : ∀ ty, (Builtin.append_ #[51, 3] ty #[.slice (some ⟨g, 0, none⟩) k cap, .int .i64 ((n : Int) + 1 - (k : Int))]).run Try.prog w = .ok (.slice (some ⟨w.heap.size, 0, none⟩) (n + 1) G) Wa := fun ty => by
    have h := Lib.run_append_grow_zeros w 51 3 ty 57 i0 _ .i64 .i64 Try.underlying51 Try.underlying3 hi hz0 (some ⟨g, 0, none⟩) k cap (rowC unC (l.take k)) hold (n + 1 - k) (by omega) (by omega) (by omega) (by omega) (by rw [hz2]; omega) (by rw [hz2, hik]; exact growslice_fits hroom (by omega))
    rw [hik, ← hG, ← hZ, ← hR0] at h
    rw [hkk, hWa]
    exact h
  have hN : Wa.heap[w.heap.size]? = some (.cells R0 57 (0, 0)) := by rw [hWa]; exact heap_alloc_new w.drew _
  have hOa : Only (fun i => (Value.slice (some ⟨g, 0, none⟩) n cap).ownBlock = some i) w Wa := by
    rw [hWa]
    exact (show Only (fun i => (Value.slice (some ⟨g, 0, none⟩) n cap).ownBlock = some i) w w.drew from ⟨rfl, rfl, rfl, Nat.le_refl _, fun _ _ _ => rfl⟩).alloc _
  have hWac : ∀ b j v, b < w.heap.size → w.cell? ⟨b, j, none⟩ = some v → Wa.cell? ⟨b, j, none⟩ = some v := fun b j v hb h => by rw [hWa, World.cell?_alloc_past (w := w.drew) _ b j hb]; exact h
  obtain ⟨N, hNN⟩ : ∃ N, w.heap.size = N := ⟨_, rfl⟩
  rw [hNN] at hN hrz
  obtain ⟨R1, hR1⟩ : ∃ R1, R1 = R0.toList.take (k * 5) ++ unC x ++ R0.toList.drop (k * 5 + 5) := ⟨_, rfl⟩
  have hR1l : R1.length = G * 5 := by rw [hR1, List.length_append, List.length_append, List.length_take, List.length_drop, unC_len, Array.length_toList, hR0s]; omega
  obtain ⟨Wb, hWb⟩ : ∃ Wb, Wb = Wa.setRow N R1.toArray := ⟨_, rfl⟩
  have hcpA : ∀ ty dl dc, Nat.min 1 dl = 1 → (Builtin.copy_ #[51, 51] ty #[.slice (some ⟨N, k * 5, none⟩) dl dc, .slice (some ⟨vb, 0, none⟩) 1 1]).run Try.prog Wa = .ok (goInt 1) Wb := fun ty dl dc hm => by
    have := run_copy_k (P := Try.prog) Wa 51 51 ty 57 N (k * 5) dl dc ⟨vb, 0, none⟩ 1 1 R0 57 1 5 (unC x) Try.underlying51 hsz hN hm rfl (fun j u hu => by
      have := hx.news j u hu
      rw [hadd] at this ⊢
      exact hWac _ _ _ hvl this) (by rw [unC_len, hR0s]; omega) (unC_one x)
    rw [this, hWb, hR1]
    rfl
  have hN1 : Wb.heap[N]? = some (.cells R1.toArray 57 (0, 0)) := by rw [hWb]; exact setRow_heap Wa N R0 _ _ _ hN
  obtain ⟨Wc, hWc⟩ : ∃ Wc, Wc = Wb.drew.setRow N (R1.take (k * 5 + 5) ++ rowC unC (l.drop k) ++ R1.drop (k * 5 + 5 + (n - k) * 5)).toArray := ⟨_, rfl⟩
  have hcpB : ∀ ty dl dc sl sc, Nat.min sl dl = n - k → (Builtin.copy_ #[51, 51] ty #[.slice (some ⟨N, (k + 1) * 5, none⟩) dl dc, .slice (some ⟨g, k * 5, none⟩) sl sc]).run Try.prog Wb.drew = .ok (goInt ((n - k : Nat) : Nat)) Wc := fun ty dl dc sl sc hm => by
    have := run_copy_k (P := Try.prog) Wb.drew 51 51 ty 57 N ((k + 1) * 5) dl dc ⟨g, k * 5, none⟩ sl sc R1.toArray 57 (n - k) 5 (rowC unC (l.drop k)) Try.underlying51 hsz hN1 hm hBl (fun j v hj => by
      rw [hadd]
      show Wb.cell? _ = _
      rw [hWb, World.cell?_of_block (w := Wa) (setRow_other Wa N g _ (by omega))]
      exact hWac _ _ _ hgl (hcsrc j v hj)) (by rw [hBl, List.size_toArray, hR1l]; omega) (rowC_one _)
    rw [this, hWc, hBl, show (k + 1) * 5 = k * 5 + 5 by omega]
  obtain ⟨hS1, hS2⟩ := grow_plain R0.toList (rowC unC (l.take k)) (rowC unC (l.drop k)) (unC x) (by rw [hA]; exact hR0t) (by rw [hA, hBl, unC_len, Array.length_toList, hR0s]; omega)
  rw [hA, hBl, unC_len, ← hR1] at hS1 hS2
  have HE : Hid (InsIs x l k (.slice (some ⟨g, 0, none⟩) n cap) w (.returned (.slice (some ⟨N, 0, none⟩) (n + 1) G)) Wc) := Lib.hid (by
    refine ⟨_, rfl, ⟨?_, .inr ⟨N, G, _, by rw [hnn], Nat.zero_le _, by rw [hWc]; exact setRow_heap Wb.drew N _ _ _ _ hN1, by rw [hnn]; exact hGn, hGm, ?_, ?_⟩⟩, ?_, .inr (fun i hi => by injection hi with hi; rw [hNN]; exact Nat.le_of_eq hi)⟩
    · rw [rowC_length unC 5 unC_len, List.length_append, List.length_cons, List.length_take, List.length_drop]; congr 1; omega
    · rw [List.size_toArray, hS2, Array.length_toList, hR0s]
    · rw [hnn, show (n + 1) * 5 = k * 5 + 5 + (n - k) * 5 by omega]
      show List.take _ (R1.take (k * 5 + 5) ++ rowC unC (l.drop k) ++ R1.drop (k * 5 + 5 + (n - k) * 5)) = _
      rw [hS1, rowC_append, rowC_cons, List.append_assoc]
    · rw [hWc, hWb]
      have h2 := hOa.setRow N R1.toArray (.inr (Nat.le_of_eq hNN))
      exact (show Only _ w (Wa.setRow N R1.toArray).drew from ⟨h2.os, h2.tape, h2.output, h2.size, h2.block⟩).setRow N _ (.inr (Nat.le_of_eq hNN)))
  unfold maxLen at _hcap hGm
  have hw1 : IntKind.i64.wrap ((k : Int) + 1) = (k : Int) + 1 := by rw [IntKind.wrap_i64]; omega
  have hb1 : (0 : Int) ≤ (k : Int) + 1 := by omega
  have htn : ((k : Int) + 1).toNat = k + 1 := by omega
  have hb2 : ¬ (G = k + 1) := by omega
  have hb3 : (k : Int) + 1 ≤ (n : Int) + 1 := by omega
  have hb4 : ¬ (cap = k) := by omega
  have hb5 : (k : Int) ≤ (n : Int) := by omega
  have hb6 : ¬ (G = k) := by omega
  have hb7 : (k : Int) ≤ (n : Int) + 1 := by omega
  clear hS1 hS2 hR1 hWc hWb hWa hN1 hN hOa hWac hR1l hcsrc hasrc hrow hR0t hR0s hR0 hA hBl htake hx hxg hsz hg _hcs hG hZ hZc hold hkk hik hi hz0 hz1 hz2 hadd hNN hvl hgl
  go_enter Try.func21, Try.ntmps21
  go_upto_region 9 with fail
  go_upto_region 10 with (at_builtin; refine wpList_append_run rfl _ _ 51 3 rfl _ _ rfl rfl (hrz _) ?_)
  go_upto_region 11 with (refine wpList_copy_runI _ rfl _ _ 51 51 rfl (.slice (some ⟨N, k * 5, none⟩) (n + 1 - k) (G - k)) (.slice (some ⟨vb, 0, none⟩) 1 1) rfl rfl (hcpA 3 (n + 1 - k) (G - k) (by simp only [Nat.min_def]; split <;> omega)) ?_)
  go_region_law (refine step_copy_runI rfl _ _ 51 51 rfl _ _ (by simp [Act.eval, Act.put]) (by simp [Act.eval, Act.put]) (hcpB 3 (n - k) (G - (k + 1)) (n - k) (cap - k) (by simp only [Nat.min_def]; split <;> omega)) ?_)
  go_wp2_with fail
  go_ret
  exact HE.out
/-- At whatever place. -/
theorem Insert_any (x : Un) (l : List Un) (k : Nat) (wv : Value) (vb : Nat) (xc : Array Value) (w : World) (h : w.ownsRow 0 57 5 wv l.length (rowC unC l)) (hk : k ≤ l.length) (hn : l.length ≤ 4096) (hx : UnAt w vb 0 x) (hxg : w.heap[vb]? = some (.cells xc 57 (0, 0))) (hne : wv.ownBlock ≠ some vb) :
    Calls Try.prog 21 #[wv, .int .i64 k, .slice (some ⟨vb, 0, none⟩) 1 1] w (InsIs x l k wv w) := by
  by_cases he : k = l.length
  · subst he
    exact Insert_end x l wv vb w h hn hx
  · have h2 := h.2
    rcases h2 with ⟨_, h0⟩ | ⟨g, cap, cur, rfl, _, hg, h1, h2, h3, h4⟩
    · omega
    · by_cases hr : l.length + 1 ≤ cap
      · exact Insert_shift x l k g cap vb cur xc w hg h2 h3 h4 (by omega) hr hn hx hxg (fun e => hne (by rw [e]; rfl))
      · exact Insert_grow x l k g cap vb cur xc w hg h2 h3 h4 (by omega) h1 (by omega) hn hx hxg
end Go.Proofs.Ytbmlgnmilolamaa
