/-
  The document's without, Lose, Next, Flying. No statement is proved here.
-/
import Derived.Test.YtbmlgnmilolamaaDoorRefA
namespace Go.Proofs.YtbmlgnmilolamaaDoor
open Go.RowKit
/-- Those under way, in a slice of the call's own. -/
def UnOwn (w : World) (B : Nat) (v : Value) (l : List Un) : Prop := w.ownsRow B 78 5 v l.length (rowC unC l)
theorem UnOwn.form {w : World} {B : Nat} {v : Value} {l : List Un} (h : UnOwn w B v l) : ∃ a c, v = .slice a l.length c := by
  rcases h.2 with ⟨rfl, h0⟩ | ⟨_, _, _, rfl, _⟩
  · exact ⟨none, 0, by rw [h0]⟩
  · exact ⟨_, _, rfl⟩
theorem UnOwn.below {w w' : World} {B : Nat} {v : Value} {l : List Un} (h : UnOwn w B v l) (hb : Below w.heap.size w w') : UnOwn w' B v l :=
  h.kept (row := none) ⟨hb.os, hb.tape, hb.output, hb.size, fun k hk _ => hb.block k hk⟩ (by cases hv : v.ownBlock <;> simp)
theorem UnOwn.base {w : World} {B : Nat} {v : Value} {l : List Un} (h : UnOwn w B v l) : w.ownsRow 0 78 5 v l.length (rowC unC l) := by
  refine ⟨h.1, ?_⟩
  rcases h.2 with hn | ⟨g, cap, cur, rfl, hb, rest⟩
  · exact .inl hn
  · exact .inr ⟨g, cap, cur, rfl, Nat.zero_le _, rest⟩
theorem info_rone : (Tryd.prog.info? 78).map (fun i => (i.zero, i.size, i.bytes)) = some (some (.agg #[.int .i64 0, .int .i64 0, .int .i64 0, .int .i64 0, .string ByteArray.empty]), 5, 48) := by kernel_rfl
theorem un_append (w : World) (B : Nat) (v : Value) (l : List Un) (x : Un) (b : Nat) (h : UnOwn w B v l) (hl : l.length ≤ 5000) (hB : B ≤ w.heap.size) (hx : UnAt w b 0 x) :
    ∃ v' w', (Builtin.append_ #[48, 48] 48 #[v, .slice (some ⟨b, 0, none⟩) 1 1]).run Tryd.prog w = .ok v' w' ∧ UnOwn w' B v' (l ++ [x]) ∧ w.grownBy w' v.ownBlock := by
  obtain ⟨i0, hi, hz0, hz1, hz2⟩ := info_parts info_rone
  obtain ⟨v', w', hrun, h2, h3, _⟩ := run_append_own (P := Tryd.prog) w B 48 48 78 i0 _ 5 48 Tryd.underlying48 hi hz0 hz1 hz2 rfl (by decide) v l.length (rowC unC l) h ⟨b, 0, none⟩ 1 1 (unC x) rfl hx.news (unC_one x) (by unfold maxLen; omega) (by omega) hB
  refine ⟨v', w', hrun, ?_, h3⟩
  unfold UnOwn
  rw [List.length_append, rowC_append]
  simpa [rowC] using h2
def OwnIs (l : List Un) (w : World) (e : Ending) (w' : World) : Prop := ∃ a c, e = .returned (.slice a l.length c) ∧ UnOwn w' w.heap.size (.slice a l.length c) l ∧ Below w.heap.size w w'
def dropAt (l : List Un) (k : Nat) : List Un := l.eraseIdx k
theorem erase_snoc {l : List Un} {j k : Nat} {x : Un} (hx : l[j]? = some x) : (l.take (j + 1)).eraseIdx k = (l.take j).eraseIdx k ++ (if j = k then [] else [x]) := by
  have hj := (List.getElem?_eq_some_iff.1 hx).1
  have hlen : (l.take j).length = j := by rw [List.length_take]; omega
  rw [List.take_add_one, hx, Option.toList_some]
  by_cases h1 : k < j
  · rw [List.eraseIdx_append_of_lt_length (by omega), if_neg (by omega)]
  · by_cases h2 : j = k
    · subst h2
      rw [List.eraseIdx_append_of_length_le (by omega), hlen, Nat.sub_self, if_pos rfl, List.eraseIdx_of_length_le (l := l.take j) (by omega)]
      rfl
    · rw [List.eraseIdx_of_length_le (l := l.take j ++ [x]) (by rw [List.length_append, hlen]; simp; omega), List.eraseIdx_of_length_le (l := l.take j) (by omega), if_neg h2]
set_option maxHeartbeats 4000000 in
set_option maxRecDepth 100000 in
theorem without_any (l : List Un) (k : Nat) (wv : Value) (w : World) (h : w.ownsRow 0 78 5 wv l.length (rowC unC l)) (hn : l.length ≤ 4500) :
    Calls Tryd.prog 35 #[wv, .int .i64 k] w (OwnIs (l.eraseIdx k) w) := by
  obtain ⟨a, cap, rfl, hcap, hcm, hv⟩ := rway_view h
  have HV := Lib.hid hv
  obtain ⟨n, hnn⟩ : ∃ n, l.length = n := ⟨_, rfl⟩
  have HN := Lib.hid hnn
  rw [hnn] at hn ⊢
  clear h hv hnn hcm hcap
  go_enter Tryd.func35, Tryd.ntmps35
  go_wp2_with fail
  go_loopw [5, 6] (fun v i wr => ∃ j : Nat, j ≤ n ∧ i = .int .i64 j ∧ Hid (UnOwn wr w.heap.size v ((l.take j).eraseIdx k)) ∧ Hid (Below w.heap.size w wr)) (fun _ i _ => n - (intOf i).toNat)
  case atStart => exact ⟨0, Nat.zero_le _, rfl, Lib.hid (by rw [List.take_zero]; exact World.ownsRow_nil _ _ _ _), Lib.hid (Below.refl _ _)⟩
  case round =>
    obtain ⟨j, hj, rfl, HU, HB⟩ := hrel
    by_cases hlt : j < n
    · obtain ⟨g, rfl, hg⟩ := HV.out (by have := HN.out; omega)
      obtain ⟨x, hx⟩ : ∃ x, l[j]? = some x := ⟨_, List.getElem?_eq_getElem (by have := HN.out; omega)⟩
      have HX := Lib.hid hx
      have hu := (hg j x hx).below HB.out
      have hjn : (j : Int) < (n : Int) := by omega
      by_cases hjk : j = k
      · have HE : Hid ((l.take (j + 1)).eraseIdx k = (l.take j).eraseIdx k) := Lib.hid (by rw [erase_snoc hx, if_pos hjk, List.append_nil])
        clear hu hg hx
        subst hjk
        go_wp2_with fail
        go_roundw
        case rel => exact ⟨j + 1, by omega, by go_num, Lib.hid (by rw [HE.out]; exact HU.out), HB⟩
        case measure => simp [intOf]; omega
      · have HE : Hid ((l.take (j + 1)).eraseIdx k = (l.take j).eraseIdx k ++ [x]) := Lib.hid (by rw [erase_snoc hx, if_neg hjk])
        have hne : ((j : Int) == (k : Int)) = false := beq_eq_false_iff_ne.2 (by omega)
        obtain ⟨x1, x2, x3, x4, x5⟩ := x
        obtain ⟨c0, c1, c2, c3, c4⟩ := hu
        simp only at c0 c1 c2 c3 c4
        obtain ⟨W2, hW2⟩ : ∃ W, wr.alloc (.cells #[.int .i64 x1, .int .i64 x2, .int .i64 x3, .int .i64 x4, .string x5] 78) = W := ⟨_, rfl⟩
        have hB2 : Below wr.heap.size wr W2 := by rw [← hW2]; exact (Below.refl _ _).alloc (Nat.le_refl _) _
        have hq : ∀ i v, (#[.int .i64 x1, .int .i64 x2, .int .i64 x3, .int .i64 x4, .string x5] : Array Value)[i]? = some v → W2.cell? ⟨wr.heap.size, i, none⟩ = some v := fun i v h => by rw [← hW2, World.cell?_alloc_mark]; exact h
        have hel : ((l.take j).eraseIdx k).length ≤ 5000 := by
          have h1 : ((l.take j).eraseIdx k).length ≤ (l.take j).length := (List.eraseIdx_sublist _ _).length_le
          have h2 : (l.take j).length ≤ l.length := (List.take_sublist _ _).length_le
          have := HN.out
          omega
        obtain ⟨v', w', hap, hrow, hgr⟩ := un_append W2 w.heap.size _ _ (x1, x2, x3, x4, x5) wr.heap.size (HU.out.below hB2) hel (Nat.le_trans HB.out.size hB2.size) ⟨by simpa using hq 0 _ rfl, by simpa using hq 1 _ rfl, by simpa using hq 2 _ rfl, by simpa using hq 3 _ rfl, by simpa using hq 4 _ rfl⟩
        rw [← hW2] at hap
        have HAP := Lib.hid hap
        have HB3 : Hid (Below w.heap.size w w') := Lib.hid ((HB.out.trans (hB2.mono HB.out.size)).grown hgr (Nat.le_trans HB.out.size hB2.size) (fun k hk => (HU.out.lt k hk).1))
        have HROW : Hid (UnOwn w' w.heap.size v' ((l.take (j + 1)).eraseIdx k)) := Lib.hid (by rw [HE.out]; exact hrow)
        clear hW2 hB2 hq hap hrow hgr hg hx hel
        go_wp2_with (at_builtin; refine wpList_append_run rfl _ _ 48 48 rfl _ _ rfl rfl HAP.out ?_)
        go_roundw
        case rel => exact ⟨j + 1, by omega, by go_num, HROW, HB3⟩
        case measure => simp [intOf]; omega
    · obtain rfl : j = n := by omega
      have hl : l.take j = l := List.take_of_length_le (by have := HN.out; omega)
      rw [hl] at HU
      obtain ⟨a, c, hv⟩ := HU.out.form
      subst hv
      clear hl
      go_wp2_with fail
      go_ret
      exact ⟨a, c, rfl, HU.out, HB.out⟩
end Go.Proofs.YtbmlgnmilolamaaDoor
