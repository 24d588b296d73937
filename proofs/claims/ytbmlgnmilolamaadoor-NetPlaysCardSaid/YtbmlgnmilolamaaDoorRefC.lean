/-
  The document's Lose, Next, Flying. No statement is proved here.
-/
import Derived.Test.YtbmlgnmilolamaaDoorRefB
namespace Go.Proofs.YtbmlgnmilolamaaDoor
open Go.RowKit
theorem keep_take {e : Int} {l : List Un} {j : Nat} {x : Un} (hx : l[j]? = some x) (h : toE e x = true) : keep e (l.take (j + 1)) = keep e (l.take j) := by rw [keep_snoc hx, h]; simp
theorem keep_take2 {e : Int} {l : List Un} {j : Nat} {x : Un} (hx : l[j]? = some x) (h : toE e x = false) : keep e (l.take (j + 1)) = keep e (l.take j) ++ [x] := by rw [keep_snoc hx, h]; simp
def RLoseIs (σ : NetS) (e : Int) (w : World) (p : Nat) (fv wv : Value) (en : Ending) (w' : World) : Prop :=
  RefTo w p fv wv (σ.lose e) w' ∧ en = .returned (.int .i64 ((σ.way.length : Int) - (keep e σ.way).length))
set_option maxHeartbeats 4000000 in
set_option maxRecDepth 100000 in
theorem rLose_at (σ : NetS) (hlen : σ.way.length ≤ 4096) (e : Int) (p : Nat) (fv wv : Value) (w : World) (h : RefAt w p fv wv σ) :
    Calls Tryd.prog 17 #[.pointer (some ⟨p, 0, none⟩), .int .i64 e] w (RLoseIs σ e w p fv wv) := by
  have HN := Lib.hid h
  obtain ⟨wa, wcap, rfl, hwc, hwm, hv⟩ := rway_view h.hw
  have HV := Lib.hid hv
  obtain ⟨n, hn⟩ : ∃ n, σ.way.length = n := ⟨_, rfl⟩
  have HNL := Lib.hid hn
  unfold RLoseIs
  rw [hn] at HN hlen ⊢
  have n4 : w.cell? ⟨p, 4, none⟩ = some (.slice wa n wcap) := HN.out.cell 4
  have HN4 := Lib.hid n4
  have hpl := h.lt
  clear h hwc hwm hv hn n4
  go_enter Tryd.func17, Tryd.ntmps17
  go_wp2_with fail
  go_loopw [5, 6] (fun v i wr => ∃ j : Nat, j ≤ n ∧ i = .int .i64 j ∧ Hid (UnOwn wr w.heap.size v (keep e (σ.way.take j))) ∧ Hid (Below w.heap.size w wr)) (fun _ i _ => n - (intOf i).toNat)
  case atStart => exact ⟨0, Nat.zero_le _, rfl, Lib.hid (World.ownsRow_nil _ _ _ _), Lib.hid (Below.refl _ _)⟩
  case round =>
    obtain ⟨j, hj, rfl, HU, HB⟩ := hrel
    have n4 := (HB.out.cell (p := ⟨p, 4, none⟩) hpl).trans HN4.out
    by_cases hlt : j < n
    · obtain ⟨g, rfl, hg⟩ := HV.out (by have := HNL.out; omega)
      obtain ⟨x, hx⟩ : ∃ x, σ.way[j]? = some x := ⟨_, List.getElem?_eq_getElem (by have := HNL.out; omega)⟩
      have HX := Lib.hid hx
      obtain ⟨c0, c1, c2, c3, c4⟩ := (hg j x hx).below HB.out
      have hjn : (j : Int) < (n : Int) := by omega
      cases ht : toE e x with
      | true =>
        have HE := Lib.hid (keep_take hx ht)
        obtain ⟨x1, x2, x3, x4, x5⟩ := x
        simp only at c0 c1 c2 c3 c4
        have hxe : (x4 == e) = true := ht
        clear hg hx ht
        go_wp2_with fail
        go_roundw
        case rel => exact ⟨j + 1, by omega, by go_num, Lib.hid (by rw [HE.out]; exact HU.out), HB⟩
        case measure => simp [intOf]; omega
      | false =>
        have HE := Lib.hid (keep_take2 hx ht)
        obtain ⟨x1, x2, x3, x4, x5⟩ := x
        simp only at c0 c1 c2 c3 c4
        have hxe : (x4 == e) = false := ht
        obtain ⟨W2, hW2⟩ : ∃ W, wr.alloc (.cells #[.int .i64 x1, .int .i64 x2, .int .i64 x3, .int .i64 x4, .string x5] 78) = W := ⟨_, rfl⟩
        have hB2 : Below wr.heap.size wr W2 := by rw [← hW2]; exact (Below.refl _ _).alloc (Nat.le_refl _) _
        have hq : ∀ i v, (#[.int .i64 x1, .int .i64 x2, .int .i64 x3, .int .i64 x4, .string x5] : Array Value)[i]? = some v → W2.cell? ⟨wr.heap.size, i, none⟩ = some v := fun i v h => by rw [← hW2, World.cell?_alloc_mark]; exact h
        have hel : (keep e (σ.way.take j)).length ≤ 5000 := by
          have h1 : (keep e (σ.way.take j)).length ≤ (σ.way.take j).length := List.length_filter_le _ _
          have h2 : (σ.way.take j).length ≤ σ.way.length := (List.take_sublist _ _).length_le
          have := HNL.out
          omega
        obtain ⟨v', w', hap, hrow, hgr⟩ := un_append W2 w.heap.size _ _ (x1, x2, x3, x4, x5) wr.heap.size (HU.out.below hB2) hel (Nat.le_trans HB.out.size hB2.size) ⟨by simpa using hq 0 _ rfl, by simpa using hq 1 _ rfl, by simpa using hq 2 _ rfl, by simpa using hq 3 _ rfl, by simpa using hq 4 _ rfl⟩
        rw [← hW2] at hap
        have HAP := Lib.hid hap
        have HB3 : Hid (Below w.heap.size w w') := Lib.hid ((HB.out.trans (hB2.mono HB.out.size)).grown hgr (Nat.le_trans HB.out.size hB2.size) (fun k hk => (HU.out.lt k hk).1))
        have HROW : Hid (UnOwn w' w.heap.size v' (keep e (σ.way.take (j + 1)))) := Lib.hid (by rw [HE.out]; exact hrow)
        clear hW2 hB2 hq hap hrow hgr hg hx hel ht
        go_wp2_with (at_builtin; refine wpList_append_run rfl _ _ 48 48 rfl _ _ rfl rfl HAP.out ?_)
        go_roundw
        case rel => exact ⟨j + 1, by omega, by go_num, HROW, HB3⟩
        case measure => simp [intOf]; omega
    · obtain rfl : j = n := by omega
      have hl : σ.way.take j = σ.way := List.take_of_length_le (by have := HNL.out; omega)
      rw [hl] at HU
      obtain ⟨a, c, hv⟩ := HU.out.form
      subst hv
      have hm : (keep e σ.way).length ≤ j := by have h := HNL.out; rw [← h]; exact List.length_filter_le _ _
      obtain ⟨m, hmm⟩ : ∃ m, (keep e σ.way).length = m := ⟨_, rfl⟩
      have HM := Lib.hid hmm
      rw [hmm] at HU hm
      rw [hmm]
      have hw1 : IntKind.i64.wrap ((j : Int) - (m : Int)) = (j : Int) - (m : Int) := by rw [IntKind.wrap_i64]; omega
      have HNB := Lib.hid (HN.out.below HB.out)
      have f4 : wr.frozen? ⟨p, 4, none⟩ = false := HNB.out.frozen 4
      have HT : Hid (RefTo w p fv (.slice wa j wcap) (σ.lose e) (wr.setCell ⟨p, 4, none⟩ (.slice a m c))) := Lib.hid (by
        have hb := HU.out.base
        refine HN.out.put 4 _ (.slice a m c) _ wr (Only.of_below HB.out) HNB.out.hp (by simp [NetS.lose]) ?_ rfl rfl (.inr (fun k hk => (HU.out.lt k hk).1))
        rw [keep_lose]
        exact hb)
      clear hl hmm
      go_wp2_with fail
      go_ret
      refine ⟨HT.out, ?_⟩
      rw [HM.out]
      rfl
end Go.Proofs.YtbmlgnmilolamaaDoor
