/-
  Flying. No statement is proved here.
-/
import Derived.Test.YtbmlgnmilolamaaNextW
namespace Go.Proofs.Ytbmlgnmilolamaa
open Go.RowKit
def pkC (p : Pk) : List Value := [.int .i64 p.1, .int .i64 p.2.1, .string p.2.2]
theorem pkC_len (p : Pk) : (pkC p).length = 3 := rfl
theorem pkC_one (p : Pk) : ∀ v ∈ pkC p, v.oneCell' = true := by simp [pkC, Value.oneCell']
/-- Packets in a slice of the call's own. -/
def PkRow (w : World) (B : Nat) (v : Value) (l : List Pk) : Prop := w.ownsRow B 33 3 v l.length (rowC pkC l)
def FlyIs (l : List Pk) (w : World) (e : Ending) (w' : World) : Prop :=
  ∃ a c, e = .returned (.slice a l.length c) ∧ PkRow w' w.heap.size (.slice a l.length c) l ∧ Below w.heap.size w w'
theorem info_packet : (Try.prog.info? 33).map (fun i => (i.zero, i.size, i.bytes)) = some (some (.agg #[.int .i64 0, .int .i64 0, .string ByteArray.empty]), 3, 32) := by kernel_rfl
theorem PkRow.form {w : World} {B : Nat} {v : Value} {l : List Pk} (h : PkRow w B v l) : ∃ a c, v = .slice a l.length c := by
  rcases h.2 with ⟨rfl, h0⟩ | ⟨_, _, _, rfl, _⟩
  · exact ⟨none, 0, by rw [h0]⟩
  · exact ⟨_, _, rfl⟩
theorem PkRow.below {w w' : World} {B : Nat} {v : Value} {l : List Pk} (h : PkRow w B v l) (hb : Below w.heap.size w w') : PkRow w' B v l :=
  h.kept (row := none) ⟨hb.os, hb.tape, hb.output, hb.size, fun k hk _ => hb.block k hk⟩ (by cases hv : v.ownBlock <;> simp)
/-- One more packet, which lies in a block of its own. -/
theorem pk_append (w : World) (B : Nat) (v : Value) (l : List Pk) (p : Pk) (b : Nat) (h : PkRow w B v l) (hl : l.length ≤ 5000) (hB : B ≤ w.heap.size) (c0 : w.cell? ⟨b, 0, none⟩ = some (.int .i64 p.1)) (c1 : w.cell? ⟨b, 1, none⟩ = some (.int .i64 p.2.1)) (c2 : w.cell? ⟨b, 2, none⟩ = some (.string p.2.2)) :
    ∃ v' w', (Builtin.append_ #[44, 44] 44 #[v, .slice (some ⟨b, 0, none⟩) 1 1]).run Try.prog w = .ok v' w' ∧ PkRow w' B v' (l ++ [p]) ∧ w.grownBy w' v.ownBlock := by
  obtain ⟨i0, hi, hz0, hz1, hz2⟩ := info_parts info_packet
  obtain ⟨v', w', hrun, h2, h3, _⟩ := run_append_own (P := Try.prog) w B 44 44 33 i0 _ 3 32 Try.underlying44 hi hz0 hz1 hz2 rfl (by decide) v l.length (rowC pkC l) h ⟨b, 0, none⟩ 1 1 (pkC p) rfl (fun j u hu => by
    rw [show (⟨b, 0, none⟩ : Addr).add j = ⟨b, j, none⟩ by unfold Addr.add; split <;> simp_all]
    match j, hu with
    | 0, hu => cases hu; exact c0
    | 1, hu => cases hu; exact c1
    | 2, hu => cases hu; exact c2) (pkC_one p) (by unfold maxLen; omega) (by omega) hB
  refine ⟨v', w', hrun, ?_, h3⟩
  unfold PkRow
  rw [List.length_append, rowC_append]
  simpa [rowC] using h2
set_option maxHeartbeats 4000000 in
set_option maxRecDepth 100000 in
theorem Flying_at (σ : NetS) (hlen : σ.way.length ≤ 4096) (p : Nat) (fv wv : Value) (w : World) (h : NetAt w p fv wv σ) :
    Calls Try.prog 12 #[.pointer (some ⟨p, 0, none⟩)] w (FlyIs (σ.way.map (fun x => x.2.2)) w) := by
  have H1 := Lib.hid (none_at h)
  obtain ⟨wa, wcap, rfl, hwc, hwm, hv⟩ := way_view h.hw
  have HV := Lib.hid hv
  have n4 : w.cell? ⟨p, 4, none⟩ = some (.slice wa σ.way.length wcap) := h.cell 4
  obtain ⟨n, hn⟩ : ∃ n, σ.way.length = n := ⟨_, rfl⟩
  have HNL := Lib.hid hn
  rw [hn] at n4 hlen
  clear h hv hwc
  go_enter Try.func12, Try.ntmps12
  go_wp2_with fail
  refine H1.out.mono ?_; rintro e w' ⟨rfl, rfl⟩
  go_wp2_with fail
  go_loopw [3, 13] (fun v i wr => ∃ j : Nat, j ≤ n ∧ i = .int .i64 j ∧ Hid (PkRow wr w.heap.size v ((σ.way.take j).map (fun x => x.2.2))) ∧ Hid (Below w.heap.size w wr)) (fun _ i _ => n - (intOf i).toNat)
  case atStart => exact ⟨0, Nat.zero_le _, rfl, Lib.hid (World.ownsRow_nil _ _ _ _), Lib.hid (Below.refl _ _)⟩
  case round =>
    obtain ⟨j, hj, rfl, HPR, HB⟩ := hrel
    by_cases hlt : j < n
    · obtain ⟨g, rfl, hg⟩ := HV.out (by have := HNL.out; omega)
      obtain ⟨x, hx⟩ : ∃ x, σ.way[j]? = some x := ⟨_, List.getElem?_eq_getElem (by have := HNL.out; omega)⟩
      obtain ⟨c0, c1, c2, c3, c4⟩ := (hg j x hx).below HB.out
      have HX := Lib.hid hx
      obtain ⟨x1, x2, x3, x4, x5⟩ := x
      simp only at c0 c1 c2 c3 c4
      have hjn : (j : Int) < (n : Int) := by omega
      clear hg hx
      obtain ⟨W2, hW2⟩ : ∃ W, (wr.alloc (.cells #[.int .i64 x1, .int .i64 x2, .int .i64 x3, .int .i64 x4, .string x5] 57)).alloc (.cells #[.int .i64 x3, .int .i64 x4, .string x5] 33) = W := ⟨_, rfl⟩
      have hB2 : Below wr.heap.size wr W2 := by rw [← hW2]; exact ((Below.refl _ _).alloc (Nat.le_refl _) _).alloc (by simp) _
      have hq : ∀ i v, (#[.int .i64 x3, .int .i64 x4, .string x5] : Array Value)[i]? = some v → W2.cell? ⟨wr.heap.size + 1, i, none⟩ = some v := fun i v h => by
        have e := World.cell?_alloc_mark (wr.alloc (.cells #[.int .i64 x1, .int .i64 x2, .int .i64 x3, .int .i64 x4, .string x5] 57)) #[.int .i64 x3, .int .i64 x4, .string x5] 33 (0, 0) i
        rw [hW2] at e
        have hs : (wr.alloc (.cells #[.int .i64 x1, .int .i64 x2, .int .i64 x3, .int .i64 x4, .string x5] 57)).heap.size = wr.heap.size + 1 := by simp
        rw [hs] at e
        rw [e]
        exact h
      obtain ⟨v', w', hap, hrow, hgr⟩ := pk_append W2 w.heap.size _ _ (x3, x4, x5) (wr.heap.size + 1) (HPR.out.below hB2) (by rw [List.length_map, List.length_take]; omega) (Nat.le_trans HB.out.size hB2.size) (hq 0 _ rfl) (hq 1 _ rfl) (hq 2 _ rfl)
      rw [← hW2] at hap
      have HAP := Lib.hid hap
      have HB3 : Hid (Below w.heap.size w w') := Lib.hid ((HB.out.trans (hB2.mono HB.out.size)).grown hgr (Nat.le_trans HB.out.size hB2.size) (fun k hk => (HPR.out.lt k hk).1))
      have HROW : Hid (PkRow w' w.heap.size v' ((σ.way.take (j + 1)).map (fun x => x.2.2))) := Lib.hid (by
        rw [List.take_add_one, HX.out, Option.toList_some, List.map_append]
        exact hrow)
      clear hW2 hB2 hq hap hrow hgr
      go_upto_region 7 with fail
      go_wp2_with (at_builtin; refine wpList_append_run rfl _ _ 44 44 rfl _ _ rfl rfl HAP.out ?_)
      go_roundw
      case rel => exact ⟨j + 1, by omega, by go_num, HROW, HB3⟩
      case measure => simp [intOf]; omega
    · obtain rfl : j = n := by omega
      have hl : σ.way.take j = σ.way := List.take_of_length_le (by have := HNL.out; omega)
      rw [hl] at HPR
      obtain ⟨a, c, hv⟩ := HPR.out.form
      subst hv
      clear hl
      go_wp2_with fail
      go_ret
      exact ⟨a, c, rfl, HPR.out, HB.out⟩
end Go.Proofs.Ytbmlgnmilolamaa
