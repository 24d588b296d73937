/-
  The document's Flying. No statement is proved here.
-/
import Derived.Test.YtbmlgnmilolamaaDoorRefD
namespace Go.Proofs.YtbmlgnmilolamaaDoor
open Go.RowKit
theorem PkRow.base {w : World} {B : Nat} {v : Value} {l : List Pk} (h : PkRow w B v l) : w.ownsRow 0 31 3 v l.length (rowC pkC l) := by
  refine ⟨h.1, ?_⟩
  rcases h.2 with hn | ⟨g, cap, cur, rfl, hb, hg, rest⟩
  · exact .inl hn
  · exact .inr ⟨g, cap, cur, rfl, Nat.zero_le _, hg, rest⟩
def sliceN : Value → Nat
  | .slice _ n _ => n
  | _ => 0
theorem first_head {L : List Un} (hs : Sorted L) {j : Nat} {l : List Un} (hp : l.Perm (L.drop j)) {k : Nat} {x : Un} (hk : l[k]? = some x) (hx : ∀ y ∈ l, ahead y x = false) : L[j]? = some x ∧ (l.eraseIdx k).Perm (L.drop (j + 1)) := by
  have hxm : x ∈ l := List.mem_of_getElem? hk
  have hxd := hp.mem_iff.1 hxm
  obtain ⟨y, rest, hd⟩ : ∃ y rest, L.drop j = y :: rest := by
    cases h : L.drop j with
    | nil => rw [h] at hxd; cases hxd
    | cons y r => exact ⟨y, r, rfl⟩
  have hsd : Sorted (L.drop j) := List.Pairwise.sublist (List.drop_sublist _ _) hs
  rw [hd] at hsd hxd hp
  have hxy : x = y := by
    rcases List.mem_cons.1 hxd with h | h
    · exact h
    · have h1 := List.rel_of_pairwise_cons hsd h
      have h2 := hx y (hp.mem_iff.2 (List.mem_cons_self))
      rw [h2] at h1
      cases h1
  have hj : L[j]? = some y := by
    have : (L.drop j)[0]? = some y := by rw [hd]; rfl
    rw [List.getElem?_drop] at this
    exact this
  refine ⟨by rw [hj, hxy], ?_⟩
  have hdr : L.drop (j + 1) = rest := by rw [← List.drop_drop, hd]; rfl
  rw [hdr]
  have hkl := (List.getElem?_eq_some_iff.1 hk)
  obtain ⟨hk1, hk2⟩ := hkl
  have h3 : (x :: l.eraseIdx k).Perm l := by
    rw [List.eraseIdx_eq_take_drop_succ]
    refine List.perm_middle.symm.trans ?_
    rw [← hk2, ← List.drop_eq_getElem_cons hk1, List.take_append_drop]
  have h4 := h3.trans hp
  rw [hxy] at h4
  exact h4.cons_inv
set_option maxHeartbeats 4000000 in
set_option maxRecDepth 100000 in
theorem rFlying_at (ρ : NetS) (L : List Un) (hs : Sorted L) (hP : ρ.way.Perm L) (hlen : ρ.way.length ≤ 4096) (p : Nat) (fv wv : Value) (w : World) (h : RefAt w p fv wv ρ) :
    Calls Tryd.prog 38 #[.pointer (some ⟨p, 0, none⟩)] w (FlyIs (L.map (fun x => x.2.2)) w) := by
  obtain ⟨wa, wcap, rfl, _, _, _⟩ := rway_view h.hw
  obtain ⟨q, hq⟩ : ∃ q, ρ.way.length = q := ⟨_, rfl⟩
  have HW : Hid (w.ownsRow 0 78 5 (.slice wa q wcap) ρ.way.length (rowC unC ρ.way)) := Lib.hid (by rw [← hq]; exact h.hw)
  have n4 : w.cell? ⟨p, 4, none⟩ = some (.slice wa q wcap) := by rw [← hq]; exact h.cell 4
  obtain ⟨n, hn⟩ : ∃ n, L.length = n := ⟨_, rfl⟩
  have hpl := hP.length_eq
  have HNL := Lib.hid hn
  have HS := Lib.hid hs
  have HPP := Lib.hid hP
  have hln : n ≤ 4096 := by omega
  clear h hs hP hlen hpl hn hq
  go_enter Tryd.func38, Tryd.ntmps38
  go_wp2_with fail
  go_loopw [3, 4] (fun v lv wr => ∃ (j : Nat) (l : List Un), j ≤ n ∧ Hid (l.Perm (L.drop j)) ∧ Hid (PkRow wr w.heap.size v ((L.take j).map (fun x => x.2.2))) ∧ Hid (wr.ownsRow 0 78 5 lv l.length (rowC unC l)) ∧ Hid (Below w.heap.size w wr)) (fun _ lv _ => sliceN lv)
  case atStart => exact ⟨0, ρ.way, Nat.zero_le _, Lib.hid (by rw [List.drop_zero]; exact HPP.out), Lib.hid (World.ownsRow_nil _ _ _ _), HW, Lib.hid (Below.refl _ _)⟩
  case round =>
    obtain ⟨j, l, hj, HL, HPR, HUO, HB⟩ := hrel
    obtain ⟨m, hm⟩ : ∃ m, l.length = m := ⟨_, rfl⟩
    have HMJ : Hid (m = n - j) := Lib.hid (by rw [← hm, HL.out.length_eq, List.length_drop, HNL.out])
    obtain ⟨la, lcap, rfl, hlc, hlcm, hv⟩ := rway_view HUO.out
    have HV := Lib.hid hv
    have HM := Lib.hid hm
    rw [hm]
    by_cases hlt : j < n
    · have hm0 : (0 : Int) < (m : Int) := by have := HMJ.out; omega
      obtain ⟨g, rfl, hg⟩ := hv (by have := HMJ.out; omega)
      have HG := Lib.hid hg
      have HF := Lib.hid (rfirst_any l _ wr HUO.out (by have := HMJ.out; omega))
      rw [hm] at HF
      clear hv hg hm
      go_wp2_with fail
      refine HF.out.mono ?_
      rintro e W2 ⟨v, rfl, hFA, hB2⟩
      rcases hFA with ⟨hnil, _⟩ | ⟨k, x, hk, hvv, hx⟩
      · exfalso
        have := HM.out
        rw [hnil] at this
        simp at this
        have := HMJ.out
        omega
      · subst hvv
        obtain ⟨hLj, hPe⟩ := first_head HS.out HL.out hk hx
        have HLJ := Lib.hid hLj
        have HPE := Lib.hid hPe
        have hu := (HG.out k x hk).below hB2
        have hkm : k < m := by have := (List.getElem?_eq_some_iff.1 hk).1; have := HM.out; omega
        have hkm2 : (k : Int) < (m : Int) := by omega
        have HB2 := Lib.hid (HB.out.trans (hB2.mono HB.out.size))
        have HPR2 := Lib.hid (HPR.out.below hB2)
        have hUO2 := ownsRow_keep (S := fun _ => False) HUO.out (Only.of_below hB2) (fun _ _ h => h)
        have HUO2 := Lib.hid hUO2
        clear hLj hPe hk hx hB2 hUO2
        obtain ⟨x1, x2, x3, x4, x5⟩ := x
        obtain ⟨_, _, v2, v3, v4⟩ := hu
        simp only at v2 v3 v4
        go_upto_region 5 with fail
        obtain ⟨W3, hW3⟩ : ∃ W, W2.alloc (.cells #[.int .i64 x3, .int .i64 x4, .string x5] 31) = W := ⟨_, rfl⟩
        have hB3 : Below W2.heap.size W2 W3 := by rw [← hW3]; exact (Below.refl _ _).alloc (Nat.le_refl _) _
        have hq : ∀ i v, (#[.int .i64 x3, .int .i64 x4, .string x5] : Array Value)[i]? = some v → W3.cell? ⟨W2.heap.size, i, none⟩ = some v := fun i v h => by rw [← hW3, World.cell?_alloc_mark]; exact h
        have hPR3 := HPR2.out.below hB3
        obtain ⟨v', w', hap, hrow, hgr⟩ := pk_append W3 w.heap.size _ _ (x3, x4, x5) W2.heap.size hPR3 (by rw [List.length_map, List.length_take]; have := HNL.out; omega) (Nat.le_trans HB2.out.size hB3.size) (hq 0 _ rfl) (hq 1 _ rfl) (hq 2 _ rfl)
        have hUO3 := ownsRow_keep (S := fun _ => False) HUO2.out (Only.of_below hB3) (fun _ _ h => h)
        have hUO4 := ownsRow_keep (S := fun i => u3.ownBlock = some i) hUO3 (Only.of_grown hgr (fun k hk => hk)) (fun i hi hs => by
          obtain ⟨_, _, t1⟩ := ownsRow_type hUO3 hi
          obtain ⟨_, _, t2⟩ := ownsRow_type (PkRow.base hPR3) hs
          exact heap_ne t1 t2 (by decide) rfl)
        have HWO := Lib.hid (without_any l k _ w' hUO4 (by have := HMJ.out; have := HM.out; omega))
        rw [HM.out] at HWO
        rw [← hW3] at hap
        have HAP := Lib.hid hap
        have HB4 : Hid (Below w.heap.size w w') := Lib.hid ((HB2.out.trans (hB3.mono HB2.out.size)).grown hgr (Nat.le_trans HB2.out.size hB3.size) (fun k hk => (HPR2.out.lt k hk).1))
        have HROW : Hid (PkRow w' w.heap.size v' ((L.take (j + 1)).map (fun x => x.2.2))) := Lib.hid (by
          rw [List.take_add_one, HLJ.out, Option.toList_some, List.map_append]
          exact hrow)
        have hml : (l.eraseIdx k).length = m - 1 := by rw [List.length_eraseIdx, if_pos (by have := HM.out; omega), HM.out]
        have HML := Lib.hid hml
        clear hW3 hB3 hq hPR3 hap hrow hgr hUO3 hUO4 hml
        go_wp2_with (at_builtin; refine wpList_append_run rfl _ _ 58 58 rfl _ _ rfl rfl HAP.out ?_)
        refine HWO.out.mono ?_
        rintro e W5 ⟨a, c, rfl, hU, hB5⟩
        have HU5 := Lib.hid (hU.base)
        have HB5 : Hid (Below w.heap.size w W5) := Lib.hid (HB4.out.trans (hB5.mono HB4.out.size))
        have HROW5 := Lib.hid (HROW.out.below hB5)
        clear hU hB5
        go_wp2_with fail
        go_roundw
        case rel => exact ⟨j + 1, l.eraseIdx k, by omega, HPE, HROW5, HU5, HB5⟩
        case measure =>
          have := HML.out
          simp only [sliceN]
          omega
    · obtain rfl : m = 0 := by have := HMJ.out; omega
      have hjn : j = n := by omega
      have hl : L.take j = L := List.take_of_length_le (by have := HNL.out; omega)
      rw [hl] at HPR
      obtain ⟨a, c, hvv⟩ := HPR.out.form
      subst hvv
      clear hl hjn hm hv hlt hj
      go_wp2_with fail
      go_ret
      exact ⟨a, c, rfl, HPR.out, HB.out⟩
end Go.Proofs.YtbmlgnmilolamaaDoor
