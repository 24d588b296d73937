import Derived.Test.YthimmdaefmbcjaaAliveW
namespace Go.Proofs.Ythimmdaefmbcjaa
open Go.RowKit
theorem info_string : (Try.prog.info? 9).map (fun i => (i.zero, i.size, i.bytes)) = some (some (.string ByteArray.empty), 1, 16) := by kernel_rfl
/-- 'append([]string(nil), l...)': a copy. -/
theorem copy_strs (w : World) (a : Option Addr) (len cap : Nat) (ss : List ByteArray) (hr : StrRow w a len ss) (hcap : len * 16 ≤ 140737488351232) :
    ∃ a' cap' w1, (Builtin.append_ #[35, 35] 35 #[.slice none 0 0, .slice a len cap]).run Try.prog w = .ok (.slice a' len cap') w1 ∧ StrRow w1 a' len ss ∧ Below w.heap.size w w1 := by
  obtain ⟨i0, hi, hz0, hz1, hz2⟩ := info_parts info_string
  by_cases h0 : len = 0
  · subst h0
    refine ⟨none, 0, w, ?_, ?_, Below.refl _ _⟩
    · cases a with
      | none => simp [Builtin.append_, run_underlying Try.underlying35, sizeOf, typeInfo, hi, Builtin.lenOf, Builtin.firstCells]
      | some ad => simp [Builtin.append_, run_underlying Try.underlying35, sizeOf, typeInfo, hi, Builtin.lenOf, Builtin.firstCells, loadCells, loadCellsFrom]
    · exact ⟨hr.1, hr.2.1, hr.2.2.1, fun h => by omega⟩
  · obtain ⟨h1, h2, h3, h4⟩ := hr
    obtain ⟨b, off, rfl, hc⟩ := h4 (by omega)
    obtain ⟨v', w1, hrun, hown, hg, hnil⟩ := run_append_own (P := Try.prog) w w.heap.size 35 35 9 i0 (.string ByteArray.empty) 1 16 Try.underlying35 hi hz0 hz1 hz2 rfl (by decide)
      (.slice none 0 0) 0 [] (World.ownsRow_nil _ _ _ _) ⟨b, off, none⟩ len cap (ss.map Value.string) (by simpa using h1) (fun j u hu => by
        have hj : j < ss.length := by simpa using (List.getElem?_eq_some_iff.1 hu).1
        have hplain : (⟨b, off, none⟩ : Addr).add j = ⟨b, off + j, none⟩ := by unfold Addr.add; split <;> simp_all
        rw [hplain, hc j (by omega), ← hu]
        simp [List.getD_eq_getElem?_getD, List.getElem?_eq_getElem hj]) (fun u hu => by
        obtain ⟨x, _, rfl⟩ := List.mem_map.1 hu
        rfl) (by simpa using h2) (by omega) (Nat.le_refl _)
    have hbel : Below w.heap.size w w1 := (Below.refl _ _).grown hg (Nat.le_refl _) (fun k hk => by simp [Value.ownBlock] at hk)
    rcases hown.2 with ⟨rfl, hn⟩ | ⟨g, cap', cur, rfl, hbg, hh, hn, hcm, hcs, htake⟩
    · omega
    · simp only [Nat.zero_add, List.nil_append, Nat.mul_one] at *
      refine ⟨_, _, _, hrun, ⟨h1, h2, h3, fun _ => ⟨g, 0, rfl, fun i hi => ?_⟩⟩, hbel⟩
      rw [Nat.zero_add, cell_of_row w1 g i cur 9 (0, 0) hh]
      have e : (cur.toList.take len)[i]? = (ss.map Value.string)[i]? := by rw [htake]
      rw [List.getElem?_take, if_pos hi] at e
      rw [← Array.getElem?_toList, e, List.getElem?_map, List.getD_eq_getElem?_getD, List.getElem?_eq_getElem (by omega)]
      simp

set_option maxHeartbeats 400000 in
theorem SumLists_walk (a : Option Addr) (len cap : Nat) (ss : List ByteArray) (w : World) (hr : StrRow w a len ss) (hcap : len * 16 ≤ 140737488351232) (_hs : ∀ s ∈ ss, s.size ≤ 140737488351232) :
    Calls Try.prog 6 #[.slice a len cap] w fun e w' => e = .returned (.bool true) ∧ Below w.heap.size w w' := by
  obtain ⟨a', cap', w1, happ, hr1, hbel⟩ := copy_strs w a len cap ss hr hcap
  have HR1 := Lib.hid hr1
  have HR2 := Lib.hid (hr.below hbel)
  have HL := Lib.hid hr.1
  clear hr hr1
  go_enter Try.func6, Try.ntmps6
  have HA := Lib.hid happ
  clear happ
  go_wp2_with (at_builtin; refine wpList_append_run rfl _ _ 35 35 rfl _ _ rfl rfl HA.out ?_)
  refine (All_any _ _ _ _ _ HR1.out).mono ?_; rintro e w' ⟨rfl, rfl⟩
  go_wp2_with fail
  go_loopw [5] (fun i wr => ∃ k nd : Nat, k ≤ len ∧ i = .int .i64 k ∧ wr = w1.drewN nd) (fun i _ => len - (intOf i).toNat)
  case atStart => exact ⟨0, 0, Nat.zero_le _, rfl, rfl⟩
  case round =>
    obtain ⟨k, nd, hk, rfl, rfl⟩ := hrel
    by_cases hlt : k < len
    · obtain ⟨b, off, x, rfl, hc, Hx, Hs⟩ := HR1.out.item k hlt
      obtain ⟨b2, off2, x2, rfl, hc2, Hx2, Hs2⟩ := HR2.out.item k hlt
      obtain rfl : x = x2 := Option.some.inj (Hx.out.symm.trans Hx2.out)
      go_wp2_with fail
      go_quiet (fail)
      go_wp2_with fail
      go_roundw
      case rel => exact ⟨k + 1, _, by omega, by go_num, rfl⟩
      case measure => simp [intOf]; omega
    · have HR3 : Hid (StrRow (w1.drewN nd) a len ss) := Lib.hid (HR2.out.below (below_drewN (Below.refl _ _) nd))
      go_wp2_with fail
      refine (refAll_any _ _ _ _ _ HR3.out).mono ?_; rintro e w' ⟨rfl, rfl⟩
      go_wp2_with fail
      refine (alive_any _).mono ?_; rintro e w2 ⟨rfl, hb2⟩
      go_wp2_with fail
      go_ret
      exact ⟨rfl, (below_drewN hbel nd).trans (hb2.mono (by have := hbel.size; simp; omega))⟩
end Go.Proofs.Ythimmdaefmbcjaa
