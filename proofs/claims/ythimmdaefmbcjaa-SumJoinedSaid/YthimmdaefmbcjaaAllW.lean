import Derived.Test.YthimmdaefmbcjaaSumWalks
import Derived.Test.YthimmdaefmbcjaaTextW
import Derived.Test.YthimmdaefmbcjaaReadW
import Derived.Test.YthimmdaefmbcjaaHexW
namespace Go.Proofs.Ythimmdaefmbcjaa
open Go.RowKit
noncomputable def allN (n : Nat) (ss : List ByteArray) : Nat := ss.foldl (fun n s => more n s.data.toList) n
theorem allN_lt (n : Nat) (ss : List ByteArray) (h : n < 18446744073709551616) : allN n ss < 18446744073709551616 := by
  induction ss generalizing n with
  | nil => exact h
  | cons s ss ih => exact ih _ (more_lt _ _ h)
theorem allN_snoc (n : Nat) (ss : List ByteArray) (s : ByteArray) : allN n (ss ++ [s]) = more (allN n ss) s.data.toList := by simp [allN]
/-- A slice of texts that is read. -/
def StrRow (w : World) (a : Option Addr) (len : Nat) (ss : List ByteArray) : Prop :=
  ss.length = len ∧ len ≤ maxLen ∧ (∀ s ∈ ss, s.size ≤ maxLen) ∧ (0 < len → ∃ b off, a = some ⟨b, off, none⟩ ∧ ∀ i, i < len → w.cell? ⟨b, off + i, none⟩ = some (.string (ss.getD i ByteArray.empty)))
theorem StrRow.below {w w' : World} {a : Option Addr} {len : Nat} {ss : List ByteArray} (h : StrRow w a len ss) (hb : Below w.heap.size w w') : StrRow w' a len ss := by
  obtain ⟨h1, h2, h3, h4⟩ := h
  refine ⟨h1, h2, h3, fun hl => ?_⟩
  obtain ⟨b, off, e, hc⟩ := h4 hl
  exact ⟨b, off, e, fun i hi => (hb.cell (p := ⟨b, off + i, none⟩) (World.block_lt_of_cell? w _ (hc i hi))).trans (hc i hi)⟩

theorem StrRow.item {w : World} {a : Option Addr} {len : Nat} {ss : List ByteArray} (h : StrRow w a len ss) (k : Nat) (hk : k < len) :
    ∃ b off x, a = some ⟨b, off, none⟩ ∧ w.cell? ⟨b, off + k, none⟩ = some (.string x) ∧ Hid (ss[k]? = some x) ∧ Hid (x.size ≤ maxLen) := by
  obtain ⟨h1, _, h3, h4⟩ := h
  obtain ⟨b, off, e, hc⟩ := h4 (by omega)
  have hx := List.getElem?_eq_getElem (l := ss) (i := k) (by omega)
  refine ⟨b, off, ss[k], e, ?_, hx, h3 _ (List.mem_of_getElem? hx)⟩
  rw [hc k hk, List.getD_eq_getElem?_getD, hx, Option.getD_some]
theorem Of_any (s : ByteArray) (w : World) (hs : s.size ≤ maxLen) :
    Calls Try.prog 8 #[.string s] w fun e w' => e = .returned (.int .u64 (more begin_ s.data.toList)) ∧ w = w' := by
  have h := More_any begin_ s w begin_lt hs
  rw [← begin_int] at h
  have H := Lib.hid h
  clear h
  go_enter Try.func8, Try.ntmps8
  go_wp2_with (go_at_call 10; refine (H.out).mono ?_; rintro e w' ⟨rfl, rfl⟩)
  go_ret
  exact ⟨rfl, rfl⟩
theorem refOf_any (s : ByteArray) (w : World) (hs : s.size ≤ maxLen) :
    Calls Try.prog 9 #[.string s] w fun e w' => e = .returned (.int .u64 (more begin_ s.data.toList)) ∧ w = w' := by
  have h := refMore_any begin_ s w begin_lt hs
  rw [← begin_int] at h
  have H := Lib.hid h
  clear h
  go_enter Try.func9, Try.ntmps9
  go_wp2_with (go_at_call 11; refine (H.out).mono ?_; rintro e w' ⟨rfl, rfl⟩)
  go_ret
  exact ⟨rfl, rfl⟩
theorem refText_any (n : Nat) (w : World) (hn : n < 18446744073709551616) :
    Calls Try.prog 16 #[.int .u64 n] w fun e w' => e = .returned (.string ⟨(hexl n 16).toArray⟩) ∧ w = w' := by
  have H := Lib.hid hn
  clear hn
  go_enter Try.func16, Try.ntmps16
  go_wp2_with (go_at_call 20; refine (Hex_16 _ _ H.out).mono ?_; rintro e w' ⟨rfl, rfl⟩)
  go_ret
  exact ⟨rfl, rfl⟩

set_option maxHeartbeats 400000 in
theorem All_any (a : Option Addr) (len cap : Nat) (ss : List ByteArray) (w : World) (hr : StrRow w a len ss) :
    Calls Try.prog 17 #[.slice a len cap] w fun e w' => e = .returned (.int .u64 (allN begin_ ss)) ∧ w = w' := by
  have h2 := hr.2.1
  unfold maxLen at h2
  have H1 := Lib.hid hr.1
  have HR := Lib.hid hr
  clear hr
  go_enter Try.func17, Try.ntmps17
  go_wp2
  go_loop [3, 8] (fun t i => ∃ k m : Nat, k ≤ len ∧ i = .int .i64 k ∧ t = .int .u64 m ∧ Hid (m = allN begin_ (ss.take k))) (fun _ i => len - (intOf i).toNat)
  case atStart => exact ⟨0, begin_, Nat.zero_le _, rfl, by rw [begin_int], Lib.hid rfl⟩
  case round =>
    obtain ⟨k, m, hk, rfl, rfl, HM⟩ := hrel
    by_cases hlt : k < len
    · obtain ⟨b, off, x, rfl, hc, Hx, Hs⟩ := HR.out.item k hlt
      have HL : Hid (m < 18446744073709551616) := Lib.hid (by rw [HM.out]; exact allN_lt _ _ begin_lt)
      go_wp2_with (go_at_call 10; refine (More_any _ _ _ HL.out Hs.out).mono ?_; rintro e w' ⟨rfl, rfl⟩)
      go_round
      case rel =>
        refine ⟨k + 1, _, by omega, by go_num, rfl, Lib.hid ?_⟩
        rw [List.take_add_one, Hx.out, HM.out]
        exact (allN_snoc _ _ _).symm
      case measure => simp [intOf]; omega
    · go_wp2
      go_ret
      exact ⟨ret_int (by rw [HM.out, List.take_of_length_le (by rw [H1.out]; omega)]), rfl⟩
set_option maxHeartbeats 400000 in
theorem refAll_any (a : Option Addr) (len cap : Nat) (ss : List ByteArray) (w : World) (hr : StrRow w a len ss) :
    Calls Try.prog 18 #[.slice a len cap] w fun e w' => e = .returned (.int .u64 (allN begin_ ss)) ∧ w = w' := by
  have h2 := hr.2.1
  unfold maxLen at h2
  have H1 := Lib.hid hr.1
  have HR := Lib.hid hr
  clear hr
  go_enter Try.func18, Try.ntmps18
  go_wp2
  go_loop [3, 4] (fun t i => ∃ k m : Nat, k ≤ len ∧ i = .int .i64 k ∧ t = .int .u64 m ∧ Hid (m = allN begin_ (ss.take k))) (fun _ i => len - (intOf i).toNat)
  case atStart => exact ⟨0, begin_, Nat.zero_le _, rfl, by rw [begin_int], Lib.hid rfl⟩
  case round =>
    obtain ⟨k, m, hk, rfl, rfl, HM⟩ := hrel
    by_cases hlt : k < len
    · obtain ⟨b, off, x, rfl, hc, Hx, Hs⟩ := HR.out.item k hlt
      have HL : Hid (m < 18446744073709551616) := Lib.hid (by rw [HM.out]; exact allN_lt _ _ begin_lt)
      go_wp2_with (go_at_call 11; refine (refMore_any _ _ _ HL.out Hs.out).mono ?_; rintro e w' ⟨rfl, rfl⟩)
      go_round
      case rel =>
        refine ⟨k + 1, _, by omega, by go_num, rfl, Lib.hid ?_⟩
        rw [List.take_add_one, Hx.out, HM.out]
        exact (allN_snoc _ _ _).symm
      case measure => simp [intOf]; omega
    · go_wp2
      go_ret
      exact ⟨ret_int (by rw [HM.out, List.take_of_length_le (by rw [H1.out]; omega)]), rfl⟩
end Go.Proofs.Ythimmdaefmbcjaa
