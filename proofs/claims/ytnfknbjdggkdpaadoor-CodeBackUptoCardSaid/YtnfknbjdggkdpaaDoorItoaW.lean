/-
  strconv.Itoa at a number that is not negative, WHATEVER THE LIBRARY's TABLE uint64pow10 HOLDS: it returns some short text. No statement is proved here.
-/
import Derived.Test.YtnfknbjdggkdpaaDoorFmtW
import Derived.Test.YtnfknbjdggkdpaaDoorShelf
import Derived.Lib.ItoaMem
import Derived.Lib.ItoaLen
import Derived.Shelf.Vars
namespace Go.Proofs.YtnfknbjdggkdpaaDoor
open Go.RowKit Go.Lib
def TabAny (w : World) : Prop := ∀ i, i < 20 → ∃ m, w.cell? ⟨1, i, none⟩ = some (.int .u64 m)
theorem TabAny.below {w w' : World} (h : TabAny w) (hb : Below w.heap.size w w') : TabAny w' := fun i hi => by
  obtain ⟨m, hm⟩ := h i hi
  exact ⟨m, (hb.cell (p := ⟨1, i, none⟩) (World.block_lt_of_cell? w _ hm)).trans hm⟩
set_option maxRecDepth 100000 in
theorem tabAny_of (w : World) (h : w.ShapedOpen Tryd.prog) : TabAny w := by
  intro i hi
  have h0 : ((begin Tryd.prog (fun _ _ => 0) default).world.heap[1]?).bind Obj.row? = some (Array.replicate 20 (.int .u64 0), 165) := by kernel_rfl
  have hb : Tryd.prog.buildable 165 = true := by kernel_rfl
  have hc : Tryd.prog.cellTypes Tryd.prog.depth 165 = some (List.replicate 20 22) := by kernel_rfl
  obtain ⟨cs, hh, hs, hr⟩ := h.1 1 _ _ (by decide +kernel) h0
  obtain ⟨ts, hts, _, hall⟩ := hr hb
  rw [hc] at hts
  cases hts
  have h1 : i < cs.size := by rw [hs]; simpa using hi
  obtain ⟨u, hu', hok⟩ := hall i cs[i] (by simp [h1])
  have hu : u = 22 := by
    rw [List.length_replicate, Nat.mod_eq_of_lt hi, List.getElem?_replicate, if_pos hi] at hu'
    exact (Option.some.inj hu').symm
  subst hu
  have hcell : w.cell? ⟨1, i, none⟩ = some cs[i] := by simp [World.cell?, hh, h1]
  rw [hcell]
  unfold Cell.ok at hok
  rw [Tryd.underlying22] at hok
  cases hv : cs[i] <;> rw [hv] at hok <;> simp at hok
  case int k' n => exact ⟨n, by rw [hok.1]⟩
def SomeNat (m : Nat) (w : World) (e : Ending) (w' : World) : Prop := ∃ n : Nat, n ≤ m ∧ e = .returned (.int .i64 n) ∧ w = w'
def SomeStr (m : Nat) (w : World) (e : Ending) (w' : World) : Prop := ∃ s : ByteArray, s.size ≤ m ∧ e = .returned (.string s) ∧ Below w.heap.size w w'
set_option maxHeartbeats 2000000 in
theorem numDigits_any (u : Nat) (hu : u < 18446744073709551616) (w : World) (hT : TabAny w) :
    Calls Tryd.prog 93 #[.int .u64 u] w (SomeNat 20 w) := by
  have hL : Lib.bitLen u ≤ 64 := Lib.bitLen_le u 64 (Nat.le_refl _) hu
  have h19 : Lib.l10 (Lib.bitLen u) < 20 := by unfold Lib.l10; omega
  obtain ⟨x, hx⟩ := hT _ h19
  have hl := Tryd.bits_Len64 (u : Int) w (by omega) (by omega)
  rw [show ((u : Int)).toNat = u by omega] at hl
  have hg := Tryd.internal_strconv_log10Pow2 (Lib.bitLen u) hL w
  generalize Lib.l10 (Lib.bitLen u) = q at hg h19 hx
  have HL := Lib.hid hl
  have HG := Lib.hid hg
  clear hl hg hT hu hL
  go_enter Tryd.func93, Tryd.ntmps93
  go_wp2_with fail
  refine HL.out.mono ?_; rintro e w' ⟨rfl, rfl⟩
  go_wp2_with fail
  refine HG.out.mono ?_; rintro e w' ⟨rfl, rfl⟩
  go_wp2_with fail
  refine (Tryd.internal_strconv_bool2_int _ _).mono ?_; rintro e w' ⟨rfl, rfl⟩
  go_wp2_with fail
  all_goals go_ret
  all_goals first
    | exact ⟨q, by omega, ret_int rfl, rfl⟩
    | exact ⟨q + 1, by omega, ret_int (by omega), rfl⟩
theorem Row8.start (w : World) (T : TypeId) (nd : Nat) (h : nd ≤ 20) : Row8 (w.alloc (.cells Lib.zeros24 T)) (w.alloc (.cells Lib.zeros24 T)) w.heap.size 1 nd := by
  refine ⟨⟨rfl, rfl, rfl, Nat.le_refl _, fun _ _ _ => rfl⟩, fun _ => 0, fun t ht => ⟨?_, World.frozen?_alloc_new _ _ _ _⟩⟩
  rw [World.cell?_alloc_new]
  exact Lib.zeros24_at _ (by omega)
/-- The row read as a text. -/
theorem Row8.text {w W : World} {blk off n : Nat} (h : Row8 w W blk off n) (cap : Nat) : ∃ s : ByteArray, s.size = n ∧ (convert 81 9 (.slice (some ⟨blk, off, none⟩) n cap)).run Tryd.prog W = .ok (.string s) W := by
  obtain ⟨_, G, hG⟩ := h
  have hl : ((List.range n).map G).length = n := by simp
  have := run_convert_bytes_back (P := Tryd.prog) W 81 9 5 ⟨blk, off, none⟩ cap ((List.range n).map G) Tryd.underlying81 Tryd.underlying5 Tryd.underlying9 (fun j hj => by
    rw [Addr.add_lit, (hG j (by simpa using hj)).1]
    simp)
  rw [hl] at this
  exact ⟨_, by rw [ba_size, hl], this⟩
set_option maxHeartbeats 2000000 in
set_option maxRecDepth 100000 in
theorem FormatInt_any (u : Nat) (h0 : 100 ≤ u) (h1 : u ≤ 9223372036854775807) (w : World) (hT : TabAny w) :
    Calls Tryd.prog 91 #[.int .i64 u, .int .i64 10] w (SomeStr 24 w) := by
  have hu64 : u < 18446744073709551616 := by omega
  have hw : IntKind.u64.wrap (u : Int) = (u : Int) := by rw [IntKind.wrap_u64]; omega
  have HT := Lib.hid (hT.below ((Below.refl w.heap.size w).alloc (Nat.le_refl _) (.cells Lib.zeros24 141)))
  have HU := Lib.hid hu64
  clear hu64 hT
  go_enter Tryd.func91, Tryd.ntmps91
  go_wp2_with fail
  refine (numDigits_any u HU.out _ HT.out).mono ?_; rintro e w' ⟨nd, hnd, rfl, rfl⟩
  have hsl : ∀ W, (Instr.sliceAt 141 (.pointer (some ⟨w.heap.size, 0, none⟩)) (some (.int .i64 1)) (some (.int .i64 (1 + (nd : Int)))) none).run Tryd.prog W = .ok (.slice (some ⟨w.heap.size, 1, none⟩) nd 23) W := fun W => by
    have hal : Tryd.prog.arrayLen 141 = 24 := by kernel_rfl
    rw [run_sliceAt_array_lh W 141 ⟨w.heap.size, 0, none⟩ (by simp [Program.arrayLen, Program.elem, Tryd.underlying141]) .i64 .i64 1 (1 + (nd : Int)) (by omega) (by omega) (by rw [hal]; omega)]
    go_simp
    omega
  go_wp2_with fail
  refine (formatBase10_any w.heap.size 1 23 nd u _ (by omega) HU.out (Row8.start w 141 nd hnd)).mono ?_; rintro e W' ⟨rfl, hrow⟩
  obtain ⟨s, hs, hcv⟩ := hrow.text 23
  have hb : Below w.heap.size w W' := ((Below.refl w.heap.size w).alloc (Nat.le_refl _) _).grown hrow.1 (by simp) (fun k hk => by
    have := Option.some.inj hk
    omega)
  have HS := Lib.hid hs
  clear hrow hs
  go_wp2_with fail
  go_ret
  exact ⟨s, by rw [HS.out]; omega, rfl, hb⟩
theorem FormatInt_small (u : Nat) (h0 : u < 100) (w : World) :
    Calls Tryd.prog 91 #[.int .i64 u, .int .i64 10] w (SomeStr 24 w) := by
  refine (Tryd.internal_strconv_FormatInt_10_small u h0 w).mono ?_
  rintro e w' ⟨rfl, rfl⟩
  refine ⟨_, ?_, rfl, Below.refl _ _⟩
  rw [ba_size, Lib.decDigits_length]
  have := Lib.nDigits_le20 u (by omega)
  omega
/-- strconv.Itoa of a number that is not negative: some text of at most 24 bytes. -/
theorem Itoa_any (u : Nat) (h1 : u ≤ 9223372036854775807) (w : World) (hT : TabAny w) :
    Calls Tryd.prog 51 #[.int .i64 u] w (SomeStr 24 w) := by
  have hf : Calls Tryd.prog 91 #[.int .i64 u, .int .i64 10] w (SomeStr 24 w) := by
    by_cases h : u < 100
    · exact FormatInt_small u h w
    · exact FormatInt_any u (by omega) h1 w hT
  have HF := Lib.hid hf
  clear hf hT
  go_enter Tryd.func51, Tryd.ntmps51
  go_wp2_with fail
  refine Calls.mono (R := SomeStr 24 w) ?_ ?_
  · go_enter Tryd.func76, Tryd.ntmps76
    go_wp2_with fail
    refine HF.out.mono ?_; rintro e w' ⟨s, hs, rfl, hb⟩
    go_wp2_with fail
    go_ret
    exact ⟨s, hs, rfl, hb⟩
  · rintro e w' ⟨s, hs, rfl, hb⟩
    go_wp2_with fail
    go_ret
    exact ⟨s, hs, rfl, hb⟩
end Go.Proofs.YtnfknbjdggkdpaaDoor
