/-
  strconv.Itoa, strconv.FormatUint at base 10, the reference's Number: the decimal digits. No statement is proved here.
-/
import Derived.Test.YtnfknbjdggkdpaaDoorKit
import Derived.Test.YtnfknbjdggkdpaaDoorShelf
import Derived.Lib.AppendIntMem
import Derived.Lib.ItoaMem
namespace Go.Proofs.YtnfknbjdggkdpaaDoor
open Go.RowKit
/-- The table of the powers of ten. -/
def TabH (w : World) : Prop := Lib.TabIs Tryd.prog w "internal/strconv.uint64pow10" .u64 Lib.pow10Tab
theorem pow_global : Tryd.prog.globalNamed "internal/strconv.uint64pow10" = some 1 := by kernel_rfl
theorem TabH.below {w w' : World} (h : TabH w) (hb : Below w.heap.size w w') : TabH w' := by
  have h0 : w.var? Tryd.prog "internal/strconv.uint64pow10" = some (Lib.pow10Tab.map fun z => Value.int .u64 z).toArray := h
  show w'.var? Tryd.prog "internal/strconv.uint64pow10" = some (Lib.pow10Tab.map fun z => Value.int .u64 z).toArray
  unfold World.var? at h0 ⊢
  rw [pow_global] at h0 ⊢
  simp only [Option.bind_some] at h0 ⊢
  cases hx : w.heap[1]? with
  | none => rw [hx] at h0; cases h0
  | some o =>
    rw [hx] at h0
    rw [hb.block _ (Array.getElem?_eq_some_iff.1 hx).1, hx]
    exact h0
def DecIs (n : Nat) (w : World) (e : Ending) (w' : World) : Prop := e = .returned (.string ⟨(Lib.decDigits n).toArray⟩) ∧ Below w.heap.size w w'
theorem Itoa_dec (n : Nat) (h : n ≤ 9223372036854775807) (w : World) (hT : TabH w) : Calls Tryd.prog 51 #[.int .i64 n] w (DecIs n w) := by
  refine (Tryd.strconv_Itoa n (by omega) (by omega) w hT).mono ?_
  rintro e w' ⟨rfl, k, os, rfl⟩
  rw [Lib.itoa_nonneg]
  exact ⟨rfl, Lib.below_grow w.heap.size w (Nat.le_refl _) k os⟩
set_option maxHeartbeats 1000000 in
set_option maxRecDepth 100000 in
theorem iFormatUint_any (u : Nat) (h : u < 18446744073709551616) (w : World) (hT : TabH w) : Calls Tryd.prog 77 #[.int .u64 u, .int .i64 10] w (DecIs u w) := by
  by_cases hs : u < 100
  · go_enter Tryd.func77, Tryd.ntmps77
    go_wp2_with fail
    refine (Tryd.internal_strconv_small u hs _).mono ?_; rintro e w' ⟨rfl, rfl⟩
    go_wp2_with fail
    go_ret
    exact ⟨rfl, Below.refl _ _⟩
  · have hu1 : 1 ≤ u := by omega
    have hnd20 : Lib.nDigits u ≤ 20 := by have := Lib.numDigits_eq u hu1 h; split at this <;> omega
    have hal : Tryd.prog.arrayLen 141 = 24 := by kernel_rfl
    have hsl : ∀ W, (Instr.sliceAt 141 (.pointer (some ⟨w.heap.size, 0, none⟩)) none (some (.int .i64 (Lib.nDigits u : Int))) none).run Tryd.prog W = .ok (.slice (some ⟨w.heap.size, 0, none⟩) (Lib.nDigits u) 24) W := fun W => by
      rw [run_sliceAt_array_h W 141 ⟨w.heap.size, 0, none⟩ (by simp [Program.arrayLen, Program.elem, Tryd.underlying141]) .i64 (Lib.nDigits u : Int) (by omega) (by rw [hal]; omega)]
      go_simp
    have hH0 := Lib.holds_zero0 w 141 (Lib.nDigits u) (by omega)
    have hfmt := Tryd.internal_strconv_formatBase10 w.heap.size 0 24 u (Array.replicate (Lib.nDigits u) 0) (w.alloc (.cells Lib.zeros24 141)) hH0 (by rw [Array.size_replicate]; exact Lib.lt_pow_nDigits u) h (by rw [Array.size_replicate]; omega)
    rw [Array.size_replicate] at hfmt
    have HH0 := Lib.hid hH0
    have HF := Lib.hid hfmt
    have HN := Lib.hid (Tryd.internal_strconv_numDigits u hu1 h (w.alloc (.cells Lib.zeros24 141)) (Lib.tabIs_alloc hT _))
    have iu : (100 : Int) ≤ (u : Int) := by omega
    clear hH0 hal hfmt hT
    go_enter Tryd.func77, Tryd.ntmps77
    go_wp2_with fail
    refine HN.out.mono ?_; rintro e w' ⟨rfl, rfl⟩
    go_wp2_with fail
    refine HF.out.mono ?_
    rintro e w' ⟨rfl, k, v', dk, rfl, hF⟩
    have hcv : (convert 81 9 (.slice (some ⟨w.heap.size, 0, none⟩) (Lib.nDigits u) 24)).run Tryd.prog ((Sort.putRow (fun (b : UInt8) => Value.int .u8 (b.toNat : Int)) (w.alloc (.cells Lib.zeros24 141)) w.heap.size 0 dk).drewN k) = .ok (.string ⟨(Lib.decDigits u).toArray⟩) ((Sort.putRow (fun (b : UInt8) => Value.int .u8 (b.toNat : Int)) (w.alloc (.cells Lib.zeros24 141)) w.heap.size 0 dk).drewN k) := by
      have h := run_convert_bytes_back (P := Tryd.prog) ((Sort.putRow (fun (b : UInt8) => Value.int .u8 (b.toNat : Int)) (w.alloc (.cells Lib.zeros24 141)) w.heap.size 0 dk).drewN k) 81 9 5 ⟨w.heap.size, 0, none⟩ 24 (Lib.decDigits u) Tryd.underlying81 Tryd.underlying5 Tryd.underlying9 (fun j hj => by
        rw [Lib.row_is_numeral hF j hj, Lib.add_plain, World.cell?_drewN]
        exact Sort.cell?_putRow (fun (b : UInt8) => Value.int .u8 (b.toNat : Int)) _ w.heap.size 0 _ dk HH0.out (by rw [hF.size, Array.size_replicate]) j (by rw [hF.size]; rw [Lib.decDigits_length] at hj; exact hj))
      rw [Lib.decDigits_length] at h
      exact h
    obtain ⟨os, eo⟩ := Lib.fin_at w (.cells Lib.zeros24 141) dk k 0
    have hB : Hid (Below w.heap.size w ((Sort.putRow (fun (b : UInt8) => Value.int .u8 (b.toNat : Int)) (w.alloc (.cells Lib.zeros24 141)) w.heap.size 0 dk).drewN k)) := Lib.hid (by rw [eo]; exact Lib.below_grow w.heap.size w (Nat.le_refl _) k os)
    clear eo
    go_wp2_with fail
    go_ret
    exact ⟨rfl, hB.out⟩
theorem FormatUint_any (u : Nat) (h : u < 18446744073709551616) (w : World) (hT : TabH w) : Calls Tryd.prog 53 #[.int .u64 u, .int .i64 10] w (DecIs u w) := by
  have H := Lib.hid (iFormatUint_any u h w hT)
  clear hT
  go_enter Tryd.func53, Tryd.ntmps53
  go_wp2_with fail
  refine H.out.mono ?_; rintro e w' ⟨rfl, hb⟩
  have HB := Lib.hid hb
  clear hb
  go_wp2_with fail
  go_ret
  exact ⟨rfl, HB.out⟩
theorem dec_step (n : Nat) (h : ¬ n < 10) : Lib.decDigits n = Lib.decDigits (n / 10) ++ [UInt8.ofNat (48 + n % 10)] := by rw [Lib.decDigits, dif_neg h]
theorem nDigits_20 (u : Nat) (h : u < 18446744073709551616) : Lib.nDigits u ≤ 20 := by
  by_cases h0 : u = 0
  · subst h0; rw [Lib.nDigits_small (by decide)]; decide
  · have := Lib.numDigits_eq u (by omega) h
    split at this <;> omega
theorem dec_extract (d : Nat) (h : d < 10) : ((ByteArray.mk #[48, 49, 50, 51, 52, 53, 54, 55, 56, 57]).extract d (d + 1)) = ⟨#[UInt8.ofNat (48 + d)]⟩ := by
  have : ∀ d : Fin 10, ((ByteArray.mk #[48, 49, 50, 51, 52, 53, 54, 55, 56, 57]).extract d.1 (d.1 + 1)) = ⟨#[UInt8.ofNat (48 + d.1)]⟩ := by decide +kernel
  exact this ⟨d, h⟩
theorem dec_app (a : UInt8) (S : ByteArray) : ((⟨#[a]⟩ : ByteArray) ++ S).data.toList = a :: S.data.toList := by simp [ByteArray.data_append]
theorem dec_one_size (a : UInt8) : (⟨#[a]⟩ : ByteArray).size = 1 := rfl
set_option maxHeartbeats 1000000 in
set_option maxRecDepth 100000 in
theorem Number_any (n : Nat) (h : n < 18446744073709551616) (w : World) : Calls Tryd.prog 55 #[.int .u64 n] w fun e w' => e = .returned (.string ⟨(Lib.decDigits n).toArray⟩) ∧ w = w' := by
  have h20 := nDigits_20 n h
  have HLen := Lib.hid (Lib.decDigits_length n)
  have HN := Lib.hid h
  go_enter Tryd.func55, Tryd.ntmps55
  go_wp2_with fail
  go_loop [0, 3] (fun x s => ∃ (m : Nat) (S : ByteArray), x = .int .u64 m ∧ s = .string S ∧ m < 18446744073709551616 ∧ S.size ≤ 20 ∧ Hid (Lib.decDigits m ++ S.data.toList = Lib.decDigits n)) (fun x _ => (intOf x).toNat)
  case atStart => exact ⟨n, ⟨#[]⟩, rfl, rfl, h, by decide, Lib.hid (by simp)⟩
  case round =>
    obtain ⟨m, S, rfl, rfl, hm, hS, HD⟩ := hrel
    have hl := congrArg List.length HD.out
    rw [List.length_append, ba_len, Lib.decDigits_length, HLen.out] at hl
    have hnd := Lib.nDigits_pos m
    by_cases hbig : 9 < m
    · obtain ⟨d, hd⟩ : ∃ d, m % 10 = d := ⟨_, rfl⟩
      have hd10 : d < 10 := by omega
      have hx := dec_extract d hd10
      obtain ⟨c, hc⟩ : ∃ c, UInt8.ofNat (48 + d) = c := ⟨_, rfl⟩
      rw [hc] at hx
      have hdi : (m : Int) % 10 = (d : Int) := by omega
      have HNX : Hid (Lib.decDigits (m / 10) ++ ((⟨#[c]⟩ : ByteArray) ++ S).data.toList = Lib.decDigits n) := Lib.hid (by
        rw [← HD.out, dec_step m (by omega), hd, dec_app, hc]; simp)
      have hsz : S.size + 1 ≤ 20 := by omega
      have hs1 := dec_one_size c
      clear hl hnd hd hc
      go_wp2_with fail
      go_round
      case rel => exact ⟨m / 10, _, by go_num, rfl, by omega, by rw [ByteArray.size_append, hs1]; omega, HNX⟩
      case measure => simp [intOf]; omega
    · have hx := dec_extract m (by omega)
      obtain ⟨c, hc⟩ : ∃ c, UInt8.ofNat (48 + m) = c := ⟨_, rfl⟩
      rw [hc] at hx
      have HR : Hid ((⟨#[c]⟩ : ByteArray) ++ S = ⟨(Lib.decDigits n).toArray⟩) := Lib.hid (by
        apply ba_inj
        rw [dec_app, ← HD.out, Lib.decDigits_one (by omega), hc]
        simp)
      have hs1 := dec_one_size c
      clear hl hnd hc
      go_wp2_with fail
      go_ret
      exact ⟨ret_val (by rw [← HR.out]; rfl), rfl⟩
end Go.Proofs.YtnfknbjdggkdpaaDoor
