import Derived.Test.YtnfknbjdggkdpaaDoorCAlive
import Derived.Test.YtnfknbjdggkdpaaDoorWordW
import Derived.Test.YtnfknbjdggkdpaaDoorOpenS2
namespace Go.Proofs.YtnfknbjdggkdpaaDoor
open Go.RowKit
set_option maxHeartbeats 1000000 in
set_option maxRecDepth 100000 in
theorem CodeWrites_walk0 (n : Nat) (s : ByteArray) (a : Option Addr) (len cap : Nat) (ss : List ByteArray) (w : World) (hn : n < 18446744073709551616) (hs : s.size ≤ 140737488355328) (hr : StrRow w a len ss) (ht : (textsL (dl ss)).length ≤ 140737488355328) (hT : TabAny w) (hH : Handle w) :
    Calls Tryd.prog 3 #[.int .u64 n, .string s, .slice a len cap] w fun e w' => e = .returned (.bool true) ∧ Below w.heap.size w w' := by
  obtain ⟨U, hU⟩ : ∃ U, (⟨(uintL n).toArray⟩ : ByteArray) = U := ⟨_, rfl⟩
  obtain ⟨B, hB⟩ : ∃ B, (⟨(be n 8).toArray⟩ : ByteArray) = B := ⟨_, rfl⟩
  obtain ⟨T, hTx⟩ : ∃ T, (⟨(textL s.data.toList).toArray⟩ : ByteArray) = T := ⟨_, rfl⟩
  obtain ⟨L, hL⟩ : ∃ L, (⟨(textsL (dl ss)).toArray⟩ : ByteArray) = L := ⟨_, rfl⟩
  have h1 := fun W => Uint_any n W hn
  have h2 := fun W => refUint_any n W hn
  have h3 := fun W => Word_any n W hn
  have h4 := fun W => refWord_any n W hn
  have h5 := fun W => Text_any s W hs
  have h6 := fun W => refText_any s W hs
  have h7 := fun W (hr : StrRow W a len ss) => Texts_any a len cap ss W hr ht
  have h8 := fun W (hr : StrRow W a len ss) => refTexts_any a len cap ss W hr ht
  rw [hU] at h1 h2
  rw [hB] at h3 h4
  rw [hTx] at h5 h6
  rw [hL] at h7 h8
  have H1 := Lib.hid h1
  have H2 := Lib.hid h2
  have H3 := Lib.hid h3
  have H4 := Lib.hid h4
  have H5 := Lib.hid h5
  have H6 := Lib.hid h6
  have H7 := Lib.hid h7
  have H8 := Lib.hid h8
  have HR := Lib.hid hr
  have HT := Lib.hid hT
  have HH := Lib.hid hH
  clear h1 h2 h3 h4 h5 h6 h7 h8 hr hT hH hU hB hTx hL ht
  go_enter Tryd.func3, Tryd.ntmps3
  go_wp2_with fail
  refine (H1.out _).mono ?_; rintro e w1 ⟨rfl, hb⟩
  go_wp2_with fail
  refine (H2.out _).mono ?_; rintro e w2 ⟨rfl, hb2⟩
  have hb := hb.trans (hb2.mono hb.size)
  go_wp2_with fail
  refine (H3.out _).mono ?_; rintro e w3 ⟨rfl, hb3⟩
  have hb := hb.trans (hb3.mono hb.size)
  go_wp2_with fail
  refine (H4.out _).mono ?_; rintro e w4 ⟨rfl, hb4⟩
  have hb := hb.trans (hb4.mono hb.size)
  go_wp2_with fail
  refine (H5.out _).mono ?_; rintro e w5 ⟨rfl, hb5⟩
  have hb := hb.trans (hb5.mono hb.size)
  go_wp2_with fail
  refine (H6.out _).mono ?_; rintro e w6 ⟨rfl, hb6⟩
  have hb := hb.trans (hb6.mono hb.size)
  go_wp2_with fail
  refine (H7.out _ (HR.out.below hb)).mono ?_; rintro e w7 ⟨rfl, hb7⟩
  have hb := hb.trans (hb7.mono hb.size)
  go_wp2_with fail
  refine (H8.out _ (HR.out.below hb)).mono ?_; rintro e w8 ⟨rfl, hb8⟩
  have hb := hb.trans (hb8.mono hb.size)
  go_wp2_with fail
  refine (alive_any _ (HT.out.below hb) (HH.out.below hb)).mono ?_; rintro e w9 ⟨rfl, hb9⟩
  go_wp2_with fail
  go_ret
  exact ⟨rfl, hb.trans (hb9.mono hb.size)⟩
theorem textsL_bulk (ss : List ByteArray) : (textsL (dl ss)).length ≤ 10 + 10 * bulkS ss := by
  have h : ((dl ss).flatMap textL).length ≤ 10 * bulkS ss := by
    induction ss with
    | nil => simp [dl, bulkS]
    | cons s ss ih =>
      have h1 := (textL_length s.data.toList).1
      rw [ba_len] at h1
      rw [dl, List.map_cons, List.flatMap_cons, List.length_append, bulkS, List.map_cons, List.sum_cons]
      unfold dl at ih
      unfold bulkS at ih
      omega
  have h2 := (uintL_length (dl ss).length).1
  rw [textsL, List.length_append]
  omega
theorem CodeWrites_walk (n : Nat) (s : ByteArray) (a : Option Addr) (len cap : Nat) (ss : List ByteArray) (w : World) (hn : n < 18446744073709551616) (hs : s.size ≤ 140737488351232) (hr : StrRow w a len ss) (_hc : len * 16 ≤ 140737488351232) (_hss : ∀ s ∈ ss, s.size ≤ 140737488351232) (hu : bulkS ss ≤ 1048576) (hT : TabAny w) (hH : Handle w) :
    Calls Tryd.prog 3 #[.int .u64 n, .string s, .slice a len cap] w fun e w' => e = .returned (.bool true) ∧ Below w.heap.size w w' :=
  CodeWrites_walk0 n s a len cap ss w hn (by omega) hr (by have := textsL_bulk ss; omega) hT hH
end Go.Proofs.YtnfknbjdggkdpaaDoor
