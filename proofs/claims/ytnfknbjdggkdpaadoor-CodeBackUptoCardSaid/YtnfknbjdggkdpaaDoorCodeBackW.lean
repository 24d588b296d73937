/-
  'yanklinelaw02.CodeBack': the walk. No statement is proved here.
-/
import Derived.Test.YtnfknbjdggkdpaaDoorStepW
import Derived.Test.YtnfknbjdggkdpaaDoorCodeWritesW
import Derived.Test.YtnfknbjdggkdpaaDoorRWordW
namespace Go.Proofs.YtnfknbjdggkdpaaDoor
open Go.RowKit
theorem ba_eq (l : List UInt8) : (⟨l.toArray⟩ : ByteArray).data.toList = l := by simp
/-- The bytes that are written, one part behind the other. -/
structure BackB (n : Nat) (s : ByteArray) (ss : List ByteArray) (rest S : ByteArray) (k1 k2 k3 k4 : Nat) : Prop where
  d0 : numR 18446744073709551615 (S.data.toList.drop 0) = (n, 0, k1)
  d1 : wrdR (S.data.toList.drop k1) = (n, 0, 8)
  e2 : k1 + 8 = k2
  d2 : ∀ M, s.data.toList.length ≤ M → M < 18446744073709551616 → txtR M (S.data.toList.drop k2) = (s.data.toList, 0, k3 - k2)
  l2 : k2 ≤ k3
  d3 : ∀ most M, ss.length ≤ most → most < 18446744073709551616 → (∀ t ∈ ss, t.size ≤ M) → M < 18446744073709551616 → txtsR most M (S.data.toList.drop k3) = (dl ss, 0, k4 - k3)
  l3 : k3 ≤ k4
  l4 : k4 ≤ S.size
  dr : S.extract k4 S.size = rest
theorem backB (n : Nat) (s : ByteArray) (ss : List ByteArray) (rest S : ByteArray) (hn : n < 18446744073709551616)
    (hS : S.data.toList = uintL n ++ (be n 8 ++ (textL s.data.toList ++ (textsL (dl ss) ++ rest.data.toList)))) :
    BackB n s ss rest S (uintL n).length ((uintL n).length + 8) ((uintL n).length + 8 + (textL s.data.toList).length) ((uintL n).length + 8 + (textL s.data.toList).length + (textsL (dl ss)).length) := by
  have b8 := be_length n 8
  have x1 : S.data.toList.drop (uintL n).length = be n 8 ++ (textL s.data.toList ++ (textsL (dl ss) ++ rest.data.toList)) := by rw [hS, List.drop_left]
  have x2 : S.data.toList.drop ((uintL n).length + 8) = textL s.data.toList ++ (textsL (dl ss) ++ rest.data.toList) := by
    rw [← List.drop_drop, x1, List.drop_left' b8]
  have x3 : S.data.toList.drop ((uintL n).length + 8 + (textL s.data.toList).length) = textsL (dl ss) ++ rest.data.toList := by
    rw [← List.drop_drop, x2, List.drop_left]
  have x4 : S.data.toList.drop ((uintL n).length + 8 + (textL s.data.toList).length + (textsL (dl ss)).length) = rest.data.toList := by
    rw [← List.drop_drop, x3, List.drop_left]
  have hlen : S.size = (uintL n).length + (8 + ((textL s.data.toList).length + ((textsL (dl ss)).length + rest.data.toList.length))) := by
    rw [← ba_len, hS]; simp only [List.length_append, b8]
  refine ⟨?_, ?_, rfl, fun M h hM => ?_, by omega, fun most M h1 h2 h3 h4 => ?_, by omega, by omega, ?_⟩
  · rw [List.drop_zero, hS]; exact numR_read _ _ _ (by omega) hn
  · rw [x1]; exact wrdR_read n _ hn
  · rw [x2, txtR_read M _ _ h hM]
    congr 2
    omega
  · rw [x3, txtsR_read most M _ _ (by rw [dl, List.length_map]; exact h1) h2 (fun t ht => by
      rw [dl] at ht
      obtain ⟨b, hb, rfl⟩ := List.mem_map.1 ht
      rw [ba_len]
      exact h3 b hb) h4]
    congr 2
    omega
  · apply ba_inj
    rw [Lib.extract_data]
    have : S.data.toList.drop ((uintL n).length + 8 + (textL s.data.toList).length + (textsL (dl ss)).length) = rest.data.toList := x4
    rw [this, List.take_of_length_le (by rw [hlen]; omega)]
theorem method0 {x : Value} {k K g at_ : Nat} {s : ByteArray} {w : World} {F : FuncId} {args : Array Value} (hK : at_ + k = K) (h : Calls Tryd.prog F args w (MethodIs x 0 k g s at_ w)) :
    Calls Tryd.prog F args w fun e w' => e = .returned (.tuple #[x, .nilIface]) ∧ RAt w' g s K ∧ w.grownBy w' (some g) := by
  subst hK
  refine h.mono ?_
  rintro e w' ⟨E, rfl, hE, hr, hg⟩
  rcases hE with ⟨_, rfl⟩ | ⟨h0, _⟩
  · exact ⟨rfl, hr, hg⟩
  · exact absurd rfl h0
def Texts0 (ss : List ByteArray) (K g : Nat) (s : ByteArray) (w : World) (e : Ending) (w' : World) : Prop :=
  ∃ a cap, e = .returned (.tuple #[.slice a ss.length cap, .nilIface]) ∧ (StrRow w' a ss.length ss ∧ ∀ b, a = some b → b.block ≠ g) ∧ RAt w' g s K ∧ w.grownBy w' (some g)
theorem texts0 {ss : List ByteArray} {k K g at_ : Nat} {s : ByteArray} {w : World} {F : FuncId} {args : Array Value} (hK : at_ + k = K) (hlt : g < w.heap.size) (h : Calls Tryd.prog F args w (TextsFIs ss 0 k g s at_ w)) : Calls Tryd.prog F args w (Texts0 ss K g s w) := by
  subst hK
  refine h.mono ?_
  rintro e w' ⟨E, a, n, cap, rfl, hE, h0, _, hr, hg⟩
  obtain ⟨rfl, hrow, hfr⟩ := h0 rfl
  rcases hE with ⟨_, rfl⟩ | ⟨h0, _⟩
  · exact ⟨a, cap, rfl, ⟨hrow, fun b hb => by have := hfr b hb; omega⟩, hr, hg⟩
  · exact absurd rfl h0
set_option maxHeartbeats 4000000 in
set_option maxRecDepth 100000 in
theorem CodeBack_walk0 (n : Nat) (s : ByteArray) (a : Option Addr) (len cap : Nat) (ss : List ByteArray) (rest : ByteArray) (w : World) (hn : n < 18446744073709551616) (hs : s.size ≤ 1048576) (hr : StrRow w a len ss) (hu : (textsL (dl ss)).length ≤ 20000000) (hsz : ∀ t ∈ ss, t.size ≤ 1048576) (hrest : rest.size ≤ 1048576) (hlen : len ≤ 65536) (hT : TabAny w) (hH : Handle w) :
    Calls Tryd.prog 9 #[.int .u64 n, .string s, .slice a len cap, .string rest] w fun e w' => e = .returned (.bool true) ∧ Below w.heap.size w w' := by
  obtain ⟨U, hU⟩ : ∃ U, (⟨(uintL n).toArray⟩ : ByteArray) = U := ⟨_, rfl⟩
  obtain ⟨B, hB⟩ : ∃ B, (⟨(be n 8).toArray⟩ : ByteArray) = B := ⟨_, rfl⟩
  obtain ⟨T, hTx⟩ : ∃ T, (⟨(textL s.data.toList).toArray⟩ : ByteArray) = T := ⟨_, rfl⟩
  obtain ⟨L, hL⟩ : ∃ L, (⟨(textsL (dl ss)).toArray⟩ : ByteArray) = L := ⟨_, rfl⟩
  have h1 := fun W => Uint_any n W hn
  have h3 := fun W => Word_any n W hn
  have h5 := fun W => Text_any s W (by omega)
  have h7 := fun W (hr : StrRow W a len ss) => Texts_any a len cap ss W hr (by omega)
  rw [hU] at h1
  rw [hB] at h3
  rw [hTx] at h5
  rw [hL] at h7
  have H1 := Lib.hid h1
  have H3 := Lib.hid h3
  have H5 := Lib.hid h5
  have H7 := Lib.hid h7
  have HR := Lib.hid hr
  have HT := Lib.hid hT
  have HH := Lib.hid hH
  have HU := Lib.hid hU
  have HB := Lib.hid hB
  have HTx := Lib.hid hTx
  have HL := Lib.hid hL
  have HSZ := Lib.hid hsz
  have hUs : U.size ≤ 10 := by rw [← hU, ba_size]; exact (uintL_length n).1
  have hBs : B.size ≤ 8 := by rw [← hB, ba_size, be_length]; omega
  have hTs : T.size ≤ 1048586 := by have := (textL_length s.data.toList).1; rw [ba_len] at this; rw [← hTx, ba_size]; omega
  have hLs : L.size ≤ 20000000 := by rw [← hL, ba_size]; exact hu
  have hd65 : decide ((65536 : Int) < (len : Int)) = false := decide_eq_false (by omega)
  clear h1 h3 h5 h7 hr hT hH hU hB hTx hL hsz
  go_enter Tryd.func9, Tryd.ntmps9
  go_wp2_with fail
  refine (H1.out _).mono ?_; rintro e w1 ⟨rfl, hb⟩
  go_wp2_with fail
  refine (H3.out _).mono ?_; rintro e w3 ⟨rfl, hb3⟩
  have hb := hb.trans (hb3.mono hb.size)
  go_wp2_with fail
  refine (H5.out _).mono ?_; rintro e w5 ⟨rfl, hb5⟩
  have hb := hb.trans (hb5.mono hb.size)
  go_wp2_with fail
  refine (H7.out _ (HR.out.below hb)).mono ?_; rintro e w7 ⟨rfl, hb7⟩
  have hb := hb.trans (hb7.mono hb.size)
  go_wp2_with fail
  refine (New_any _ _).mono ?_; rintro e w8 ⟨rfl, hr8, hb8⟩
  have hlt8 := hb.size
  obtain ⟨g, hg⟩ : ∃ g, w7.heap.size = g := ⟨_, rfl⟩
  have hb9 := hb.trans (hb8.mono hb.size)
  obtain ⟨S, hS⟩ : ∃ S, (((U ++ B) ++ T) ++ L) ++ rest = S := ⟨_, rfl⟩
  rw [hS] at hr8
  rw [hg] at hr8 hlt8
  simp only [hg]
  have hSs : S.size ≤ 140737488355328 := by rw [← hS]; simp only [ByteArray.size_append]; omega
  have HBB := Lib.hid (backB n s ss rest S hn (by
    rw [← hS]
    simp only [ByteArray.data_append, Array.toList_append, ← HU.out, ← HB.out, ← HTx.out, ← HL.out, List.append_assoc]))
  obtain ⟨k1, hk1⟩ : ∃ k, (uintL n).length = k := ⟨_, rfl⟩
  obtain ⟨k2, hk2⟩ : ∃ k, k1 + 8 = k := ⟨_, rfl⟩
  obtain ⟨k3, hk3⟩ : ∃ k, k2 + (textL s.data.toList).length = k := ⟨_, rfl⟩
  obtain ⟨k4, hk4⟩ : ∃ k, k3 + (textsL (dl ss)).length = k := ⟨_, rfl⟩
  rw [hk1, hk2, hk3, hk4] at HBB
  have HR8 := Lib.hid hr8
  have HB9 := Lib.hid hb9
  clear hS hr8 hg hb8 hb hb9 hb3 hb5 hb7 hk1 hk2 hk3 hk4 HU HB HTx HL H1 H3 H5 H7
  have C1 := Lib.hid (fun W hr => method0 (Nat.zero_add k1) (RUint_any 18446744073709551615 g S 0 n 0 k1 W HBB.out.d0 (by decide) hSs (Nat.zero_le _) hr))
  have C2 := Lib.hid (fun W hr => method0 HBB.out.e2 (RWord_any g S k1 n 0 8 W HBB.out.d1 hSs (by have := HBB.out.e2; have := HBB.out.l2; have := HBB.out.l3; have := HBB.out.l4; omega) hr))
  have C3 := Lib.hid (fun W hr => method0 (at_ := k2) (K := k3) (by have := HBB.out.l2; omega) (RText_any 1099511627776 1099511627776 g s S k2 0 (k3 - k2) W (by decide) (by decide) (HBB.out.d2 1099511627776 (by rw [ba_len]; omega) (by decide)) hSs (by have := HBB.out.l2; have := HBB.out.l3; have := HBB.out.l4; omega) hr))
  have C4 := Lib.hid (fun W hr => texts0 (at_ := k3) (K := k4) (by have := HBB.out.l3; omega) hr.lt (RTextsF_any 65536 1099511627776 65536 1099511627776 g ss S k3 0 (k4 - k3) W (by decide) (by decide) (by decide) (by decide) (HBB.out.d3 65536 1099511627776 (by have := HR.out.1; omega) (by decide) (fun t ht => by have := HSZ.out t ht; omega) (by decide)) (fun _ => ⟨by have := HR.out.1; unfold maxLen; omega, HR.out.2.2.1⟩) hSs (by have := HBB.out.l3; have := HBB.out.l4; omega) hr))
  go_wp2_with fail
  refine (C1.out _ HR8.out).mono ?_; rintro e w9 ⟨rfl, hr9, hg9⟩
  have HR9 := Lib.hid hr9
  have HB10 := Lib.hid (below_of_but HB9.out hg9 hlt8)
  clear hr9 hg9
  go_wp2_with fail
  refine (C2.out _ HR9.out).mono ?_; rintro e w10 ⟨rfl, hr9, hg9⟩
  have HR10 := Lib.hid hr9
  have HB11 := Lib.hid (below_of_but HB10.out hg9 hlt8)
  clear hr9 hg9
  go_wp2_with fail
  refine (C3.out _ HR10.out).mono ?_; rintro e w11 ⟨rfl, hr9, hg9⟩
  have HR11 := Lib.hid hr9
  have HB12 := Lib.hid (below_of_but HB11.out hg9 hlt8)
  clear hr9 hg9
  go_wp2_with fail
  refine (C4.out _ HR11.out).mono ?_; rintro e w12 ⟨a2, cap2, rfl, hrow, hr9, hg9⟩
  have HR12 := Lib.hid hr9
  have HB13 := Lib.hid (below_of_but HB12.out hg9 hlt8)
  have HROW := Lib.hid hrow
  have hsl : ss.length = len := HR.out.1
  have C5 := Lib.hid (fun w12 hr9 => Rest_any g S k4 w12 HBB.out.l4 hSs hr9)
  simp only [HBB.out.dr] at C5
  rw [hsl] at HROW ⊢
  clear hr9 hg9 hrow C1 C2 C3 C4 HR8 HR9 HR10 HR11 hsl
  go_upto_region 8 with fail
  go_cut [106] from 57 to 105 (fun x wx => x = .bool false ∧ Hid (Below w.heap.size w wx ∧ StrRow wx a2 len ss ∧ StrRow wx a len ss))
  case first =>
    by_cases hz : k4 < S.size
    · have hne : rest.toList.isEmpty = false := by
        have hsz := congrArg ByteArray.size HBB.out.dr
        rw [ByteArray.size_extract] at hsz
        rw [ByteArray.toList_eq]
        cases hl : rest.data.toList with
        | nil =>
          have := ba_len rest
          rw [hl] at this
          simp at this
          omega
        | cons _ _ => rfl
      have C6 := Lib.hid (fun w13 hr => REnd_any g S k4 w13 hr)
      go_wp2_with fail
      refine (C5.out _ HR12.out).mono ?_; rintro e w13 ⟨rfl, nd, rfl⟩
      go_wp2_with fail
      refine (C6.out _ (HR12.out.drewN nd)).mono ?_; rintro e w14 ⟨E, rfl, hE, _, hg14⟩
      rw [if_pos hz] at hE
      rcases hE with ⟨h0, _⟩ | ⟨_, _, bb, rfl, _⟩
      · exact absurd h0 (by decide)
      have hB14 := below_of_but (below_drewN HB13.out nd) hg14 hlt8
      have HX : Hid (Below w.heap.size w w14 ∧ StrRow w14 a2 len ss ∧ StrRow w14 a len ss) := Lib.hid ⟨hB14, (HROW.out.1.below (below_drewN (Below.refl _ _) nd)).but HROW.out.2 hg14, HR.out.below hB14⟩
      clear hg14
      go_wp2_with fail
      go_meet
      exact ⟨rfl, HX⟩
    · obtain rfl : rest = ⟨#[]⟩ := by
        rw [← HBB.out.dr]
        apply ba_inj
        rw [Lib.extract_data, List.drop_of_length_le (by rw [ba_len]; omega)]
        simp
      have C6 := Lib.hid (fun w13 hr => REnd_any g S k4 w13 hr)
      go_wp2_with fail
      refine (C5.out _ HR12.out).mono ?_; rintro e w13 ⟨rfl, nd, rfl⟩
      go_wp2_with fail
      refine (C6.out _ (HR12.out.drewN nd)).mono ?_; rintro e w14 ⟨E, rfl, hE, _, hg14⟩
      rw [if_neg hz] at hE
      rcases hE with ⟨_, rfl⟩ | ⟨h0, _⟩
      rotate_left
      · exact absurd rfl h0
      have hB14 := below_of_but (below_drewN HB13.out nd) hg14 hlt8
      have HX : Hid (Below w.heap.size w w14 ∧ StrRow w14 a2 len ss ∧ StrRow w14 a len ss) := Lib.hid ⟨hB14, (HROW.out.1.below (below_drewN (Below.refl _ _) nd)).but HROW.out.2 hg14, HR.out.below hB14⟩
      clear hg14
      go_wp2_with fail
      go_meet
      exact ⟨rfl, HX⟩
  case rest =>
    obtain ⟨rfl, HX⟩ := hcut
    rename World => wx
    clear HROW HR12
    go_wp2_with fail
    go_loopw [18] (fun i wr => ∃ j : Nat, i = .int .i64 j ∧ j ≤ len ∧ Hid (∃ m, wr = wx.drewN m)) (fun i _ => len - (intOf i).toNat)
    case atStart => exact ⟨0, rfl, by omega, Lib.hid ⟨0, rfl⟩⟩
    case round =>
      obtain ⟨j, rfl, hj, HM⟩ := hrel
      obtain ⟨m', rfl⟩ := HM.out
      by_cases hjn : j < len
      · obtain ⟨b1, o1, x1, rfl, hx1, HX1, _⟩ := HX.out.2.1.item j hjn
        obtain ⟨b2, o2, x2, rfl, hx2, HX2, _⟩ := HX.out.2.2.item j hjn
        obtain rfl : x1 = x2 := Option.some.inj (HX1.out.symm.trans HX2.out)
        go_wp2_with fail
        go_quiet (fail)
        go_wp2_with fail
        go_roundw
        case rel => exact ⟨j + 1, by go_num, by omega, Lib.hid ⟨_, by first | rfl | exact World.drewN_drewN _ _ _⟩⟩
        case measure => simp [intOf]; omega
      · obtain rfl : j = len := by omega
        have hBx := below_drewN HX.out.1 m'
        have HBX := Lib.hid hBx
        clear hBx
        go_wp2_with fail
        refine (alive_any _ (HT.out.below HBX.out) (HH.out.below HBX.out)).mono ?_; rintro e w19 ⟨rfl, hb19⟩
        go_wp2_with fail
        go_ret
        exact ⟨rfl, HBX.out.trans (hb19.mono HBX.out.size)⟩
theorem bulk_mem (ss : List ByteArray) : ∀ t ∈ ss, t.size ≤ bulkS ss := by
  induction ss with
  | nil => intro t h; cases h
  | cons s ss ih =>
    intro t h
    rw [bulkS, List.map_cons, List.sum_cons]
    rcases List.mem_cons.1 h with rfl | h
    · omega
    · have := ih t h
      rw [bulkS] at this
      omega
theorem CodeBack_walk (n : Nat) (s : ByteArray) (a : Option Addr) (len cap : Nat) (ss : List ByteArray) (rest : ByteArray) (w : World) (hn : n < 18446744073709551616) (hs : s.size ≤ 1048576) (hr : StrRow w a len ss) (_hc : len * 16 ≤ 140737488351232) (_hss : ∀ s ∈ ss, s.size ≤ 140737488351232) (hu : bulkS ss ≤ 1048576) (hrest : rest.size ≤ 1048576) (hT : TabAny w) (hH : Handle w) :
    Calls Tryd.prog 9 #[.int .u64 n, .string s, .slice a len cap, .string rest] w fun e w' => e = .returned (.bool true) ∧ Below w.heap.size w w' := by
  by_cases hlen : len ≤ 65536
  · exact CodeBack_walk0 n s a len cap ss rest w hn hs hr (by have := textsL_bulk ss; omega) (fun t ht => by have := bulk_mem ss t ht; omega) hrest hlen hT hH
  · have HT := Lib.hid hT
    have HH := Lib.hid hH
    have hlm := hr.2.1
    unfold maxLen at hlm
    clear hT hH hr
    go_enter Tryd.func9, Tryd.ntmps9
    go_wp2_with fail
    refine (alive_any _ HT.out HH.out).mono ?_; rintro e w19 ⟨rfl, hb19⟩
    go_wp2_with fail
    go_ret
    exact ⟨rfl, hb19⟩
end Go.Proofs.YtnfknbjdggkdpaaDoor
