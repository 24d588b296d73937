/-
  code.Text, code.Texts and the reference's: the same bytes. No statement is proved here.
-/
import Derived.Test.YtnfknbjdggkdpaaDoorCodeUintW
import Derived.Test.YtnfknbjdggkdpaaDoorStrRow
namespace Go.Proofs.YtnfknbjdggkdpaaDoor
open Go.RowKit
def textL (s : List UInt8) : List UInt8 := uintL s.length ++ s
def textsL (ss : List (List UInt8)) : List UInt8 := uintL ss.length ++ ss.flatMap textL
theorem textL_length (s : List UInt8) : (textL s).length ≤ 10 + s.length ∧ s.length < (textL s).length := by
  have := uintL_length s.length
  rw [textL, List.length_append]
  omega
set_option maxHeartbeats 1000000 in
theorem Text_any (s : ByteArray) (w : World) (hs : s.size ≤ 140737488355328) :
    Calls Tryd.prog 15 #[.string s] w fun e w' => e = .returned (.string ⟨(textL s.data.toList).toArray⟩) ∧ Below w.heap.size w w' := by
  obtain ⟨U, hU⟩ : ∃ U, (⟨(uintL s.size).toArray⟩ : ByteArray) = U := ⟨_, rfl⟩
  have hz : U.size ≤ 10 := by rw [← hU, ba_size]; exact (uintL_length _).1
  have HU := Lib.hid (Uint_any s.size w (by omega))
  rw [hU] at HU
  have he : U ++ s = (⟨(textL s.data.toList).toArray⟩ : ByteArray) := ba_inj _ _ (by
    rw [ByteArray.data_append, Array.toList_append, ← hU]
    simp [textL])
  have HE := Lib.hid he
  have hw : IntKind.u64.wrap (s.size : Int) = (s.size : Int) := by rw [IntKind.wrap_u64]; omega
  clear hU he
  go_enter Tryd.func15, Tryd.ntmps15
  go_wp2_with fail
  refine HU.out.mono ?_; rintro e w1 ⟨rfl, hb⟩
  go_wp2_with fail
  go_ret
  exact ⟨ret_val (by rw [← HE.out]; rfl), hb⟩
set_option maxHeartbeats 1000000 in
theorem refText_any (s : ByteArray) (w : World) (hs : s.size ≤ 140737488355328) :
    Calls Tryd.prog 16 #[.string s] w fun e w' => e = .returned (.string ⟨(textL s.data.toList).toArray⟩) ∧ Below w.heap.size w w' := by
  obtain ⟨U, hU⟩ : ∃ U, (⟨(uintL s.size).toArray⟩ : ByteArray) = U := ⟨_, rfl⟩
  have hz : U.size ≤ 10 := by rw [← hU, ba_size]; exact (uintL_length _).1
  have HU := Lib.hid (refUint_any s.size w (by omega))
  rw [hU] at HU
  have he : U ++ s = (⟨(textL s.data.toList).toArray⟩ : ByteArray) := ba_inj _ _ (by
    rw [ByteArray.data_append, Array.toList_append, ← hU]
    simp [textL])
  have HE := Lib.hid he
  have hw : IntKind.u64.wrap (s.size : Int) = (s.size : Int) := by rw [IntKind.wrap_u64]; omega
  clear hU he
  go_enter Tryd.func16, Tryd.ntmps16
  go_wp2_with fail
  refine HU.out.mono ?_; rintro e w1 ⟨rfl, hb⟩
  go_wp2_with fail
  go_ret
  exact ⟨ret_val (by rw [← HE.out]; rfl), hb⟩
theorem Bts.base {w : World} {base base' : Nat} {v : Value} {l : List UInt8} (h : Bts w base v l) (hb : base' ≤ base) : Bts w base' v l := by
  rcases h with h | ⟨g, cap, cur, fz, hv, hg, rest⟩
  · exact .inl h
  · exact .inr ⟨g, cap, cur, fz, hv, by omega, rest⟩
def dl (ss : List ByteArray) : List (List UInt8) := ss.map fun s => s.data.toList
theorem dl_take_succ (ss : List ByteArray) (k : Nat) (x : ByteArray) (h : ss[k]? = some x) : (dl (ss.take (k + 1))).flatMap textL = (dl (ss.take k)).flatMap textL ++ textL x.data.toList := by
  obtain ⟨hk, hx⟩ := List.getElem?_eq_some_iff.1 h
  rw [← List.take_append_getElem hk, dl, List.map_append, List.flatMap_append, hx, dl]
  simp
theorem dl_take_le (ss : List ByteArray) (k : Nat) : ((dl (ss.take k)).flatMap textL).length ≤ ((dl ss).flatMap textL).length := by
  have h : dl ss = dl (ss.take k) ++ dl (ss.drop k) := by rw [dl, dl, dl, ← List.map_append, List.take_append_drop]
  rw [h, List.flatMap_append, List.length_append]
  omega
set_option maxHeartbeats 1000000 in
set_option maxRecDepth 100000 in
theorem Texts_any (a : Option Addr) (len cap : Nat) (ss : List ByteArray) (w : World) (hr : StrRow w a len ss) (ht : (textsL (dl ss)).length ≤ 140737488355328) :
    Calls Tryd.prog 17 #[.slice a len cap] w fun e w' => e = .returned (.string ⟨(textsL (dl ss)).toArray⟩) ∧ Below w.heap.size w w' := by
  have hlen : len ≤ 9223372036854775807 := by have := hr.2.1; unfold maxLen at this; omega
  have hl : (dl ss).length = len := by rw [dl, List.length_map]; exact hr.1
  obtain ⟨U, hU⟩ : ∃ U, (⟨(uintL len).toArray⟩ : ByteArray) = U := ⟨_, rfl⟩
  have hUl : U.data.toList = uintL len := by rw [← hU]
  have hz : U.size ≤ 10 := by rw [← hU, ba_size]; exact (uintL_length _).1
  have HU := Lib.hid (Uint_any len w (by omega))
  rw [hU] at HU
  have hw : IntKind.u64.wrap (len : Int) = (len : Int) := by rw [IntKind.wrap_u64]; omega
  have hne : uintL len ≠ [] := List.ne_nil_of_length_pos (uintL_length _).2
  have hT : textsL (dl ss) = uintL len ++ (dl ss).flatMap textL := by rw [textsL, hl]
  rw [hT, List.length_append] at ht
  have HR := Lib.hid hr
  have HTT := Lib.hid hT
  have HB := Lib.hid ht
  have HV := Lib.hid (fun W : World => bts_of W U (by omega))
  have HUL := Lib.hid hUl
  have HNE := Lib.hid hne
  clear hr hT ht hU hl hUl hne
  go_enter Tryd.func17, Tryd.ntmps17
  go_wp2_with fail
  refine HU.out.mono ?_; rintro e w1 ⟨rfl, hb⟩
  obtain ⟨v, W, hcv, hv, hbW⟩ := HV.out w1
  have HB0 := Lib.hid (hv.base hb.size)
  have hbW := hb.trans (hbW.mono hb.size)
  clear hv
  go_wp2_with fail
  go_loopw [3, 13] (fun v i wr => ∃ (V : Value) (k : Nat), V = v ∧ i = .int .i64 k ∧ k ≤ len ∧ Hid (Bts wr w.heap.size V (uintL len ++ (dl (ss.take k)).flatMap textL)) ∧ Below w.heap.size w wr) (fun _ i _ => len - (intOf i).toNat)
  case atStart => exact ⟨_, 0, rfl, rfl, Nat.zero_le _, Lib.hid (by rw [List.take_zero, dl, List.map_nil, List.flatMap_nil, List.append_nil, ← HUL.out]; exact HB0.out), hbW⟩
  case round =>
    obtain ⟨V, k, rfl, rfl, hk, HBk, hb⟩ := hrel
    by_cases hlt : k < len
    · obtain ⟨b, off, x, rfl, hc, Hx, Hs⟩ := (HR.out.below hb).item k hlt
      have hsucc := dl_take_succ ss k x Hx.out
      have hle := dl_take_le ss (k + 1)
      rw [hsucc, List.length_append] at hle
      have hx := (textL_length x.data.toList).2
      rw [ba_len] at hx
      have hBB := HB.out
      have hbound : (uintL len ++ (dl (ss.take k)).flatMap textL).length + (textL x.data.toList).length ≤ 140737488355328 := by rw [List.length_append]; omega
      obtain ⟨T, hT⟩ : ∃ T, (⟨(textL x.data.toList).toArray⟩ : ByteArray) = T := ⟨_, rfl⟩
      have hTl : T.data.toList = textL x.data.toList := by rw [← hT]
      have HX := Lib.hid (Text_any x wr (by omega))
      rw [hT] at HX
      have hall : ∀ w1, Below wr.heap.size wr w1 → ∃ v' w2, (Builtin.append_ #[81, 9] 81 #[V, .string T]).run Tryd.prog w1 = .ok v' w2 ∧ Bts w2 w.heap.size v' (uintL len ++ (dl (ss.take (k + 1))).flatMap textL) ∧ Below w.heap.size w w2 := by
        intro w1 hb1
        have hB1 := hb.trans (hb1.mono hb.size)
        obtain ⟨v', w2, h1, h2, h3⟩ := bts_add_str w1 w.heap.size V _ T (HBk.out.below hb1) (by rw [← ba_len T, hTl]; exact hbound) hB1.size
        refine ⟨v', w2, h1, ?_, hB1.trans h3⟩
        rw [hsucc, ← List.append_assoc, ← hTl]
        exact h2
      have HALL := Lib.hid hall
      clear hBB hsucc hle hx hbound hT hTl hall
      go_wp2_with fail
      refine HX.out.mono ?_; rintro e w2 ⟨rfl, hb2⟩
      obtain ⟨v', w3, hap, hB3, hb3⟩ := HALL.out w2 hb2
      have HA := Lib.hid hap
      have HB3 := Lib.hid hB3
      clear hap hB3
      go_wp2_with (at_builtin; refine wpList_append_run rfl _ _ 81 9 rfl _ _ rfl rfl HA.out ?_)
      go_roundw
      case rel => exact ⟨_, k + 1, rfl, by go_num, by omega, HB3, hb3⟩
      case measure => simp [intOf]; omega
    · obtain rfl : k = len := by omega
      have hs := str_of wr w.heap.size V _ HBk.out (by intro e; exact HNE.out (List.append_eq_nil_iff.1 e).1)
      rw [show ss.take k = ss by rw [← HR.out.1]; exact List.take_length, ← HTT.out] at hs
      go_wp2_with fail
      go_ret
      exact ⟨rfl, hb⟩
set_option maxHeartbeats 1000000 in
set_option maxRecDepth 100000 in
theorem refTexts_any (a : Option Addr) (len cap : Nat) (ss : List ByteArray) (w : World) (hr : StrRow w a len ss) (ht : (textsL (dl ss)).length ≤ 140737488355328) :
    Calls Tryd.prog 18 #[.slice a len cap] w fun e w' => e = .returned (.string ⟨(textsL (dl ss)).toArray⟩) ∧ Below w.heap.size w w' := by
  have hlen : len ≤ 9223372036854775807 := by have := hr.2.1; unfold maxLen at this; omega
  have hl : (dl ss).length = len := by rw [dl, List.length_map]; exact hr.1
  obtain ⟨U, hU⟩ : ∃ U, (⟨(uintL len).toArray⟩ : ByteArray) = U := ⟨_, rfl⟩
  have hUl : U.data.toList = uintL len := by rw [← hU]
  have hz : U.size ≤ 10 := by rw [← hU, ba_size]; exact (uintL_length _).1
  have HU := Lib.hid (refUint_any len w (by omega))
  rw [hU] at HU
  have hw : IntKind.u64.wrap (len : Int) = (len : Int) := by rw [IntKind.wrap_u64]; omega
  have hT : textsL (dl ss) = uintL len ++ (dl ss).flatMap textL := by rw [textsL, hl]
  rw [hT, List.length_append] at ht
  have HR := Lib.hid hr
  have HTT := Lib.hid hT
  have HB := Lib.hid ht
  have HUL := Lib.hid hUl
  clear hr hT ht hU hl hUl
  go_enter Tryd.func18, Tryd.ntmps18
  go_wp2_with fail
  refine HU.out.mono ?_; rintro e w1 ⟨rfl, hb⟩
  go_wp2_with fail
  go_loopw [3, 4] (fun s i wr => ∃ (X : ByteArray) (k : Nat), s = .string X ∧ i = .int .i64 k ∧ k ≤ len ∧ X.size ≤ 140737488355328 ∧ Hid (X.data.toList = uintL len ++ (dl (ss.take k)).flatMap textL) ∧ Below w.heap.size w wr) (fun _ i _ => len - (intOf i).toNat)
  case atStart => exact ⟨_, 0, rfl, rfl, Nat.zero_le _, by omega, Lib.hid (by rw [List.take_zero, dl, List.map_nil, List.flatMap_nil, List.append_nil, ← HUL.out]), hb⟩
  case round =>
    obtain ⟨X, k, rfl, rfl, hk, hX, HX, hb⟩ := hrel
    by_cases hlt : k < len
    · obtain ⟨b, off, x, rfl, hc, Hx, Hs⟩ := (HR.out.below hb).item k hlt
      have hsucc := dl_take_succ ss k x Hx.out
      have hle := dl_take_le ss (k + 1)
      rw [hsucc, List.length_append] at hle
      have hx := (textL_length x.data.toList).2
      rw [ba_len] at hx
      have hBB := HB.out
      obtain ⟨T, hT⟩ : ∃ T, (⟨(textL x.data.toList).toArray⟩ : ByteArray) = T := ⟨_, rfl⟩
      have hTl : T.data.toList = textL x.data.toList := by rw [← hT]
      have hXz : X.size = (uintL len).length + ((dl (ss.take k)).flatMap textL).length := by rw [← ba_len, HX.out, List.length_append]
      have hTz : T.size = (textL x.data.toList).length := by rw [← ba_len, hTl]
      have HXX := Lib.hid (refText_any x wr (by omega))
      rw [hT] at HXX
      obtain ⟨Y, hY⟩ : ∃ Y, X ++ T = Y := ⟨_, rfl⟩
      have hYz : Y.size = X.size + T.size := by rw [← hY, ByteArray.size_append]
      have hY2 : Y.size ≤ 140737488355328 := by omega
      have hT2 : X.size + T.size ≤ 140737488355328 := by omega
      have HY : Hid (Y.data.toList = uintL len ++ (dl (ss.take (k + 1))).flatMap textL) := Lib.hid (by rw [← hY, ByteArray.data_append, Array.toList_append, HX.out, hTl, hsucc, List.append_assoc])
      clear hsucc hle hx hBB hT hTl hXz hTz hYz
      go_wp2_with fail
      refine HXX.out.mono ?_; rintro e w2 ⟨rfl, hb2⟩
      go_wp2_with fail
      go_roundw
      case rel => exact ⟨Y, k + 1, rfl, by go_num, by omega, hY2, HY, hb.trans (hb2.mono hb.size)⟩
      case measure => simp [intOf]; omega
    · obtain rfl : k = len := by omega
      have hs : Hid ((⟨(textsL (dl ss)).toArray⟩ : ByteArray) = X) := Lib.hid (ba_inj _ _ (by
        rw [HX.out, show ss.take k = ss by rw [← HR.out.1]; exact List.take_length, ← HTT.out]))
      go_wp2_with fail
      go_ret
      exact ⟨ret_val (by rw [hs.out]; rfl), hb⟩
end Go.Proofs.YtnfknbjdggkdpaaDoor
