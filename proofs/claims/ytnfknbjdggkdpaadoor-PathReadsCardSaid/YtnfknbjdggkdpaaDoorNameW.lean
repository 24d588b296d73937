/-
  name: what, form, Norm, Is. No statement is proved here.
-/
import Derived.Test.YtnfknbjdggkdpaaDoorBuildW
import Derived.Test.YtnfknbjdggkdpaaDoorNamePlain
namespace Go.Proofs.YtnfknbjdggkdpaaDoor
open Go.RowKit
def WhatIs (k r : Int) (w : World) (e : Ending) (w' : World) : Prop := e = .returned (.tuple #[.int .i64 k, .int .i32 r]) ∧ w = w'
theorem low_toNat (c : UInt8) : (low c).toNat = if 65 ≤ c.toNat ∧ c.toNat ≤ 90 then c.toNat + 32 else c.toNat := by
  unfold low
  split
  · rw [UInt8.toNat_ofNat']; omega
  · rfl
theorem what_lett (c : UInt8) (h : lett c = true) (w : World) : Calls Tryd.prog 107 #[.int .i32 c.toNat] w (WhatIs 1 (low c).toNat w) := by
  have hl := low_toNat c
  unfold lett at h
  rw [decide_eq_true_iff] at h
  by_cases h1 : 65 ≤ c.toNat ∧ c.toNat ≤ 90
  · rw [if_pos h1] at hl
    rw [hl]
    obtain ⟨g1, g2⟩ := h1
    clear h hl
    go_enter Tryd.func107, Tryd.ntmps107
    go_wp2_with fail
    go_ret2
    exact ⟨rfl, rfl⟩
  · rw [if_neg h1] at hl
    rw [hl]
    have h2 : (97 ≤ c.toNat ∧ c.toNat ≤ 122) ∨ (48 ≤ c.toNat ∧ c.toNat ≤ 57) := by omega
    clear h hl h1
    rcases h2 with ⟨g1, g2⟩ | ⟨g1, g2⟩
    all_goals
      go_enter Tryd.func107, Tryd.ntmps107
      go_wp2_with fail
      go_ret2
      exact ⟨rfl, rfl⟩
theorem what_sig (c : UInt8) (h : sig c = true) (w : World) : Calls Tryd.prog 107 #[.int .i32 c.toNat] w (WhatIs 2 c.toNat w) := by
  unfold sig at h
  rw [decide_eq_true_iff] at h
  obtain ⟨n, hn⟩ : ∃ n, c.toNat = n := ⟨_, rfl⟩
  rw [hn] at h ⊢
  rcases h with rfl | rfl | rfl
  all_goals
    clear hn
    go_enter Tryd.func107, Tryd.ntmps107
    go_wp2_with fail
    go_ret2
    exact ⟨rfl, rfl⟩
theorem what_none (r : Int) (h : r < 45 ∨ r = 47 ∨ (58 ≤ r ∧ r ≤ 64) ∨ (91 ≤ r ∧ r ≤ 94) ∨ r = 96 ∨ 123 ≤ r) (w : World) : Calls Tryd.prog 107 #[.int .i32 r] w (WhatIs 0 r w) := by
  have b1 : (r == 45) = false := beq_eq_false_iff_ne.2 (by omega)
  have b2 : (r == 95) = false := beq_eq_false_iff_ne.2 (by omega)
  have b3 : (r == 46) = false := beq_eq_false_iff_ne.2 (by omega)
  rcases h with h | rfl | ⟨h, g⟩ | ⟨h, g⟩ | rfl | h
  all_goals
    go_enter Tryd.func107, Tryd.ntmps107
    go_wp2_with fail
    go_ret2
    exact ⟨rfl, rfl⟩
theorem runeCells_byte (c : UInt8) (h : c.toNat < 128) : Lib.runeCells (c.toNat : Int) = Lib.byteCells [c] := by
  unfold Lib.runeCells
  rw [Lib.encodeRuneZ_one (by omega) (by omega)]
  rfl
theorem lett_lt (c : UInt8) (h : lett c = true) : c.toNat < 128 ∧ (low c).toNat < 128 := by
  have hl := low_toNat c
  unfold lett at h
  rw [decide_eq_true_iff] at h
  split at hl <;> omega
theorem sig_lt (c : UInt8) (h : sig c = true) : c.toNat < 128 := by
  unfold sig at h
  rw [decide_eq_true_iff] at h
  omega
theorem fm_lett (c : UInt8) (l : List UInt8) (last : Nat) (acc : List UInt8) (h : lett c = true) : fm (c :: l) last acc = fm l 1 ((if last = 2 ∧ acc ≠ [] then acc ++ [45] else acc) ++ [low c]) := by rw [fm, if_pos h]
theorem fm_sig (c : UInt8) (l : List UInt8) (last : Nat) (acc : List UInt8) (h : sig c = true) (ha : acc ≠ []) : fm (c :: l) last acc = fm l 2 acc := by
  have hl : ¬ lett c = true := fun h' => by rw [lett_sig c h'] at h; cases h
  rw [fm, if_neg hl, if_pos ⟨h, ha⟩]
theorem fm_sig0 (c : UInt8) (l : List UInt8) (last : Nat) (h : sig c = true) : fm (c :: l) last [] = none := by
  have hl : ¬ lett c = true := fun h' => by rw [lett_sig c h'] at h; cases h
  rw [fm, if_neg hl, if_neg (by simp)]
theorem fm_bad (c : UInt8) (l : List UInt8) (last : Nat) (acc : List UInt8) (h : lett c = false) (h2 : sig c = false) : fm (c :: l) last acc = none := by
  rw [fm, if_neg (by simp [h]), if_neg (by simp [h2])]
def FormIs (x : List UInt8 × Bool) (w : World) (e : Ending) (w' : World) : Prop := e = .returned (.tuple #[.string ⟨x.1.toArray⟩, .bool x.2]) ∧ Below w.heap.size w w'
theorem drop_ba (s : ByteArray) (k : Nat) (h : k < s.size) : s.data.toList.drop k = s[k] :: s.data.toList.drop (k + 1) := by
  rw [List.drop_eq_getElem_cons (by rw [ba_len]; exact h)]
  congr 1
set_option maxHeartbeats 4000000 in
set_option maxRecDepth 1000000 in
theorem form_any (s : ByteArray) (w : World) (hs : s.size ≤ 140737488355328) :
    Calls Tryd.prog 96 #[.string s, .string ⟨#[45]⟩] w (FormIs (formR s.data.toList) w) := by
  by_cases hlen : s.size < 1 ∨ 64 < s.size
  · have hf : formR s.data.toList = ([], false) := by unfold formR; rw [if_pos (by rw [ba_len]; exact hlen)]
    rw [hf]
    rcases hlen with h | h
    · obtain rfl : s = ⟨#[]⟩ := by
        apply ba_inj
        exact List.eq_nil_of_length_eq_zero (by rw [ba_len]; omega)
      go_enter Tryd.func96, Tryd.ntmps96
      go_wp2_with fail
      go_ret2
      exact ⟨rfl, Below.refl _ _⟩
    · have h1 : 1 ≤ s.size := by omega
      go_enter Tryd.func96, Tryd.ntmps96
      go_wp2_with fail
      go_ret2
      exact ⟨rfl, Below.refl _ _⟩
  · have h1 : 1 ≤ s.size := by omega
    have h64 : s.size ≤ 64 := by omega
    have HF0 : Hid (fm s.data.toList 2 [] = none → formR s.data.toList = ([], false)) := Lib.hid (fun h => by rw [formR, if_neg (by rw [ba_len]; exact hlen), h])
    have HF1 : Hid (∀ acc last, fm s.data.toList 2 [] = some (acc, last) → formR s.data.toList = (acc, last == 1)) := Lib.hid (fun acc last h => by rw [formR, if_neg (by rw [ba_len]; exact hlen), h])
    have hd64 : decide ((64 : Int) < (s.size : Int)) = false := decide_eq_false (by omega)
    clear hlen
    go_enter Tryd.func96, Tryd.ntmps96
    go_wp2_with fail
    go_loopw [7] (fun last wr => ∃ (pos la : Nat) (acc : List UInt8), last = .int .i64 la ∧ (la = 1 ∨ la = 2) ∧ pos ≤ s.size ∧ Hid (Lib.IsBuilderF 171 5 w.heap.size w.heap.size (Lib.byteCells acc) wr) ∧ Hid (wr.heap[w.heap.size + 1]? = some (.stringIter s pos)) ∧ Hid (Below w.heap.size w wr) ∧ Hid (fm (s.data.toList.drop pos) la acc = fm s.data.toList 2 []) ∧ acc.length ≤ 2 * pos) (fun _ wr => s.size - wr.iterPos (w.heap.size + 1))
    case atStart =>
      refine ⟨0, 2, [], rfl, .inr rfl, by omega, Lib.hid ((Lib.IsBuilderF.of (Lib.fresh_isBuilder 171 5 w)).alloc _), Lib.hid ?_, Lib.hid (((Below.refl _ w).alloc (Nat.le_refl _) _).alloc (by simp) _), Lib.hid rfl, by simp⟩
      have := World.iter_heap (w.alloc (.cells #[.pointer none, .slice none 0 0] 171)) s 0
      simpa using this
    case round =>
      obtain ⟨pos, la, acc, rfl, hla, hpos, HI, HIT, HB, HG, hal⟩ := hrel
      have hbig := hs
      have hsz : w.heap.size + 1 < wr.heap.size := (Array.getElem?_eq_some_iff.1 HIT.out).1
      by_cases hp : pos < s.size
      · obtain ⟨c, hc⟩ : ∃ c, s[pos] = c := ⟨_, rfl⟩
        have hdrop := drop_ba s pos hp
        rw [hc] at hdrop
        by_cases hasc : c.toNat < 128
        · have hnx : ∀ ty, (Instr.next (.pointer (some ⟨w.heap.size + 1, 0, none⟩)) true ty).run Tryd.prog wr = .ok (.tuple #[.bool true, .int .i64 pos, .int .i32 c.toNat]) (wr.iterAt (w.heap.size + 1) s (pos + 1)) := fun ty => by
            rw [Lib.run_next_ascii_at wr (w.heap.size + 1) s pos ty HIT.out hp (by rw [hc]; exact hasc), hc]
          obtain ⟨w2, hw2⟩ : ∃ w2, wr.iterAt (w.heap.size + 1) s (pos + 1) = w2 := ⟨_, rfl⟩
          have hI2 := HI.out.iterAt HIT.out (pos + 1)
          have hit2 := Lib.iterAt_heap wr (w.heap.size + 1) s pos (pos + 1) HIT.out
          have hbw2 := Lib.below_iterAt HB.out (k := w.heap.size + 1) (by omega) s (pos + 1)
          have hsz2 : w.heap.size ≤ w2.heap.size := by rw [← hw2, Lib.iterAt_size]; omega
          rw [hw2] at hnx hI2 hit2 hbw2
          have HI2 := Lib.hid hI2
          have HIT2 := Lib.hid hit2
          have HB2 := Lib.hid hbw2
          have HD := Lib.hid hdrop
          have HNX := Lib.hid hnx
          clear hI2 hit2 hbw2 hdrop hw2
          cases hl : lett c with
          | true =>
            have HW := Lib.hid (fun W => what_lett c hl W)
            have hlow := lett_lt c hl
            have HGN : Hid (fm (s.data.toList.drop (pos + 1)) 1 ((if la = 2 ∧ acc ≠ [] then acc ++ [45] else acc) ++ [low c]) = fm s.data.toList 2 []) := Lib.hid (by rw [← HG.out, HD.out, fm_lett _ _ _ _ hl])
            have HLB := Lib.hid (show Lib.runeCells ((low c).toNat : Int) = Lib.byteCells [low c] from runeCells_byte _ hlow.2)
            clear hl
            by_cases hcase : la = 2 ∧ acc ≠ []
            · obtain ⟨rfl, hne⟩ := hcase
              have hpos2 : 0 < acc.length := List.length_pos_iff.2 hne
              rw [if_pos ⟨rfl, hne⟩] at HGN
              have hbl : (Lib.byteCells acc).length = acc.length := Lib.byteCells_length acc
              have HLen := Lib.hid (Tryd.Builder_Len_f w.heap.size w.heap.size _ w2 HI2.out)
              rw [hbl] at HLen
              have HS := Lib.hid (WriteString_any w.heap.size w.heap.size _ ⟨#[45]⟩ w2 HI2.out (by rw [hbl, show (⟨#[45]⟩ : ByteArray).size = 1 from rfl]; omega) hsz2)
              clear hne hla
              go_wp2_with fail
              refine (HW.out _).mono ?_; rintro e w' ⟨rfl, rfl⟩
              go_wp2_with fail
              refine HLen.out.mono ?_; rintro e w' ⟨rfl, rfl⟩
              go_wp2_with fail
              refine HS.out.mono ?_; rintro e w3 ⟨rfl, h3, hb3, hk3⟩
              have HI3 : Hid (Lib.IsBuilderF 171 5 w.heap.size w.heap.size (Lib.byteCells (acc ++ [45])) w3) := Lib.hid (by rw [Lib.byteCells_append]; exact .inr h3)
              have HIT3 := Lib.hid (hk3.iter HIT2.out (by omega))
              have HB3 := Lib.hid (HB2.out.trans hb3)
              have hsz3 : w.heap.size ≤ w3.heap.size := Nat.le_trans hsz2 hb3.size
              clear h3 hb3 hk3
              go_wp2_with fail
              refine (WriteRune_any w.heap.size w.heap.size _ _ (by omega) (by omega) _ HI3.out (by rw [Lib.byteCells_length, List.length_append]; simp; omega) hsz3).mono ?_; rintro e w4 ⟨rfl, h4, hb4, hk4⟩
              have HI4 : Hid (Lib.IsBuilderF 171 5 w.heap.size w.heap.size (Lib.byteCells ((acc ++ [45]) ++ [low c])) w4) := Lib.hid (by rw [Lib.byteCells_append (acc ++ [45]), ← HLB.out]; exact .inr h4)
              have HIT4 := Lib.hid (hk4.iter HIT3.out (by omega))
              have HB4 := Lib.hid (HB3.out.trans hb4)
              clear h4 hb4 hk4
              go_wp2_with fail
              go_roundw
              case rel => exact ⟨pos + 1, 1, (acc ++ [45]) ++ [low c], rfl, .inl rfl, by omega, HI4, HIT4, HB4, HGN, by simp; omega⟩
              case measure => simp only [World.iterPos, HIT4.out, HIT.out]; omega
            · rw [if_neg hcase] at HGN
              have HWR := Lib.hid (WriteRune_any w.heap.size w.heap.size _ ((low c).toNat : Int) (by omega) (by omega) _ HI2.out (by rw [Lib.byteCells_length]; omega) hsz2)
              rcases hla with rfl | rfl
              · clear hcase
                go_wp2_with fail
                refine (HW.out _).mono ?_; rintro e w' ⟨rfl, rfl⟩
                go_wp2_with fail
                refine HWR.out.mono ?_; rintro e w4 ⟨rfl, h4, hb4, hk4⟩
                have HI4 : Hid (Lib.IsBuilderF 171 5 w.heap.size w.heap.size (Lib.byteCells (acc ++ [low c])) w4) := Lib.hid (by rw [Lib.byteCells_append acc, ← HLB.out]; exact .inr h4)
                have HIT4 := Lib.hid (hk4.iter HIT2.out (by omega))
                have HB4 := Lib.hid (HB2.out.trans hb4)
                clear h4 hb4 hk4
                go_wp2_with fail
                go_roundw
                case rel => exact ⟨pos + 1, 1, acc ++ [low c], rfl, .inl rfl, by omega, HI4, HIT4, HB4, HGN, by simp; omega⟩
                case measure => simp only [World.iterPos, HIT4.out, HIT.out]; omega
              · obtain rfl : acc = [] := Classical.byContradiction fun h => hcase ⟨rfl, h⟩
                have HLen : Hid (Calls Tryd.prog 108 #[.pointer (some ⟨w.heap.size, 0, none⟩)] w2 fun e w' => e = .returned (.int .i64 0) ∧ w' = w2) := Lib.hid (Tryd.Builder_Len_f w.heap.size w.heap.size _ w2 HI2.out)
                clear hcase
                go_wp2_with fail
                refine (HW.out _).mono ?_; rintro e w' ⟨rfl, rfl⟩
                go_wp2_with fail
                refine HLen.out.mono ?_; rintro e w' ⟨rfl, rfl⟩
                go_wp2_with fail
                refine HWR.out.mono ?_; rintro e w4 ⟨rfl, h4, hb4, hk4⟩
                have HI4 : Hid (Lib.IsBuilderF 171 5 w.heap.size w.heap.size (Lib.byteCells ([] ++ [low c])) w4) := Lib.hid (by rw [Lib.byteCells_append [], ← HLB.out]; exact .inr h4)
                have HIT4 := Lib.hid (hk4.iter HIT2.out (by omega))
                have HB4 := Lib.hid (HB2.out.trans hb4)
                clear h4 hb4 hk4
                go_wp2_with fail
                go_roundw
                case rel => exact ⟨pos + 1, 1, [] ++ [low c], rfl, .inl rfl, by omega, HI4, HIT4, HB4, HGN, by simp; omega⟩
                case measure => simp only [World.iterPos, HIT4.out, HIT.out]; omega
          | false =>
            cases hsg : sig c with
            | true =>
              have HW := Lib.hid (fun W => what_sig c hsg W)
              by_cases ha : acc = []
              · subst ha
                have HLen : Hid (Calls Tryd.prog 108 #[.pointer (some ⟨w.heap.size, 0, none⟩)] w2 fun e w' => e = .returned (.int .i64 0) ∧ w' = w2) := Lib.hid (Tryd.Builder_Len_f w.heap.size w.heap.size _ w2 HI2.out)
                have HR := Lib.hid (HF0.out (by rw [← HG.out, HD.out, fm_sig0 _ _ _ hsg]))
                clear hl hsg
                go_wp2_with fail
                refine (HW.out _).mono ?_; rintro e w' ⟨rfl, rfl⟩
                go_wp2_with fail
                refine HLen.out.mono ?_; rintro e w' ⟨rfl, rfl⟩
                go_wp2_with fail
                go_ret2
                rw [HR.out]
                exact ⟨rfl, HB2.out⟩
              · have hpos2 : 0 < acc.length := List.length_pos_iff.2 ha
                have hbl : (Lib.byteCells acc).length = acc.length := Lib.byteCells_length acc
                have HLen := Lib.hid (Tryd.Builder_Len_f w.heap.size w.heap.size _ w2 HI2.out)
                rw [hbl] at HLen
                have hn0 : ((acc.length : Int) == 0) = false := beq_eq_false_iff_ne.2 (by omega)
                have HGN : Hid (fm (s.data.toList.drop (pos + 1)) 2 acc = fm s.data.toList 2 []) := Lib.hid (by rw [← HG.out, HD.out, fm_sig _ _ _ _ hsg ha])
                clear hl hsg ha hbl
                go_wp2_with fail
                refine (HW.out _).mono ?_; rintro e w' ⟨rfl, rfl⟩
                go_wp2_with fail
                refine HLen.out.mono ?_; rintro e w' ⟨rfl, rfl⟩
                go_wp2_with fail
                go_roundw
                case rel => exact ⟨pos + 1, 2, acc, rfl, .inr rfl, by omega, HI2, HIT2, HB2, HGN, by omega⟩
                case measure => simp only [World.iterPos, HIT2.out, HIT.out]; omega
            | false =>
              have hr : (c.toNat : Int) < 45 ∨ (c.toNat : Int) = 47 ∨ (58 ≤ (c.toNat : Int) ∧ (c.toNat : Int) ≤ 64) ∨ (91 ≤ (c.toNat : Int) ∧ (c.toNat : Int) ≤ 94) ∨ (c.toNat : Int) = 96 ∨ 123 ≤ (c.toNat : Int) := by
                unfold lett at hl
                unfold sig at hsg
                rw [decide_eq_false_iff_not] at hl hsg
                omega
              have HW := Lib.hid (fun W => what_none (c.toNat : Int) hr W)
              have HR := Lib.hid (HF0.out (by rw [← HG.out, HD.out, fm_bad _ _ _ _ hl hsg]))
              clear hl hsg hr
              go_wp2_with fail
              refine (HW.out _).mono ?_; rintro e w' ⟨rfl, rfl⟩
              go_wp2_with fail
              go_ret2
              rw [HR.out]
              exact ⟨rfl, HB2.out⟩
        · have hnx : ∀ ty, (Instr.next (.pointer (some ⟨w.heap.size + 1, 0, none⟩)) true ty).run Tryd.prog wr = .ok (.tuple #[.bool true, .int .i64 pos, .int .i32 (Utf8.decode s pos).1]) (wr.iterAt (w.heap.size + 1) s (pos + (Utf8.decode s pos).2)) := fun ty => Lib.run_next_any_at wr (w.heap.size + 1) s pos ty HIT.out hp
          have hdec := (decode_high s pos hp (by rw [hc]; omega)).1
          obtain ⟨r, hr⟩ : ∃ r, (Utf8.decode s pos).1 = r := ⟨_, rfl⟩
          obtain ⟨w2, hw2⟩ : ∃ w2, wr.iterAt (w.heap.size + 1) s (pos + (Utf8.decode s pos).2) = w2 := ⟨_, rfl⟩
          have HB2 := Lib.hid (Lib.below_iterAt HB.out (k := w.heap.size + 1) (by omega) s (pos + (Utf8.decode s pos).2))
          rw [hw2] at hnx HB2
          rw [hr] at hnx hdec
          have hl : lett c = false := by
            cases h : lett c with
            | false => rfl
            | true => exact absurd (lett_lt c h).1 hasc
          have hsg : sig c = false := by
            cases h : sig c with
            | false => rfl
            | true => exact absurd (sig_lt c h) hasc
          have HW := Lib.hid (fun W => what_none (r : Int) (by omega) W)
          have HR := Lib.hid (HF0.out (by rw [← HG.out, hdrop, fm_bad _ _ _ _ hl hsg]))
          clear hl hsg hdrop hr hw2
          go_wp2_with fail
          refine (HW.out _).mono ?_; rintro e w' ⟨rfl, rfl⟩
          go_wp2_with fail
          go_ret2
          rw [HR.out]
          exact ⟨rfl, HB2.out⟩
      · have hnx : ∀ ty, (Instr.next (.pointer (some ⟨w.heap.size + 1, 0, none⟩)) true ty).run Tryd.prog wr = _ := fun ty => Lib.run_next_end_at wr (w.heap.size + 1) s pos ty HIT.out hp
        have HR : Hid (formR s.data.toList = (acc, la == 1)) := Lib.hid (HF1.out acc la (by rw [← HG.out, List.drop_of_length_le (by rw [ba_len]; omega), fm]))
        have HSt := Lib.hid (Tryd.Builder_String_any_k w.heap.size w.heap.size acc wr HI.out (by omega))
        go_wp2_with fail
        refine HSt.out.mono ?_; rintro e w3 ⟨rfl, _, hb3, _⟩
        have HB3 := Lib.hid (HB.out.trans hb3)
        clear hb3
        rcases hla with rfl | rfl
        all_goals
          go_wp2_with fail
          go_ret2
          rw [HR.out]
          exact ⟨rfl, HB3.out⟩
end Go.Proofs.YtnfknbjdggkdpaaDoor
