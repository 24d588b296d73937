import Derived.Test.YtnfknbjdggkdpaaDoorBackPlain
import Derived.Test.YtnfknbjdggkdpaaDoorREndW
import Derived.Test.YtnfknbjdggkdpaaDoorCAlive
namespace Go.Proofs.YtnfknbjdggkdpaaDoor
open Go.RowKit
theorem below_of_but {w w1 w' : World} {g : Nat} (hb : Below w.heap.size w w1) (hg : w1.grownBy w' (some g)) (hlt : w.heap.size ≤ g) : Below w.heap.size w w' :=
  ⟨hg.os.trans hb.os, hg.tape.trans hb.tape, hg.output.trans hb.output, Nat.le_trans hb.size hg.size, fun k hk => (hg.block k (Nat.lt_of_lt_of_le hk hb.size) (by simp; omega)).trans (hb.block k hk)⟩
theorem front_cut (s : ByteArray) (k : Nat) (l : List UInt8) (h : l = s.data.toList.take k) : (⟨l.toArray⟩ : ByteArray) = s.extract 0 k := by
  apply ba_inj
  rw [h, Lib.extract_data]
  simp
theorem mem_texts (ts : List (List UInt8)) (t : List UInt8) (h : t ∈ ts) : t.length ≤ (textsL ts).length := by
  have h1 : t.length ≤ (ts.flatMap textL).length := by
    induction ts with
    | nil => cases h
    | cons u ts ih =>
      rw [List.flatMap_cons, List.length_append]
      rcases List.mem_cons.1 h with rfl | h
      · have := (textL_length t).2; omega
      · have := ih h; omega
  rw [textsL, List.length_append]
  omega
theorem txtsR_kle (most M : Nat) (l : List UInt8) (h : (txtsR most M l).2.1 = 0) : (textsL (txtsR most M l).1).length ≤ l.length := by
  rw [txtsR_back most M l h, List.length_take]
  omega
theorem txtsG_kk (M n : Nat) : ∀ l, (txtsG M n l).2.1 = 0 → (txtsG M n l).2.2 ≤ l.length := by
  induction n with
  | zero => intro l _; simp [txtsG]
  | succ n ih =>
    intro l h
    rw [txtsG] at h ⊢
    split at h
    · contradiction
    · rename_i h0
      rw [if_neg h0]
      have h1 := txtR_kle M l
      have h2 := ih _ h
      rw [List.length_drop] at h2
      simp only
      omega
theorem txtsR_kk (most M : Nat) (l : List UInt8) (h : (txtsR most M l).2.1 = 0) : (txtsR most M l).2.2 ≤ l.length := by
  have h1 := (numR_len most l).1
  unfold txtsR at h ⊢
  split at h
  · contradiction
  · rename_i h0
    rw [if_neg h0]
    have h2 := txtsG_kk M _ _ h
    rw [List.length_drop] at h2
    simp only
    omega
theorem txtsR_num (most M : Nat) (l : List UInt8) (h : (txtsR most M l).2.1 = 0) : (txtsR most M l).1.length ≤ most := by
  unfold txtsR at h ⊢
  split at h
  · contradiction
  · rename_i h0
    rw [if_neg h0, (txtsG_back M _ _ h).1]
    exact numR_le most l
set_option maxHeartbeats 4000000 in
set_option maxRecDepth 100000 in
theorem CodeOne_walk (s : ByteArray) (w : World) (hs : s.size ≤ 140737488351232) (hT : TabAny w) (hH : Handle w) :
    Calls Tryd.prog 5 #[.string s] w fun e w' => e = .returned (.bool true) ∧ Below w.heap.size w w' := by
  obtain ⟨x, c, k, hx⟩ : ∃ x c k, numR 18446744073709551615 s.data.toList = (x, c, k) := ⟨_, _, _, rfl⟩
  have hx64 : x < 18446744073709551616 := by have := numR_le 18446744073709551615 s.data.toList; rw [hx] at this; simp only at this; omega
  have hkl : k ≤ s.size := by have := (numR_len 18446744073709551615 s.data.toList).1; rw [hx, ba_len] at this; exact this
  have hxb : c = 0 → (⟨(uintL x).toArray⟩ : ByteArray) = s.extract 0 k := fun h => front_cut s k _ (by have := numR_back 18446744073709551615 s.data.toList; rw [hx] at this; exact this h)
  have HU := Lib.hid (fun g W => RUint_any 18446744073709551615 g s 0 x c k W (by rw [List.drop_zero]; exact hx) (by decide) (by omega) (Nat.zero_le _))
  have HXB := Lib.hid hxb
  obtain ⟨tl, c2, k2, ht⟩ : ∃ x c k, txtR 1073741824 s.data.toList = (x, c, k) := ⟨_, _, _, rfl⟩
  obtain ⟨t, htt⟩ : ∃ t : ByteArray, t.data.toList = tl := ⟨⟨tl.toArray⟩, rfl⟩
  rw [← htt] at ht
  have hkl2 : k2 ≤ s.size := by have := txtR_kle 1073741824 s.data.toList; rw [ht, ba_len] at this; exact this
  have htb : c2 = 0 → textL t.data.toList = s.data.toList.take k2 := fun h => by have := txtR_back 1073741824 s.data.toList; rw [ht] at this; exact this h
  have hts : c2 = 0 → t.size ≤ 140737488351232 := fun h => by
    have h1 := congrArg List.length (htb h)
    have h2 := (textL_length t.data.toList).2
    rw [List.length_take, ba_len] at h1
    rw [ba_len] at h2
    omega
  have HU2 := Lib.hid (fun g W => RText_any 1073741824 1073741824 g t s 0 c2 k2 W (by decide) (by decide) (by rw [List.drop_zero]; exact ht) (by omega) (Nat.zero_le _))
  have HTB := Lib.hid (fun h => front_cut s k2 _ (htb h))
  have HTS := Lib.hid hts
  obtain ⟨l3, c3, k3, hl⟩ : ∃ x c k, txtsR 4096 1073741824 s.data.toList = (x, c, k) := ⟨_, _, _, rfl⟩
  obtain ⟨ss, hss⟩ : ∃ ss : List ByteArray, dl ss = l3 := ⟨l3.map fun l => ⟨l.toArray⟩, by simp [dl, List.map_map, Function.comp_def]⟩
  rw [← hss] at hl
  have hlb : c3 = 0 → textsL (dl ss) = s.data.toList.take k3 := fun h => by have := txtsR_back 4096 1073741824 s.data.toList; rw [hl] at this; exact this h
  have hlk : c3 = 0 → (textsL (dl ss)).length ≤ s.size := fun h => by have := txtsR_kle 4096 1073741824 s.data.toList; rw [hl, ba_len] at this; exact this h
  have hln : c3 = 0 → (dl ss).length ≤ 4096 := fun h => by have := txtsR_num 4096 1073741824 s.data.toList; rw [hl] at this; exact this h
  have hrow : c3 = 0 → ss.length ≤ maxLen ∧ ∀ x ∈ ss, x.size ≤ maxLen := fun h => by
    have h1 := hln h
    rw [dl, List.length_map] at h1
    refine ⟨by unfold maxLen; omega, fun x hx => ?_⟩
    have h2 := mem_texts (dl ss) x.data.toList (by rw [dl]; exact List.mem_map_of_mem hx)
    have h3 := hlk h
    rw [ba_len] at h2
    unfold maxLen
    omega
  have HU3 := Lib.hid (fun g W => RTexts_any 4096 1073741824 4096 1073741824 g ss s 0 c3 k3 W (by decide) (by decide) (by decide) (by decide) (by rw [List.drop_zero]; exact hl) hrow (by omega) (Nat.zero_le _))
  have HLB := Lib.hid (fun h => front_cut s k3 _ (hlb h))
  have HLK := Lib.hid hlk
  have hk3 : c3 = 0 → k3 ≤ s.size := fun h => by have := txtsR_kk 4096 1073741824 s.data.toList; rw [hl, ba_len] at this; exact this h
  have HK3 := Lib.hid hk3
  have HT := Lib.hid hT
  have HH := Lib.hid hH
  clear hx hxb hT hH ht htt htb hts hl hss hlb hlk hln hrow hk3
  go_enter Tryd.func5, Tryd.ntmps5
  go_wp2_with fail
  refine (New_any _ _).mono ?_; rintro e w1 ⟨rfl, hr, hb⟩
  have HR := Lib.hid hr
  clear hr
  go_wp2_with fail
  refine (HU.out _ _ HR.out).mono ?_; rintro e w2 ⟨E, rfl, hE, hr2, hg⟩
  have hB2 := below_of_but hb hg (Nat.le_refl _)
  have HE := Lib.hid hE
  have HR2 := Lib.hid hr2
  clear hE hr2 hg
  go_upto_region 3 with fail
  go_cut [25] from 15 to 24 (fun b wc => b = .bool false ∧ Below w.heap.size w wc)
  case first =>
    rcases HE.out with ⟨rfl, rfl⟩ | ⟨hc0, _, b, rfl, hF⟩
    · have hr3 := HR2.out
      rw [if_pos rfl, Nat.zero_add] at hr3
      have HR3 := Lib.hid hr3
      have hU := fun W => Uint_any x W hx64
      rw [HXB.out (by trivial)] at hU
      have HUU := Lib.hid hU
      clear hr3 hU
      go_wp2_with fail
      refine (HUU.out _).mono ?_; rintro e w3 ⟨rfl, hb3⟩
      have HR4 := Lib.hid (HR3.out.below hb3)
      have hB3 := hB2.trans (hb3.mono hB2.size)
      go_wp2_with fail
      refine (At_any _ _ _ _ HR4.out).mono ?_; rintro e w' ⟨rfl, rfl⟩
      go_wp2_with fail
      go_meet
      exact ⟨rfl, hB3⟩
    · go_wp2_with fail
      go_meet
      exact ⟨rfl, hB2⟩
  case rest =>
    obtain ⟨rfl, hBc⟩ := hcut
    clear HE HR2 HR hB2
    go_wp2_with fail
    refine (New_any _ _).mono ?_; rintro e w4 ⟨rfl, hr, hb4⟩
    have hB4 := hBc.trans (hb4.mono hBc.size)
    have HR := Lib.hid hr
    clear hr
    go_wp2_with fail
    refine (HU2.out _ _ HR.out).mono ?_; rintro e w5 ⟨F, rfl, hE, hr2, hg⟩
    have hB5 := below_of_but hB4 hg hBc.size
    have HE := Lib.hid hE
    have HR2 := Lib.hid hr2
    clear hE hr2 hg
    go_upto_region 7 with fail
    go_cut [43] from 33 to 42 (fun b wc => b = .bool false ∧ Below w.heap.size w wc)
    case first =>
      rcases HE.out with ⟨rfl, rfl⟩ | ⟨hc0, _, b, rfl, hF⟩
      · have hr3 := HR2.out
        rw [if_pos rfl, Nat.zero_add] at hr3
        have HR3 := Lib.hid hr3
        have hts := HTS.out (by trivial)
        have hU := fun W => Text_any t W (by omega)
        rw [HTB.out (by trivial)] at hU
        have HUU := Lib.hid hU
        clear hr3 hU
        go_wp2_with fail
        refine (HUU.out _).mono ?_; rintro e w6 ⟨rfl, hb6⟩
        have HR4 := Lib.hid (HR3.out.below hb6)
        have hB6 := hB5.trans (hb6.mono hB5.size)
        go_wp2_with fail
        refine (At_any _ _ _ _ HR4.out).mono ?_; rintro e w' ⟨rfl, rfl⟩
        go_wp2_with fail
        go_meet
        exact ⟨rfl, hB6⟩
      · go_wp2_with fail
        go_meet
        exact ⟨rfl, hB5⟩
    case rest =>
      obtain ⟨rfl, hBd⟩ := hcut
      clear HE HR2 HR hB5 hB4 hb4
      go_wp2_with fail
      refine (New_any _ _).mono ?_; rintro e w7 ⟨rfl, hr, hb7⟩
      have hB7 := hBd.trans (hb7.mono hBd.size)
      have HR := Lib.hid hr
      clear hr
      go_wp2_with fail
      refine (HU3.out _ _ HR.out).mono ?_; rintro e w8 ⟨F, a, n, cap, rfl, hE, h0, h1, hr2, hg⟩
      have hB8 := below_of_but hB7 hg hBd.size
      have HR2 := Lib.hid hr2
      have H0 := Lib.hid h0
      clear hr2 hg h0 h1
      rcases hE with ⟨rfl, rfl⟩ | ⟨hc0, _, b, rfl, hF⟩
      · have hr3 := HR2.out
        rw [if_pos rfl, Nat.zero_add] at hr3
        have HR3 := Lib.hid hr3
        have hk3 := HK3.out (by trivial)
        obtain ⟨rfl, hrow⟩ := H0.out (by trivial)
        have hT := Texts_any a ss.length cap ss w8 hrow (by have := HLK.out (by trivial); omega)
        rw [HLB.out (by trivial)] at hT
        have HTX := Lib.hid hT
        clear hr3 hT hrow H0
        go_wp2_with fail
        refine HTX.out.mono ?_; rintro e w9 ⟨rfl, hb9⟩
        have HR4 := Lib.hid (HR3.out.below hb9)
        have hB9 := hB8.trans (hb9.mono hB8.size)
        go_wp2_with fail
        refine (At_any _ _ _ _ HR4.out).mono ?_; rintro e w' ⟨rfl, rfl⟩
        go_wp2_with fail
        refine (alive_any _ (HT.out.below hB9) (HH.out.below hB9)).mono ?_; rintro e w10 ⟨rfl, hb10⟩
        go_wp2_with fail
        go_ret
        exact ⟨rfl, hB9.trans (hb10.mono hB9.size)⟩
      · go_wp2_with fail
        refine (alive_any _ (HT.out.below hB8) (HH.out.below hB8)).mono ?_; rintro e w10 ⟨rfl, hb10⟩
        go_wp2_with fail
        go_ret
        exact ⟨rfl, hB8.trans (hb10.mono hB8.size)⟩
end Go.Proofs.YtnfknbjdggkdpaaDoor
