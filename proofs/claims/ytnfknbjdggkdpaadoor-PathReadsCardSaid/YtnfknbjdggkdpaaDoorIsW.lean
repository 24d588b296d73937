/-
  name.Norm, name.Is and the reference's. No statement is proved here.
-/
import Derived.Test.YtnfknbjdggkdpaaDoorNameW
import Derived.Laws.IdiomStrings
namespace Go.Proofs.YtnfknbjdggkdpaaDoor
open Go.RowKit
theorem lett_true (c : UInt8) (h : (97 ≤ c.toNat ∧ c.toNat ≤ 122) ∨ (65 ≤ c.toNat ∧ c.toNat ≤ 90) ∨ (48 ≤ c.toNat ∧ c.toNat ≤ 57)) : lett c = true := decide_eq_true h
theorem lett_false (c : UInt8) (h : ¬ ((97 ≤ c.toNat ∧ c.toNat ≤ 122) ∨ (65 ≤ c.toNat ∧ c.toNat ≤ 90) ∨ (48 ≤ c.toNat ∧ c.toNat ≤ 57))) : lett c = false := decide_eq_false h
theorem letter_any (c : UInt8) (w : World) : Calls Tryd.prog 112 #[.int .u8 c.toNat] w fun e w' => e = .returned (.bool (lett c)) ∧ w = w' := by
  by_cases h : (97 ≤ c.toNat ∧ c.toNat ≤ 122) ∨ (65 ≤ c.toNat ∧ c.toNat ≤ 90) ∨ (48 ≤ c.toNat ∧ c.toNat ≤ 57)
  · rw [lett_true c h]
    rcases h with ⟨h, g⟩ | ⟨h, g⟩ | ⟨h, g⟩
    all_goals
      go_enter Tryd.func112, Tryd.ntmps112
      go_wp2_with fail
      go_ret
      refine ⟨ret_val (congrArg Value.bool ?_), rfl⟩
      first | rfl | (simp; omega)
  · rw [lett_false c h]
    have h' : c.toNat < 48 ∨ (58 ≤ c.toNat ∧ c.toNat ≤ 64) ∨ (91 ≤ c.toNat ∧ c.toNat ≤ 96) ∨ 123 ≤ c.toNat := by omega
    clear h
    rcases h' with h | ⟨h, g⟩ | ⟨h, g⟩ | h
    all_goals
      go_enter Tryd.func112, Tryd.ntmps112
      go_wp2_with fail
      go_ret
      refine ⟨ret_val (congrArg Value.bool ?_), rfl⟩
      first | rfl | (simp; omega)
theorem lastOf_get (l : List UInt8) : ∀ d, (h : 0 < l.length) → lastOf l d = l[l.length - 1]'(by omega) := by
  induction l with
  | nil => intro d h; simp at h
  | cons c l ih =>
    intro d h
    rw [lastOf]
    cases l with
    | nil => rfl
    | cons e l => rw [ih c (by simp)]; simp
theorem okc_cases (c : UInt8) : okc c = (lett c || decide (c.toNat = 45 ∨ c.toNat = 95 ∨ c.toNat = 46)) := rfl
theorem all_take (l : List UInt8) (k : Nat) (hk : k < l.length) (h : (l.take k).all okc = true) (hc : okc l[k] = true) : (l.take (k + 1)).all okc = true := by
  rw [← List.take_append_getElem hk, List.all_append, h]
  simp [hc]
theorem all_not (l : List UInt8) (k : Nat) (hk : k < l.length) (hc : okc l[k] = false) : l.all okc = false := by
  cases h : l.all okc with
  | false => rfl
  | true =>
    have := List.all_eq_true.1 h l[k] (List.getElem_mem hk)
    rw [hc] at this
    cases this
set_option maxHeartbeats 2000000 in
set_option maxRecDepth 100000 in
theorem May_any (s : ByteArray) (w : World) (hs : s.size ≤ 140737488355328) : Calls Tryd.prog 97 #[.string s] w fun e w' => e = .returned (.bool (mayN s.data.toList)) ∧ w = w' := by
  have hL := letter_any
  by_cases hlen : s.size < 1 ∨ 64 < s.size
  · have hm : mayN s.data.toList = false := by
      unfold mayN
      rw [decide_eq_false (by rw [ba_len]; omega)]
      rfl
    rw [hm]
    clear hL
    rcases hlen with h | h
    · obtain rfl : s = ⟨#[]⟩ := by
        apply ba_inj
        exact List.eq_nil_of_length_eq_zero (by rw [ba_len]; omega)
      go_enter Tryd.func97, Tryd.ntmps97
      go_wp2_with fail
      go_ret
      exact ⟨rfl, rfl⟩
    · have h1 : 1 ≤ s.size := by omega
      go_enter Tryd.func97, Tryd.ntmps97
      go_wp2_with fail
      go_ret
      exact ⟨rfl, rfl⟩
  · have h1 : 1 ≤ s.size := by omega
    have h0 : 0 < s.size := by omega
    have h64 : s.size ≤ 64 := by omega
    have hlst : s.size - 1 < s.size := by omega
    obtain ⟨c0, hc0⟩ : ∃ c, s[0] = c := ⟨_, rfl⟩
    obtain ⟨c1, hc1⟩ : ∃ c, s[s.size - 1] = c := ⟨_, rfl⟩
    have hd1 : decide ((s.size : Int) < 1) = false := decide_eq_false (by omega)
    have hd64 : decide ((64 : Int) < (s.size : Int)) = false := decide_eq_false (by omega)
    have HM : Hid (mayN s.data.toList = (lett c0 && lett c1 && s.data.toList.all okc)) := Lib.hid (by
      unfold mayN
      rw [decide_eq_true (by rw [ba_len]; omega), Bool.true_and]
      have e0 : s.data.toList.headD 0 = c0 := by
        rw [← hc0]
        have := drop_ba s 0 h0
        rw [List.drop_zero] at this
        rw [this]
        rfl
      have e1 : lastOf s.data.toList 0 = c1 := by
        rw [lastOf_get _ _ (by rw [ba_len]; exact h0), ← hc1]
        simp only [ba_len]
        rfl
      rw [e0, e1])
    clear hlen
    have hi1 : IntKind.i64.wrap ((s.size : Int) - 1) = ((s.size - 1 : Nat) : Int) := by rw [IntKind.wrap_i64]; omega
    cases hl0 : lett c0 with
    | false =>
      have HM0 : Hid (mayN s.data.toList = false) := Lib.hid (by rw [HM.out, hl0]; rfl)
      have H0 := Lib.hid (hL c0 w)
      rw [hl0] at H0
      clear hL hl0
      go_enter Tryd.func97, Tryd.ntmps97
      go_wp2_with fail
      refine H0.out.mono ?_; rintro e w' ⟨rfl, rfl⟩
      go_wp2_with fail
      go_ret
      rw [HM0.out]
      exact ⟨rfl, rfl⟩
    | true =>
      have H0 := Lib.hid (hL c0 w)
      rw [hl0] at H0
      have H1 := Lib.hid (hL c1 w)
      cases hl1 : lett c1 with
      | false =>
        have HM0 : Hid (mayN s.data.toList = false) := Lib.hid (by rw [HM.out, hl0, hl1]; rfl)
        rw [hl1] at H1
        clear hL hl0 hl1
        go_enter Tryd.func97, Tryd.ntmps97
        go_wp2_with fail
        refine H0.out.mono ?_; rintro e w' ⟨rfl, rfl⟩
        go_wp2_with fail
        refine H1.out.mono ?_; rintro e w' ⟨rfl, rfl⟩
        go_wp2_with fail
        go_ret
        rw [HM0.out]
        exact ⟨rfl, rfl⟩
      | true =>
        have HM0 : Hid (mayN s.data.toList = s.data.toList.all okc) := Lib.hid (by rw [HM.out, hl0, hl1]; rfl)
        rw [hl1] at H1
        have HL := Lib.hid hL
        clear hL hl0 hl1
        go_enter Tryd.func97, Tryd.ntmps97
        go_wp2_with fail
        refine H0.out.mono ?_; rintro e w' ⟨rfl, rfl⟩
        go_wp2_with fail
        refine H1.out.mono ?_; rintro e w' ⟨rfl, rfl⟩
        clear hi1 hc0 hc1 hd1 hd64
        go_wp2_with fail
        go_loop [3] (fun i => ∃ k : Nat, i = .int .i64 k ∧ k ≤ s.size ∧ Hid ((s.data.toList.take k).all okc = true)) (fun i => s.size - (intOf i).toNat)
        case atStart => exact ⟨0, rfl, by omega, Lib.hid rfl⟩
        case round =>
          obtain ⟨k, rfl, hk, HA⟩ := hrel
          by_cases hlt : k < s.size
          · obtain ⟨c, hc⟩ : ∃ c, s[k] = c := ⟨_, rfl⟩
            have HC := Lib.hid hc
            have H2 := Lib.hid (HL.out c w)
            cases hlc : lett c with
            | true =>
              rw [hlc] at H2
              have HN : Hid ((s.data.toList.take (k + 1)).all okc = true) := Lib.hid (all_take _ k (by rw [ba_len]; exact hlt) HA.out (by
                have : s.data.toList[k]'(by rw [ba_len]; exact hlt) = c := hc
                rw [this, okc, hlc]; rfl))
              clear hlc
              go_wp2_with fail
              refine H2.out.mono ?_; rintro e w' ⟨rfl, rfl⟩
              go_wp2_with fail
              go_round
              case rel => exact ⟨k + 1, by go_num, by omega, HN⟩
              case measure => simp [intOf]; omega
            | false =>
              rw [hlc] at H2
              cases hsc : sig c with
              | true =>
                have HN : Hid ((s.data.toList.take (k + 1)).all okc = true) := Lib.hid (all_take _ k (by rw [ba_len]; exact hlt) HA.out (by
                  have : s.data.toList[k]'(by rw [ba_len]; exact hlt) = c := hc
                  rw [this, okc, hsc]; simp))
                unfold sig at hsc
                rw [decide_eq_true_iff] at hsc
                clear hlc
                have bt : ∀ z : Int, (c.toNat : Int) ≠ z → ((c.toNat : Int) != z) = true := fun z h => bne_iff_ne.2 h
                have bf : ∀ z : Int, (c.toNat : Int) = z → ((c.toNat : Int) != z) = false := fun z h => by rw [h]; exact bne_self_eq_false z
                have hsc3 : ((c.toNat : Int) != 45) = false ∨ (((c.toNat : Int) != 45) = true ∧ ((c.toNat : Int) != 95) = false) ∨ (((c.toNat : Int) != 45) = true ∧ ((c.toNat : Int) != 95) = true ∧ ((c.toNat : Int) != 46) = false) := by
                  rcases hsc with h | h | h
                  · exact .inl (bf 45 (by omega))
                  · exact .inr (.inl ⟨bt 45 (by omega), bf 95 (by omega)⟩)
                  · exact .inr (.inr ⟨bt 45 (by omega), bt 95 (by omega), bf 46 (by omega)⟩)
                clear bt bf hsc
                rcases hsc3 with h1 | ⟨h1, h2⟩ | ⟨h1, h2, h3⟩
                all_goals
                  go_wp2_with fail
                  refine H2.out.mono ?_; rintro e w' ⟨rfl, rfl⟩
                  go_wp2_with fail
                  go_round
                  case rel => exact ⟨k + 1, by go_num, by omega, HN⟩
                  case measure => simp [intOf]; omega
              | false =>
                have HR : Hid (mayN s.data.toList = false) := Lib.hid (by
                  rw [HM0.out]
                  refine all_not _ k (by rw [ba_len]; exact hlt) ?_
                  have : s.data.toList[k]'(by rw [ba_len]; exact hlt) = c := hc
                  rw [this, okc, hlc, hsc]; rfl)
                unfold sig at hsc
                rw [decide_eq_false_iff_not] at hsc
                have bt : ∀ z : Int, (c.toNat : Int) ≠ z → ((c.toNat : Int) != z) = true := fun z h => bne_iff_ne.2 h
                have g1 := bt 45 (by omega)
                have g2 := bt 95 (by omega)
                have g3 := bt 46 (by omega)
                clear hlc bt hsc
                go_wp2_with fail
                refine H2.out.mono ?_; rintro e w' ⟨rfl, rfl⟩
                go_wp2_with fail
                go_ret
                rw [HR.out]
                exact ⟨rfl, rfl⟩
          · obtain rfl : k = s.size := by omega
            go_wp2_with fail
            go_ret
            rw [HM0.out]
            have := HA.out
            rw [List.take_of_length_le (by rw [ba_len]; omega)] at this
            rw [this]
            exact ⟨rfl, rfl⟩
theorem rf_lett (c : UInt8) (l : List UInt8) (run : Bool) (out : List UInt8) (h : lett c = true) : rf (c :: l) run out = rf l false ((if run then out ++ [45] else out) ++ [low c]) := by rw [rf, if_pos h]
theorem rf_not (c : UInt8) (l : List UInt8) (run : Bool) (out : List UInt8) (h : lett c = false) : rf (c :: l) run out = rf l true out := by rw [rf, if_neg (by simp [h])]
theorem conv1 (W : World) (x : UInt8) (cap : Nat) : (convert 81 9 (.slice (some ⟨W.heap.size, 0, none⟩) 1 cap)).run Tryd.prog (W.alloc (.cells #[.int .u8 x.toNat] 5)) = .ok (.string ⟨#[x]⟩) (W.alloc (.cells #[.int .u8 x.toNat] 5)) :=
  run_convert_bytes_back _ 81 9 5 ⟨W.heap.size, 0, none⟩ cap [x] Tryd.underlying81 Tryd.underlying5 Tryd.underlying9 (fun j hj => by
    obtain rfl : j = 0 := by simpa using hj
    rw [Addr.add_lit, World.cell?_alloc_mark]
    rfl)
set_option maxHeartbeats 2000000 in
set_option maxRecDepth 100000 in
theorem refform_any (s : ByteArray) (w : World) (hs : s.size ≤ 140737488355328) : Calls Tryd.prog 98 #[.string s, .string ⟨#[45]⟩] w fun e w' => e = .returned (.string ⟨(rf s.data.toList false []).toArray⟩) ∧ Below w.heap.size w w' := by
  have HL := Lib.hid letter_any
  go_enter Tryd.func98, Tryd.ntmps98
  go_wp2_with fail
  go_loopw [5, 6, 7] (fun x r i wr => ∃ (k : Nat) (out : ByteArray) (run : Bool), x = .string out ∧ r = .bool run ∧ i = .int .i64 k ∧ k ≤ s.size ∧ out.size ≤ 2 * k ∧ Hid (rf (s.data.toList.drop k) run out.data.toList = rf s.data.toList false []) ∧ Hid (Below w.heap.size w wr)) (fun _ _ i _ => s.size - (intOf i).toNat)
  case atStart => exact ⟨0, ⟨#[]⟩, false, rfl, rfl, rfl, by omega, by decide, Lib.hid rfl, Lib.hid (Below.refl _ _)⟩
  case round =>
    obtain ⟨k, out, run, rfl, rfl, rfl, hk, hout, HG, HB⟩ := hrel
    by_cases hlt : k < s.size
    · obtain ⟨c, hc⟩ : ∃ c, s[k] = c := ⟨_, rfl⟩
      have hdrop := drop_ba s k hlt
      rw [hc] at hdrop
      have HD := Lib.hid hdrop
      have H2 := Lib.hid (HL.out c wr)
      clear hdrop
      cases hl : lett c with
      | false =>
        rw [hl] at H2
        have HN : Hid (rf (s.data.toList.drop (k + 1)) true out.data.toList = rf s.data.toList false []) := Lib.hid (by rw [← HG.out, HD.out, rf_not _ _ _ _ hl])
        clear hl
        go_wp2_with fail
        refine H2.out.mono ?_; rintro e w' ⟨rfl, rfl⟩
        go_wp2_with fail
        go_roundw
        case rel => exact ⟨k + 1, out, true, rfl, rfl, by go_num, by omega, by omega, HN, HB⟩
        case measure => simp [intOf]; omega
      | true =>
        rw [hl] at H2
        have hlow := low_toNat c
        have hc128 := (lett_lt c hl).1
        obtain ⟨o2, ho2⟩ : ∃ o2, o2 = (if run then out ++ (⟨#[45]⟩ : ByteArray) else out) := ⟨_, rfl⟩
        have ho2s : o2.size ≤ 2 * k + 1 := by
          rw [ho2]
          split
          · rw [ByteArray.size_append, show (⟨#[45]⟩ : ByteArray).size = 1 from rfl]; omega
          · omega
        have HN : Hid (rf (s.data.toList.drop (k + 1)) false (o2 ++ (⟨#[low c]⟩ : ByteArray)).data.toList = rf s.data.toList false []) := Lib.hid (by
          rw [← HG.out, HD.out, rf_lett _ _ _ _ hl, ho2]
          cases run <;> simp [ByteArray.data_append])
        clear hl
        have hcv : ∀ (W : World) (z : Int) (cap : Nat), z = ((low c).toNat : Int) → (convert 81 9 (.slice (some ⟨W.heap.size, 0, none⟩) 1 cap)).run Tryd.prog (W.alloc (.cells #[.int .u8 z] 5)) = .ok (.string ⟨#[low c]⟩) (W.alloc (.cells #[.int .u8 z] 5)) := fun W z cap h => by rw [h]; exact conv1 W (low c) cap
        by_cases hup : 65 ≤ c.toNat ∧ c.toNat ≤ 90
        · rw [if_pos hup] at hlow
          have hz : (c.toNat : Int) + 32 = ((low c).toNat : Int) := by omega
          have HZ := Lib.hid hz
          have HCV := Lib.hid hcv
          have hs1 : (⟨#[low c]⟩ : ByteArray).size = 1 := rfl
          obtain ⟨u1, u2⟩ := hup
          clear hlow hz hcv
          cases run
          all_goals
            simp only [Bool.false_eq_true, if_false, if_true] at ho2
            subst ho2
            go_wp2_with fail
            refine H2.out.mono ?_; rintro e w' ⟨rfl, rfl⟩
            go_wp2_with fail
            rw [HCV.out _ _ _ HZ.out]
            go_wp2_with fail
            go_roundw
            case rel => exact ⟨k + 1, _, false, rfl, rfl, by go_num, by omega, by rw [ByteArray.size_append, hs1]; omega, HN, Lib.hid (HB.out.alloc HB.out.size _)⟩
            case measure => simp [intOf]; omega
        · rw [if_neg hup] at hlow
          have hz : (c.toNat : Int) = ((low c).toNat : Int) := by omega
          have HZ := Lib.hid hz
          have HCV := Lib.hid hcv
          have hs1 : (⟨#[low c]⟩ : ByteArray).size = 1 := rfl
          have hup2 : c.toNat < 65 ∨ (65 ≤ c.toNat ∧ 90 < c.toNat) := by omega
          clear hlow hz hcv hup
          rcases hup2 with u1 | ⟨u1, u2⟩
          all_goals
            cases run
            all_goals
              simp only [Bool.false_eq_true, if_false, if_true] at ho2
              subst ho2
              go_wp2_with fail
              refine H2.out.mono ?_; rintro e w' ⟨rfl, rfl⟩
              go_wp2_with fail
              rw [HCV.out _ _ _ HZ.out]
              go_wp2_with fail
              go_roundw
              case rel => exact ⟨k + 1, _, false, rfl, rfl, by go_num, by omega, by rw [ByteArray.size_append, hs1]; omega, HN, Lib.hid (HB.out.alloc HB.out.size _)⟩
              case measure => simp [intOf]; omega
    · obtain rfl : k = s.size := by omega
      go_wp2_with fail
      go_ret
      have := HG.out
      rw [List.drop_of_length_le (by rw [ba_len]; omega), rf] at this
      rw [← this, ba_data]
      exact ⟨rfl, HB.out⟩
def NormIs (o : Option (List UInt8)) (w : World) (e : Ending) (w' : World) : Prop := e = .returned (.tuple #[.string ⟨(o.getD []).toArray⟩, .int .i64 (match o with | none => 60 | some _ => 0)]) ∧ Below w.heap.size w w'
theorem refNorm_any (s : ByteArray) (w : World) (hs : s.size ≤ 140737488355328) : Calls Tryd.prog 80 #[.string s] w (NormIs (normN s.data.toList) w) := by
  have HM := Lib.hid (May_any s w hs)
  have HF := Lib.hid (refform_any s w hs)
  unfold normN
  cases hm : mayN s.data.toList with
  | false =>
    rw [hm] at HM
    rw [if_neg (by simp)]
    clear hm
    go_enter Tryd.func80, Tryd.ntmps80
    go_wp2_with fail
    refine HM.out.mono ?_; rintro e w' ⟨rfl, rfl⟩
    go_wp2_with fail
    go_ret2
    exact ⟨rfl, Below.refl _ _⟩
  | true =>
    rw [hm] at HM
    rw [if_pos rfl]
    clear hm
    go_enter Tryd.func80, Tryd.ntmps80
    go_wp2_with fail
    refine HM.out.mono ?_; rintro e w' ⟨rfl, rfl⟩
    go_wp2_with fail
    refine HF.out.mono ?_; rintro e w1 ⟨rfl, hb⟩
    have HB := Lib.hid hb
    clear hb
    go_wp2_with fail
    go_ret2
    exact ⟨rfl, HB.out⟩
theorem Norm_any (s : ByteArray) (w : World) (hs : s.size ≤ 140737488355328) : Calls Tryd.prog 78 #[.string s] w (NormIs (normN s.data.toList) w) := by
  have hF := form_any s w hs
  have hf := formR_norm s.data.toList
  unfold FormIs at hF
  obtain ⟨acc, ok, hac⟩ : ∃ acc ok, formR s.data.toList = (acc, ok) := ⟨_, _, rfl⟩
  rw [hac] at hF hf
  have HF := Lib.hid hF
  cases hn : normN s.data.toList with
  | none =>
    rw [hn] at hf
    obtain rfl : ok = false := hf.1
    clear hF hac hf hn
    go_enter Tryd.func78, Tryd.ntmps78
    go_wp2_with fail
    refine HF.out.mono ?_; rintro e w1 ⟨rfl, hb⟩
    have HB := Lib.hid hb
    clear hb
    go_wp2_with fail
    go_ret2
    exact ⟨rfl, HB.out⟩
  | some x =>
    rw [hn] at hf
    obtain rfl : ok = true := hf.1
    obtain rfl : acc = x := hf.2 x rfl
    clear hF hac hf hn
    go_enter Tryd.func78, Tryd.ntmps78
    go_wp2_with fail
    refine HF.out.mono ?_; rintro e w1 ⟨rfl, hb⟩
    have HB := Lib.hid hb
    clear hb
    go_wp2_with fail
    go_ret2
    exact ⟨rfl, HB.out⟩
theorem refIs_any (s : ByteArray) (w : World) (hs : s.size ≤ 140737488355328) : Calls Tryd.prog 57 #[.string s] w fun e w' => e = .returned (.bool (isN s.data.toList)) ∧ Below w.heap.size w w' := by
  have HN := Lib.hid (refNorm_any s w hs)
  cases hn : normN s.data.toList with
  | none =>
    have HI : Hid (isN s.data.toList = false) := Lib.hid (by unfold isN; rw [hn]; rfl)
    rw [hn] at HN
    clear hn
    go_enter Tryd.func57, Tryd.ntmps57
    go_wp2_with fail
    refine HN.out.mono ?_; rintro e w' ⟨rfl, hb⟩
    have HB := Lib.hid hb
    clear hb
    go_wp2_with fail
    go_ret
    rw [HI.out]
    exact ⟨rfl, HB.out⟩
  | some x =>
    obtain ⟨t, ht⟩ : ∃ t : ByteArray, t = ⟨x.toArray⟩ := ⟨_, rfl⟩
    have htd : t.data.toList = x := by rw [ht]
    have HI : Hid ((t.toList == s.toList) = isN s.data.toList) := Lib.hid (by
      unfold isN
      rw [hn, Bool.eq_iff_iff, beq_iff_eq, decide_eq_true_iff, ByteArray.toList_eq, ByteArray.toList_eq, htd]
      exact ⟨fun h => by rw [h], fun h => Option.some.inj h⟩)
    rw [hn] at HN
    unfold NormIs at HN
    simp only [Option.getD_some, ← ht] at HN
    clear hn ht htd
    go_enter Tryd.func57, Tryd.ntmps57
    go_wp2_with fail
    refine HN.out.mono ?_; rintro e w' ⟨rfl, hb⟩
    have HB := Lib.hid hb
    clear hb
    go_wp2_with fail
    go_ret
    rw [← HI.out]
    exact ⟨rfl, HB.out⟩
theorem Is_any (s : ByteArray) (w : World) (hs : s.size ≤ 140737488355328) : Calls Tryd.prog 54 #[.string s] w fun e w' => e = .returned (.bool (isN s.data.toList)) ∧ Below w.heap.size w w' := by
  have HN := Lib.hid (Norm_any s w hs)
  cases hn : normN s.data.toList with
  | none =>
    have HI : Hid (isN s.data.toList = false) := Lib.hid (by unfold isN; rw [hn]; rfl)
    rw [hn] at HN
    clear hn
    go_enter Tryd.func54, Tryd.ntmps54
    go_wp2_with fail
    refine HN.out.mono ?_; rintro e w' ⟨rfl, hb⟩
    have HB := Lib.hid hb
    clear hb
    go_wp2_with fail
    go_ret
    rw [HI.out]
    exact ⟨rfl, HB.out⟩
  | some x =>
    obtain ⟨t, ht⟩ : ∃ t : ByteArray, t = ⟨x.toArray⟩ := ⟨_, rfl⟩
    have htd : t.data.toList = x := by rw [ht]
    have HI : Hid ((t.toList == s.toList) = isN s.data.toList) := Lib.hid (by
      unfold isN
      rw [hn, Bool.eq_iff_iff, beq_iff_eq, decide_eq_true_iff, ByteArray.toList_eq, ByteArray.toList_eq, htd]
      exact ⟨fun h => by rw [h], fun h => Option.some.inj h⟩)
    rw [hn] at HN
    unfold NormIs at HN
    simp only [Option.getD_some, ← ht] at HN
    clear hn ht htd
    go_enter Tryd.func54, Tryd.ntmps54
    go_wp2_with fail
    refine HN.out.mono ?_; rintro e w' ⟨rfl, hb⟩
    have HB := Lib.hid hb
    clear hb
    go_wp2_with fail
    go_ret
    rw [← HI.out]
    exact ⟨rfl, HB.out⟩
end Go.Proofs.YtnfknbjdggkdpaaDoor
