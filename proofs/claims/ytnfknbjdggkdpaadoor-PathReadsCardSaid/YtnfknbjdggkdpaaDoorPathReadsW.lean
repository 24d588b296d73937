/-
  'yanklinelaw11.PathReads': the walk. No statement is proved here.
-/
import Derived.Test.YtnfknbjdggkdpaaDoorUnderW
import Derived.Test.YtnfknbjdggkdpaaDoorBofW
namespace Go.Proofs.YtnfknbjdggkdpaaDoor
open Go.RowKit
theorem readR_kind {l : List UInt8} {p : PR} (h : readR l = some p) : 1 ≤ p.1 ∧ p.1 < 256 := by
  rw [readR] at h
  split at h
  · cases h; dsimp only; omega
  · split at h
    · cases h; dsimp only; omega
    · split at h
      · cases h; dsimp only; omega
      · split at h
        · cases h; dsimp only; omega
        · cases h
/-- What both say of a text. -/
theorem readBoth (s : ByteArray) : ∃ (K : Nat) (n x p : Int) (m : ByteArray) (E : Int), K < 256 ∧ IntKind.u8.wrap (K : Int) = (K : Int) ∧
    (∀ w e w', ReadIs (readR s.data.toList) w e w' → e = .returned (.tuple #[AggP K n x p m, .int .i64 E]) ∧ Below w.heap.size w w') ∧
    (∀ w e w', RefIs (readR s.data.toList) w e w' → e = .returned (.tuple #[.agg #[.int .i64 K, .int .i64 n, .int .u64 x, .int .u32 p, .string m], .int .i64 E]) ∧ Below w.heap.size w w') ∧
    (∀ k : Nat, kindIs k s = true ↔ E = 0 ∧ K = k) := by
  cases h : readR s.data.toList with
  | none => exact ⟨0, 0, 0, 0, ⟨#[]⟩, 110, by decide, by decide, fun _ _ _ h => h, fun _ _ _ h => h, fun k => by rw [kindIs, h]; simp⟩
  | some r =>
    have hk := readR_kind h
    obtain ⟨q1, q2, q3, q4, q5⟩ := r
    have hk2 : q1 < 256 := hk.2
    exact ⟨q1, q2, q3, q4, ⟨q5.toArray⟩, 0, hk2, by rw [IntKind.wrap_u8]; omega, fun _ _ _ h => h, fun _ _ _ h => h, fun k => by rw [kindIs, h]; simp⟩
theorem filter_len_le (f : ByteArray → Bool) (ss : List ByteArray) (i : Nat) : ((ss.take i).filter f).length ≤ (ss.filter f).length := by
  conv => rhs; rw [← List.take_append_drop i ss, List.filter_append, List.length_append]
  omega
/-- The next one of a kind stands in its place. -/
theorem filter_at {f : ByteArray → Bool} {ss : List ByteArray} {i : Nat} {x : ByteArray} (hx : ss[i]? = some x) (hf : f x = true) :
    ((ss.take i).filter f).length < (ss.filter f).length ∧ (ss.filter f).getD ((ss.take i).filter f).length ByteArray.empty = x := by
  have hi : i < ss.length := (List.getElem?_eq_some_iff.1 hx).1
  have hx' : ss[i] = x := (List.getElem?_eq_some_iff.1 hx).2
  have e : ss = ss.take i ++ x :: ss.drop (i + 1) := by
    conv => lhs; rw [← List.take_append_drop i ss, List.drop_eq_getElem_cons hi, hx']
  have e2 : ss.filter f = (ss.take i).filter f ++ x :: (ss.drop (i + 1)).filter f := by
    conv => lhs; rw [e, List.filter_append, List.filter_cons, if_pos hf]
  rw [e2]
  refine ⟨by rw [List.length_append, List.length_cons]; omega, ?_⟩
  rw [List.getD_eq_getElem?_getD, List.getElem?_append_right (Nat.le_refl _), Nat.sub_self]
  rfl
/-- The texts of a slice in the memory of the call's own. -/
theorem rowOf {w : World} {b : Nat} {l : List ByteArray} (h : ∀ j, j < l.length → w.cell? ⟨b, j, none⟩ = some (.string (l.getD j ByteArray.empty))) (h1 : l.length ≤ maxLen) (h2 : ∀ s ∈ l, s.size ≤ maxLen) : StrRow w (some ⟨b, 0, none⟩) l.length l :=
  ⟨rfl, h1, h2, fun _ => ⟨b, 0, rfl, fun i hi => by rw [Nat.zero_add]; exact h i hi⟩⟩
set_option maxHeartbeats 4000000 in
set_option maxRecDepth 100000 in
theorem PathReads_walk (s : ByteArray) (k : Nat) (a : Option Addr) (len cap : Nat) (ss : List ByteArray) (w : World) (hs : s.size ≤ 140737488351232) (hk : k < 256) (hr : StrRow w a len ss) (_hl : len * 16 ≤ 140737488351232) (hss : ∀ x ∈ ss, x.size ≤ 140737488351232) (hT : TabH w) :
    Calls Tryd.prog 8 #[.string s, .int .u8 k, .slice a len cap] w fun e w' => e = .returned (.bool true) ∧ Below w.heap.size w w' := by
  obtain ⟨K, N, X, PP, M, E, hK, hKw, f1, f2, _⟩ := readBoth s
  have A1 := Lib.hid (fun W hT => (pRead_any s W (by omega) hT).mono (f1 W))
  have A2 := Lib.hid (fun W => (refPathRead_any s W (by omega)).mono (f2 W))
  have HR := Lib.hid hr
  have HT := Lib.hid hT
  have HSS := Lib.hid hss
  clear hss f1 f2 hr hT
  have A3 := Lib.hid (fun W => said_any K N X PP M W hK)
  have hm : (M.toList == M.toList) = true := by simp
  go_enter Tryd.func8, Tryd.ntmps8
  go_wp2_with fail
  refine (A1.out _ HT.out).mono ?_; rintro e w1 ⟨rfl, hb⟩
  have HB1 := Lib.hid hb
  clear hb
  go_upto_region 2 with fail
  obtain ⟨W1, hW⟩ : ∃ W, w1.alloc (.cells #[.int .u8 K, .int .i64 N, .int .u64 X, .int .u32 PP, .string M] 59) = W := ⟨_, rfl⟩
  have hc := CellsP.new w1 59 K N X PP M
  have hbW : Below w.heap.size w W1 := by rw [← hW]; exact HB1.out.trans ((Below.refl _ _).alloc HB1.out.size _)
  rw [hW] at hc ⊢
  have HC1 := Lib.hid hc
  have HBW1 := Lib.hid hbW
  clear hW hc hbW
  go_wp2_with fail
  refine (A2.out _).mono ?_; rintro e w2 ⟨rfl, hb⟩
  have HC2 := Lib.hid (HC1.out.below hb)
  have HB2 := Lib.hid (HBW1.out.trans (hb.mono HBW1.out.size))
  clear hb
  go_upto_region 3 with fail
  obtain ⟨W2, hW⟩ : ∃ W, w2.alloc (.cells #[.int .i64 K, .int .i64 N, .int .u64 X, .int .u32 PP, .string M] 64) = W := ⟨_, rfl⟩
  obtain ⟨qb, hqb⟩ : ∃ q, w2.heap.size = q := ⟨_, rfl⟩
  obtain ⟨pb, hpb⟩ : ∃ q, w1.heap.size = q := ⟨_, rfl⟩
  have hbW : Below w2.heap.size w2 W2 := by rw [← hW]; exact (Below.refl _ _).alloc (Nat.le_refl _) _
  have hq : ∀ i v, (#[.int .i64 K, .int .i64 N, .int .u64 X, .int .u32 PP, .string M] : Array Value)[i]? = some v → W2.cell? ⟨qb, i, none⟩ = some v := fun i v h => by rw [← hW, ← hqb, World.cell?_alloc_mark]; exact h
  have hp := HC2.out.below hbW
  rw [hW]
  rw [hpb] at hp ⊢
  rw [hqb]
  have HB3 := Lib.hid (HB2.out.trans (hbW.mono HB2.out.size))
  clear hW hbW HC2 HC1 HB2 HBW1 hqb hpb
  have p0 := bof_cell hp.c0
  have p1 := bof_cell hp.c1
  have p2 := bof_cell hp.c2
  have p3 := bof_cell hp.c3
  have p4 := bof_cell hp.c4
  have q0 := bof_cell (hq 0 _ rfl)
  have q1 := bof_cell (hq 1 _ rfl)
  have q2 := bof_cell (hq 2 _ rfl)
  have q3 := bof_cell (hq 3 _ rfl)
  have q4 := bof_cell (hq 4 _ rfl)
  clear hq hp
  have HP : Hid (∀ p : BOf W2, (p.W.cell? ⟨pb, 0, none⟩ = some (.int .u8 K) ∧ p.W.cell? ⟨pb, 1, none⟩ = some (.int .i64 N) ∧ p.W.cell? ⟨pb, 2, none⟩ = some (.int .u64 X) ∧ p.W.cell? ⟨pb, 3, none⟩ = some (.int .u32 PP) ∧ p.W.cell? ⟨pb, 4, none⟩ = some (.string M)) ∧
    (p.W.cell? ⟨qb, 0, none⟩ = some (.int .i64 K) ∧ p.W.cell? ⟨qb, 1, none⟩ = some (.int .i64 N) ∧ p.W.cell? ⟨qb, 2, none⟩ = some (.int .u64 X) ∧ p.W.cell? ⟨qb, 3, none⟩ = some (.int .u32 PP) ∧ p.W.cell? ⟨qb, 4, none⟩ = some (.string M))) := Lib.hid (fun p => ⟨⟨p0 p, p1 p, p2 p, p3 p, p4 p⟩, q0 p, q1 p, q2 p, q3 p, q4 p⟩)
  by_cases hl : (300 : Int) < len
  · have hd : decide ((300 : Int) < len) = true := decide_eq_true hl
    refine wp_region_bof (by kernel_rfl) (by kernel_rfl) ?_
    repeat (go_big_quiet_step (first | (go_at_call 39; exact bof_call (A3.out _))))
    refine wpQuiet_nil ?_
    intro W3 hw'
    have hb3 := bof_below hw'
    clear hw'
    obtain ⟨⟨c0, c1, c2, c3, c4⟩, d0, d1, d2, d3, d4⟩ := HP.out ⟨W3, hb3⟩
    have HB4 := Lib.hid (HB3.out.trans (hb3.mono HB3.out.size))
    clear HP p0 p1 p2 p3 p4 q0 q1 q2 q3 q4
    have p0 := bof_cell c0
    have p1 := bof_cell c1
    have p2 := bof_cell c2
    have p3 := bof_cell c3
    have p4 := bof_cell c4
    have q0 := bof_cell d0
    have q1 := bof_cell d1
    have q2 := bof_cell d2
    have q3 := bof_cell d3
    have q4 := bof_cell d4
    clear c0 c1 c2 c3 c4 d0 d1 d2 d3 d4
    go_upto_region 4 with fail
    have HAL : Hid (∀ p : BOf W3, Calls Tryd.prog 36 #[] p.W fun e w' => e = .returned (.bool true) ∧ Below p.W.heap.size p.W w') := Lib.hid (fun p => palive_any _ ((HT.out.below HB4.out).below p.h))
    refine wp_region_bof (by kernel_rfl) (by kernel_rfl) ?_
    repeat (go_big_quiet_step (first | (go_at_call 39; exact bof_call (A3.out _)) | (go_at_call 36; exact bof_call (HAL.out _))))
    refine wpQuiet_nil ?_
    intro W4 hw'
    have hb4 := bof_below hw'
    clear hw'
    have HB5 := Lib.hid (HB4.out.trans (hb4.mono HB4.out.size))
    go_wp2_with fail
    go_ret
    exact ⟨rfl, HB5.out⟩
  · have hd : decide ((300 : Int) < len) = false := decide_eq_false hl
    refine wp_region_bof (by kernel_rfl) (by kernel_rfl) ?_
    repeat (go_big_quiet_step (first | (go_at_call 39; exact bof_call (A3.out _))))
    refine wpQuiet_nil ?_
    intro W3 hw'
    have hb3 := bof_below hw'
    clear hw'
    have HB4 := Lib.hid (HB3.out.trans (hb3.mono HB3.out.size))
    clear HP p0 p1 p2 p3 p4 q0 q1 q2 q3 q4 hb3
    have hlen : len ≤ 300 := by omega
    obtain ⟨a', cap', W4, hap, hrow, hb4⟩ := copy_strs W3 a len cap ss (HR.out.below HB4.out) (by omega)
    have HAP := Lib.hid hap
    have HROW := Lib.hid hrow
    have HB5 := Lib.hid (HB4.out.trans (hb4.mono HB4.out.size))
    clear hap hrow hb4
    go_wp2_with (at_builtin; refine wpList_append_run rfl _ _ 23 23 rfl _ _ rfl rfl HAP.out ?_)
    clear HAP
    have HSS2 := HSS.out
    refine (Under_any k a' len cap' ss W4 HROW.out (by omega) HSS2 hk (HT.out.below HB5.out)).mono ?_; rintro e W5 ⟨rfl, hcl, hb5⟩
    clear HSS2
    obtain ⟨F, hF⟩ : ∃ F, ss.filter (kindIs k) = F := ⟨_, rfl⟩
    obtain ⟨ub, hub⟩ : ∃ b, W4.heap.size = b := ⟨_, rfl⟩
    have hFl : F.length ≤ 300 := by rw [← hF]; have := List.length_filter_le (kindIs k) ss; have := HR.out.1; omega
    have HB6 := Lib.hid (HB5.out.trans (hb5.mono HB5.out.size))
    have HRM := Lib.hid (HROW.out.below hb5)
    rw [hF, hub] at hcl ⊢
    have HRU := Lib.hid (rowOf hcl (by unfold maxLen; omega) (fun x hx => by rw [← hF] at hx; have := HSS.out x (List.mem_filter.1 hx).1; unfold maxLen; omega))
    have HF := Lib.hid hF
    have HRL := Lib.hid (HR.out.below HB6.out)
    clear hcl hb5 hF hub HROW
    go_wp2_with fail
    go_loopw [13, 14] (fun n i wr => ∃ j m : Nat, j ≤ len ∧ i = .int .i64 j ∧ n = .int .i64 m ∧ m ≤ F.length ∧ Hid (m = ((ss.take j).filter (kindIs k)).length) ∧ Hid (Below W5.heap.size W5 wr)) (fun _ i _ => len - (intOf i).toNat)
    case atStart => exact ⟨0, 0, Nat.zero_le _, rfl, rfl, Nat.zero_le _, Lib.hid rfl, Lib.hid (Below.refl _ _)⟩
    case round =>
      obtain ⟨j, m, hj, rfl, rfl, hmF, HM, HBr⟩ := hrel
      by_cases hlt : j < len
      · obtain ⟨lb, lo, x, rfl, hcx, Hx, _⟩ := (HRL.out.below HBr.out).item j hlt
        obtain ⟨mb, mo, x', rfl, hcm, Hx', _⟩ := (HRM.out.below HBr.out).item j hlt
        obtain rfl : x' = x := Option.some.inj (Hx'.out.symm.trans Hx.out)
        obtain ⟨K2, N2, X2, PP2, M2, E2, hK2, hKw2, _, f2, f3⟩ := readBoth x'
        have A2' := Lib.hid (fun W => (refPathRead_any x' W (by have := HSS.out x' (List.mem_of_getElem? Hx.out); omega)).mono (f2 W))
        have F3 := Lib.hid (f3 k)
        clear f2 f3
        go_wp2_with fail
        refine (A2'.out _).mono ?_; rintro e w6 ⟨rfl, hb⟩
        go_upto_region 12 with fail
        obtain ⟨W7, hW⟩ : ∃ W, w6.alloc (.cells #[.int .i64 K2, .int .i64 N2, .int .u64 X2, .int .u32 PP2, .string M2] 64) = W := ⟨_, rfl⟩
        obtain ⟨rb, hrb⟩ : ∃ q, w6.heap.size = q := ⟨_, rfl⟩
        have hbW : Below wr.heap.size wr W7 := by rw [← hW]; exact hb.trans ((Below.refl _ _).alloc hb.size _)
        have hq : W7.cell? ⟨rb, 0, none⟩ = some (.int .i64 K2) := by rw [← hW, ← hrb, World.cell?_alloc_mark]; rfl
        rw [hW, hrb]
        have hcx7 := (hbW.cell (p := ⟨lb, lo + j, none⟩) (World.block_lt_of_cell? wr _ hcx)).trans hcx
        have hcm7 := (hbW.cell (p := ⟨mb, mo + j, none⟩) (World.block_lt_of_cell? wr _ hcm)).trans hcm
        have HB7 := Lib.hid (HBr.out.trans (hbW.mono HBr.out.size))
        have HQ := Lib.hid hq
        clear hW hrb hb hbW hq hcx hcm
        go_quiet (fail)
        have hq := HQ.out
        clear hcm7
        by_cases he : E2 = 0
        · by_cases hk2 : K2 = k
          · have hyes := F3.out.2 ⟨he, hk2⟩
            obtain ⟨hat1, hat2⟩ := filter_at Hx.out hyes
            rw [← HM.out, HF.out] at hat1 hat2
            have HY : Hid (((ss.take (j + 1)).filter (kindIs k)).length = m + 1) := Lib.hid (by rw [filter_yes Hx.out hyes, List.length_append, ← HM.out]; rfl)
            obtain ⟨ub', uo, y, hue, hcu, Hy, _⟩ := (HRU.out.below HB7.out).item m hat1
            obtain ⟨rfl, rfl⟩ : ub = ub' ∧ 0 = uo := by
              injection hue with hue
              injection hue with h1 h2
              exact ⟨h1, h2⟩
            rw [Nat.zero_add] at hcu
            obtain rfl : y = x' := by
              rw [List.getD_eq_getElem?_getD, Hy.out] at hat2
              exact hat2
            have hd : decide ((F.length : Int) ≤ (m : Int)) = false := decide_eq_false (by omega)
            subst he hk2
            clear hyes hat2 hue
            go_upto_region 15 with fail
            go_quiet (fail)
            go_wp2_with fail
            go_roundw
            case rel => exact ⟨j + 1, m + 1, by omega, by go_num, by go_num, by omega, Lib.hid HY.out.symm, Lib.hid (below_drewN HB7.out _)⟩
            case measure => simp [intOf]; omega
          · have hno : kindIs k x' = false := by
              cases h : kindIs k x' with
              | false => rfl
              | true => exact absurd (F3.out.1 h).2 hk2
            have HY : Hid (((ss.take (j + 1)).filter (kindIs k)).length = m) := Lib.hid (by rw [filter_no Hx.out hno, ← HM.out])
            subst he
            clear hno
            go_wp2_with fail
            go_roundw
            case rel => exact ⟨j + 1, m, by omega, by go_num, rfl, by omega, Lib.hid HY.out.symm, Lib.hid (below_drewN HB7.out _)⟩
            case measure => simp [intOf]; omega
        · have hno : kindIs k x' = false := by
            cases h : kindIs k x' with
            | false => rfl
            | true => exact absurd (F3.out.1 h).1 he
          have HY : Hid (((ss.take (j + 1)).filter (kindIs k)).length = m) := Lib.hid (by rw [filter_no Hx.out hno, ← HM.out])
          clear hno
          go_wp2_with fail
          go_roundw
          case rel => exact ⟨j + 1, m, by omega, by go_num, rfl, by omega, Lib.hid HY.out.symm, Lib.hid (below_drewN HB7.out _)⟩
          case measure => simp [intOf]; omega
      · obtain rfl : j = len := by omega
        have hmm : m = F.length := by rw [HM.out, ← HF.out, List.take_of_length_le (by have := HR.out.1; omega)]
        subst hmm
        go_wp2_with fail
        refine (palive_any _ (HT.out.below (HB6.out.trans (HBr.out.mono HB6.out.size)))).mono ?_; rintro e w9 ⟨rfl, hb⟩
        go_wp2_with fail
        go_ret
        exact ⟨rfl, (HB6.out.trans (HBr.out.mono HB6.out.size)).trans (hb.mono (HB6.out.trans (HBr.out.mono HB6.out.size)).size)⟩
end Go.Proofs.YtnfknbjdggkdpaaDoor
